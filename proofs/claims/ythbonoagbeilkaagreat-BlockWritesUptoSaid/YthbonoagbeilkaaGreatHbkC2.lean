import Derived.Test.YthbonoagbeilkaaGreatHbO
set_option maxRecDepth 100000
set_option maxHeartbeats 4000000
set_option linter.unusedVariables false
namespace Go.Proofs.YthbonoagbeilkaaGreat.Hay
open Go.Proofs
theorem c_rows_read {W0 : Bse} {m : M} {w : World} {L : List (Nat × List Value)} {TL : List (Nat × Value)} (hS : S W0 m w (L) (TL)) {v0 : Value} {p0 : (List Int)} (ha0 : RV (kSl (kInt .u8)) m v0 p0) {r : (Ap × (List Int) × Bool)} (h : rows_read p0 = some r) :
    Calls Tryz.prog 183 [v0].toArray w (Ret fun v w' => ∃ m', M.le m m' ∧ S W0 m' w' (L) (TL) ∧ ∃ v0_ v1_ v2_ : Value, v = .tuple #[v0_, v1_, v2_] ∧ RV kAp m' v0_ r.1 ∧ RV (kSl (kInt .u8)) m' v1_ r.2.1 ∧ RV kBool m' v2_ r.2.2) := by
 refine kcall Tryz.func183 rfl Tryz.ntmps183 (Nat.le_of_ble_eq_true rfl) fun a hE => ?_
 have hE : Env 94 a [(0, v0)] := hE
 unfold rows_read at h
 refine kseq (kreg ?_)
 refine st hE (st_alloc hS Tryz.zeroValue32 rfl (cs := zc32)) rfl ?_
 rintro _ a w ⟨b1, rfl, hS⟩ hE
 refine qa hE rfl rfl fun a hE => ?_
 refine qa hE rfl rfl fun a hE => ?_
 refine knil (kseq (kseq (kreg ?_)))
 refine qm hE rfl rfl fun a hE => ?_
 refine sp hE (r_lenSl (k := (kInt .u8)) hE rfl rfl Tryz.underlying24 ha0) rfl fun a hE => ?_
 refine sp hE (r_bin hE rfl rfl b_eql) rfl fun a hE => ?_
 refine knil ?_
 refine kif hE rfl (fun hd8 => ?_) (fun hd8 => ?_)
 {
 have h := ite_T hd8 h
 refine kseq (kreg ?_)
 refine st hE (st_build (m := m) (k := kAp) (x0 := Ap.zero) (xx := (⟨0, false, 0, []⟩ : Ap)) (pl := [(0, 1), (1, 1), (2, 1), (3, 1)]) (pv := []) hE rfl Tryz.underlying32 rfl Tryz.zeroValue32 zr32 rfl .nil) rfl ?_
 rintro v10 a _ ⟨rfl, hv9⟩ hE
 refine st0 hE (st_storeF hE hS ty32 StF_self rfl rfl hv9 (i := 0) rfl (zr32 _)) ?_
 rintro _ w ⟨cs11, hc12, hS⟩ hE
 refine qa hE rfl rfl fun a hE => ?_
 refine qa hE rfl rfl fun a hE => ?_
 refine knil (kret ?_)
 obtain rfl := oi h
 try dsimp only
 refine Fin.mk hE (rs := [.cell 2 32, .tmp 3, .tmp 4]) rfl (ResL.cell hE hS ty32 rfl (i := 0) rfl (R_whole hc12) (ResL.tmp hE rfl (ResL.tmp hE rfl ResL.nil))) ?_
 exact ⟨_, (M.le.refl _), (hS.dropL 1), _, _, _, rfl, (RV_of_R (R_whole hc12)), RV_nil, RV_of_bool⟩
 }
 {
 have h := ite_F hd8 h
 refine kskip (kseq ?_)
 obtain ⟨x16, hx17, h⟩ := ob h
 obtain ⟨x21, hx22, h⟩ := ob h
 refine kchain (k := 7) (m := m) (es := []) (Φ := (fun i m ws v => match i with | 0 => v = v0 | 1 => PR (kInt .u8) m v x16 | 2 => v = (.int .u8 x16) ∧ inR .u8 x16 | 3 => v = (.int .i64 (IntKind.i64.wrap x16)) ∧ inR .i64 (IntKind.i64.wrap x16) | 4 => v = v0 | 5 => RV (kSl (kInt .u8)) m v x21 | 6 => v = (.int .i64 (IntKind.i64.wrap x16)) ∧ inR .i64 (IntKind.i64.wrap x16) | _ => True)) (Q := (fun c m ws L' TL' => match c with | 0 => (b1, zc32) :: L = L' ∧ TL = TL' | _ => False)) (cs := [⟨0, 0, false, [(0, v0)]⟩, ⟨0, 0, false, []⟩, ⟨0, 0, false, []⟩, ⟨0, 0, false, []⟩, ⟨0, 0, false, [(0, v0)]⟩, ⟨0, 0, false, []⟩, ⟨0, 0, false, []⟩]) mixed hE hS ⟨rfl, rfl⟩ rfl rfl ⟨⟨rfl, trivial⟩, trivial, trivial, trivial, ⟨rfl, trivial⟩, trivial, trivial, trivial⟩ (by kernel_rfl) ?_ ?_ ?_ ?_
 {
 intro i m_ m2_ ws v hm_ hp_
 match i, hp_ with
 | 0, hp_ => exact hp_
 | 1, hp_ => exact PR.mono hp_ hm_
 | 2, hp_ => exact hp_
 | 3, hp_ => exact hp_
 | 4, hp_ => exact hp_
 | 5, hp_ => exact RV.mono hp_ hm_
 | 6, hp_ => exact hp_
 | _ + 7, hp_ => exact trivial
 }
 {
 intro c m_ m2_ ws L_ T_ hm_ hq_
 match c, hq_ with
 | 0, ⟨e1_, e2_⟩ => exact ⟨e1_, e2_⟩
 | _ + 1, hq_ => exact hq_.elim
 }
 {
 refine ⟨?_, ?_, ?_, ?_, ?_, ?_, ?_, trivial⟩
 {
 refine cplain fun pre_ post_ L_ T_ m' a' w' hl' hp' hm' hq' hS' hE' hT' => ?_
 obtain rfl := len0 hl'
 refine Step.imp (Run1.pure (r_move hE' rfl)) ?_
 rintro _ _ ⟨rfl, rfl⟩
 exact ⟨_, M.le.refl _, hS', rfl⟩
 }
 {
 refine cplain fun pre_ post_ L_ T_ m' a' w' hl' hp' hm' hq' hS' hE' hT' => ?_
 obtain rfl := len0 hl'
 obtain ⟨v25, e26, q27⟩ : ∃ v, a'.tmps.getD 10 undef = v ∧ (v = v0) := ⟨_, rfl, hT' 0 (by decide) 10 rfl⟩
 have hE := hE'.add (e26.trans q27)
 refine Step.imp (st_index (k := (kInt .u8)) hE rfl rfl Tryz.underlying24 Tryz.sizeOf5 (ha0.mono hm') hx17) ?_
 rintro v28 _ ⟨rfl, hp18⟩
 exact ⟨_, M.le.refl _, hS', hp18⟩
 }
 {
 refine cplain fun pre_ post_ L_ T_ m' a' w' hl' hp' hm' hq' hS' hE' hT' => ?_
 obtain rfl := len0 hl'
 obtain ⟨v29, e30, q31⟩ : ∃ v, a'.tmps.getD 11 undef = v ∧ (PR (kInt .u8) m' v x16) := ⟨_, rfl, hT' 1 (by decide) 11 rfl⟩
 have hE := hE'.add (e30)
 refine Step.imp (st_loadM hE hS' ty5 rfl q31) ?_
 rintro v32 _ ⟨rfl, hv19⟩
 obtain ⟨rfl, hr33⟩ := RV_int hv19
 exact ⟨_, M.le.refl _, hS', ⟨rfl, hr33⟩⟩
 }
 {
 refine cplain fun pre_ post_ L_ T_ m' a' w' hl' hp' hm' hq' hS' hE' hT' => ?_
 obtain rfl := len0 hl'
 obtain ⟨v34, e35, q36⟩ : ∃ v, a'.tmps.getD 12 undef = v ∧ (v = (.int .u8 x16) ∧ inR .u8 x16) := ⟨_, rfl, hT' 2 (by decide) 12 rfl⟩
 obtain ⟨q36, hr37⟩ := q36
 have hE := hE'.add (e35.trans q36)
 refine Step.imp (Run1.pure (r_conv hE rfl Tryz.underlying5 Tryz.underlying3 rfl)) ?_
 rintro _ _ ⟨rfl, rfl⟩
 exact ⟨_, M.le.refl _, hS', ⟨rfl, (inR_wrap _ _)⟩⟩
 }
 {
 refine cplain fun pre_ post_ L_ T_ m' a' w' hl' hp' hm' hq' hS' hE' hT' => ?_
 obtain rfl := len0 hl'
 refine Step.imp (Run1.pure (r_move hE' rfl)) ?_
 rintro _ _ ⟨rfl, rfl⟩
 exact ⟨_, M.le.refl _, hS', rfl⟩
 }
 {
 refine cplain fun pre_ post_ L_ T_ m' a' w' hl' hp' hm' hq' hS' hE' hT' => ?_
 obtain rfl := len0 hl'
 obtain ⟨v40, e41, q42⟩ : ∃ v, a'.tmps.getD 14 undef = v ∧ (v = v0) := ⟨_, rfl, hT' 4 (by decide) 14 rfl⟩
 have hE := hE'.add (e41.trans q42)
 refine Step.imp (st_slice (k := (kInt .u8)) hE rfl Tryz.underlying24 Tryz.sizeOf5 (ha0.mono hm') ⟨_, rfl⟩ rfl hx22 (xl := (some (.const (.int .i64 1)))) (xh := none)) ?_
 rintro v43 _ ⟨rfl, hv23⟩
 exact ⟨_, M.le.refl _, hS', hv23⟩
 }
 {
 refine cplain fun pre_ post_ L_ T_ m' a' w' hl' hp' hm' hq' hS' hE' hT' => ?_
 obtain rfl := len0 hl'
 obtain ⟨v44, e45, q46⟩ : ∃ v, a'.tmps.getD 13 undef = v ∧ (v = (.int .i64 (IntKind.i64.wrap x16)) ∧ inR .i64 (IntKind.i64.wrap x16)) := ⟨_, rfl, hT' 3 (by decide) 13 rfl⟩
 obtain ⟨q46, hr47⟩ := q46
 have hE := hE'.add (e45.trans q46)
 refine Step.imp (Run1.pure (r_assign hE rfl)) ?_
 rintro _ _ ⟨rfl, rfl⟩
 exact ⟨_, M.le.refl _, hS', ⟨rfl, hr47⟩⟩
 }
 }
 {
 intro ws_ L_ T_ m49 a w hl50 hm51 hq52 hS hd53 hn54 ho55 hT56
 obtain rfl := len0 hl50
 obtain ⟨rfl, rfl⟩ := hq52
 have hE := EnvD.of (k := 7) (l' := [(0, v0), (2, (.pointer (some ⟨b1, 0, none⟩))), (3, (.slice none 0 0)), (4, (.bool false)), (6, v0), (7, (.int .i64 (p0.length : Int))), (8, (.bool ((p0.length : Int) == 0)))]) hd53 hn54 ho55 ⟨rfl, rfl, rfl, rfl, rfl, rfl, rfl, trivial⟩ rfl
 obtain ⟨v57, e58, q59⟩ : ∃ v, a.tmps.getD 15 undef = v ∧ (RV (kSl (kInt .u8)) m49 v x21) := ⟨_, rfl, hT56 5 (by decide) 15 rfl⟩
 have hE := hE.add (e58)
 obtain ⟨v60, e61, q62⟩ : ∃ v, a.tmps.getD 5 undef = v ∧ (v = (.int .i64 (IntKind.i64.wrap x16)) ∧ inR .i64 (IntKind.i64.wrap x16)) := ⟨_, rfl, hT56 6 (by decide) 5 rfl⟩
 obtain ⟨q62, hr63⟩ := q62
 have hE := hE.add (e61.trans q62)
 refine qa hE rfl rfl fun a hE => ?_
 refine knil (kseq (kblock (kseq (kreg ?_))))
 refine qm hE rfl rfl fun a hE => ?_
 refine sp hE (r_bin hE rfl rfl b_eql) rfl fun a hE => ?_
 refine qa hE rfl rfl fun a hE => ?_
 refine knil ?_
 refine kif hE rfl (fun hd68 => ?_) (fun hd68 => ?_)
 {
 have h := ite_T hd68 h
 refine kseq (kreg ?_)
 obtain ⟨r69, hr70, h⟩ := ob h
 refine st hE (st_call (vs := []) hE rfl Tryz.call128 (c_value_Null (hS := hS) hr70)) rfl ?_
 rintro v74 a w ⟨m71, hm72, hS, hv73⟩ hE
 refine qm hE rfl rfl fun a hE => ?_
 refine st0 hE (st_storeF hE hS ty32 StF_self rfl rfl hv73 (i := 0) rfl (zr32 _)) ?_
 rintro _ w ⟨cs76, hc77, hS⟩ hE
 refine qa hE rfl rfl fun a hE => ?_
 refine qa hE rfl rfl fun a hE => ?_
 refine knil (kret ?_)
 obtain rfl := oi h
 try dsimp only
 refine Fin.mk hE (rs := [.cell 2 32, .tmp 3, .tmp 4]) rfl (ResL.cell hE hS ty32 rfl (i := 0) rfl (R_whole hc77) (ResL.tmp hE rfl (ResL.tmp hE rfl ResL.nil))) ?_
 exact ⟨_, (M.le.trans hm51 hm72), (hS.dropL 1), _, _, _, rfl, (RV_of_R (R_whole hc77)), (q59.mono hm72), RV_of_bool⟩
 }
 {
 have h := ite_F hd68 h
 refine kseq ?_
 refine kcut (fun a w => ∃ x83 : Bool, rows_read_j1 x16 x21 x83 = some r ∧ ∃ m', M.le m49 m' ∧ S W0 m' w ((b1, zc32) :: L) (TL) ∧ Env 94 a [(0, v57), (2, (.pointer (some ⟨b1, 0, none⟩))), (5, (.int .i64 (IntKind.i64.wrap x16))), (21, (.bool x83))]) ?_ ?_
 {
 refine kreg ?_
 refine qm hE rfl rfl fun a hE => ?_
 refine sp hE (r_bin hE rfl rfl b_eql) rfl fun a hE => ?_
 refine qm hE rfl rfl fun a hE => ?_
 rcases Bool.eq_false_or_eq_true ((IntKind.i64.wrap x16) == 1) with hd376 | hd376
 {
 have h := ite_T hd376 h
 refine spg hE rfl rfl rfl rfl hd376 (r_move hE rfl) rfl fun a hE => ?_
 refine spg hE rfl rfl rfl rfl hd376 (r_lenSl (k := (kInt .u8)) hE rfl rfl Tryz.underlying24 q59) rfl fun a hE => ?_
 refine spg hE rfl rfl rfl rfl hd376 (r_bin hE rfl rfl b_geq) rfl fun a hE => ?_
 refine sp hE (r_pickT hE rfl hd376 rfl) rfl fun a hE => ?_
 refine qm hE rfl rfl fun a hE => ?_
 rcases Bool.eq_false_or_eq_true (decide (1 ≤ (x21.length : Int))) with hd382 | hd382
 {
 have h := ite_T hd382 h
 refine spg hE rfl rfl rfl rfl hd382 (r_move hE rfl) rfl fun a hE => ?_
 obtain ⟨x384, hx385, h⟩ := ob h
 refine stg hE rfl rfl rfl rfl hd382 (st_index (k := (kInt .u8)) hE rfl rfl Tryz.underlying24 Tryz.sizeOf5 q59 hx385) rfl ?_
 rintro v387 a _ ⟨rfl, hp386⟩ hE
 refine stg hE rfl rfl rfl rfl hd382 (st_loadM hE hS ty5 rfl hp386) rfl ?_
 rintro v389 a _ ⟨rfl, hv388⟩ hE
 obtain ⟨rfl, hr390⟩ := RV_int hv388
 refine spg hE rfl rfl rfl rfl hd382 (r_bin hE rfl rfl b_leq) rfl fun a hE => ?_
 refine sp hE (r_pickT hE rfl hd382 rfl) rfl fun a hE => ?_
 refine qa hE rfl rfl fun a hE => ?_
 refine knil ?_
 exact ⟨(decide (x384 ≤ 1)), h, _, (M.le.refl _), hS, hE.cut ⟨rfl, rfl, rfl, rfl, trivial⟩⟩
 }
 {
 have h := ite_F hd382 h
 refine sx hE rfl rfl rfl rfl hd382 rfl fun a hE => ?_
 refine sx hE rfl rfl rfl rfl hd382 rfl fun a hE => ?_
 refine sx hE rfl rfl rfl rfl hd382 rfl fun a hE => ?_
 refine sx hE rfl rfl rfl rfl hd382 rfl fun a hE => ?_
 refine sp hE (r_pickF hE rfl hd382 rfl) rfl fun a hE => ?_
 refine qa hE rfl rfl fun a hE => ?_
 refine knil ?_
 exact ⟨false, h, _, (M.le.refl _), hS, hE.cut ⟨rfl, rfl, rfl, rfl, trivial⟩⟩
 }
 }
 {
 have h := ite_F hd376 h
 refine sx hE rfl rfl rfl rfl hd376 rfl fun a hE => ?_
 refine sx hE rfl rfl rfl rfl hd376 rfl fun a hE => ?_
 refine sx hE rfl rfl rfl rfl hd376 rfl fun a hE => ?_
 refine sp hE (r_pickF hE rfl hd376 rfl) rfl fun a hE => ?_
 refine qm hE rfl rfl fun a hE => ?_
 refine sx hE rfl rfl rfl rfl rfl rfl fun a hE => ?_
 refine sx hE rfl rfl rfl rfl rfl rfl fun a hE => ?_
 refine sx hE rfl rfl rfl rfl rfl rfl fun a hE => ?_
 refine sx hE rfl rfl rfl rfl rfl rfl fun a hE => ?_
 refine sp hE (r_pickF hE rfl rfl rfl) rfl fun a hE => ?_
 refine qa hE rfl rfl fun a hE => ?_
 refine knil ?_
 exact ⟨false, h, _, (M.le.refl _), hS, hE.cut ⟨rfl, rfl, rfl, rfl, trivial⟩⟩
 }
 }
 {
 rintro a w ⟨x83, h, m81, hm82, hS, hE⟩
 unfold rows_read_j1 at h
 refine kif hE rfl (fun hd85 => ?_) (fun hd85 => ?_)
 {
 have h := ite_T hd85 h
 refine kseq ?_
 obtain ⟨x86, hx87, h⟩ := ob h
 obtain ⟨r91, hr92, h⟩ := ob h
 obtain ⟨x96, hx97, h⟩ := ob h
 refine kchain (k := 8) (m := m81) (es := [7]) (Φ := (fun i m ws v => match i with | 0 => v = v57 | 1 => PR (kInt .u8) m v x86 | 2 => v = (.int .u8 x86) ∧ inR .u8 x86 | 3 => v = (.bool (x86 == 1)) | 4 => RV kAp m v r91 | 5 => v = v57 | 6 => RV (kSl (kInt .u8)) m v x96 | 7 => True | _ => True)) (Q := (fun c m ws L' TL' => match c with | 0 => (b1, zc32) :: L = L' ∧ TL = TL' | 1 => (b1, (wi ws 0).c) :: L = L' ∧ TL = TL' ∧ kAp.R m (wi ws 0).c r91 | _ => False)) (cs := [⟨0, 0, false, [(0, v57)]⟩, ⟨0, 0, false, []⟩, ⟨0, 0, false, []⟩, ⟨0, 0, false, []⟩, ⟨0, 0, false, []⟩, ⟨0, 1, false, [(0, v57)]⟩, ⟨0, 1, false, []⟩, ⟨0, 0, true, [(2, (.pointer (some ⟨b1, 0, none⟩)))]⟩]) mixed hE hS ⟨rfl, rfl⟩ rfl rfl ⟨⟨rfl, trivial⟩, trivial, trivial, trivial, trivial, ⟨rfl, trivial⟩, trivial, ⟨rfl, trivial⟩, trivial⟩ (by kernel_rfl) ?_ ?_ ?_ ?_
 {
 intro i m_ m2_ ws v hm_ hp_
 match i, hp_ with
 | 0, hp_ => exact hp_
 | 1, hp_ => exact PR.mono hp_ hm_
 | 2, hp_ => exact hp_
 | 3, hp_ => exact hp_
 | 4, hp_ => exact RV.mono hp_ hm_
 | 5, hp_ => exact hp_
 | 6, hp_ => exact RV.mono hp_ hm_
 | 7, hp_ => exact hp_
 | _ + 8, hp_ => exact trivial
 }
 {
 intro c m_ m2_ ws L_ T_ hm_ hq_
 match c, hq_ with
 | 0, ⟨e1_, e2_⟩ => exact ⟨e1_, e2_⟩
 | 1, ⟨e1_, e2_, f0_⟩ => exact ⟨e1_, e2_, (kAp.mono hm_ f0_)⟩
 | _ + 2, hq_ => exact hq_.elim
 }
 {
 refine ⟨?_, ?_, ?_, ?_, ?_, ?_, ?_, ?_, trivial⟩
 {
 refine cplain fun pre_ post_ L_ T_ m' a' w' hl' hp' hm' hq' hS' hE' hT' => ?_
 obtain rfl := len0 hl'
 refine Step.imp (Run1.pure (r_move hE' rfl)) ?_
 rintro _ _ ⟨rfl, rfl⟩
 exact ⟨_, M.le.refl _, hS', rfl⟩
 }
 {
 refine cplain fun pre_ post_ L_ T_ m' a' w' hl' hp' hm' hq' hS' hE' hT' => ?_
 obtain rfl := len0 hl'
 obtain ⟨v103, e104, q105⟩ : ∃ v, a'.tmps.getD 35 undef = v ∧ (v = v57) := ⟨_, rfl, hT' 0 (by decide) 35 rfl⟩
 have hE := hE'.add (e104.trans q105)
 refine Step.imp (st_index (k := (kInt .u8)) hE rfl rfl Tryz.underlying24 Tryz.sizeOf5 (q59.mono (M.le.trans hm82 hm')) hx87) ?_
 rintro v106 _ ⟨rfl, hp88⟩
 exact ⟨_, M.le.refl _, hS', hp88⟩
 }
 {
 refine cplain fun pre_ post_ L_ T_ m' a' w' hl' hp' hm' hq' hS' hE' hT' => ?_
 obtain rfl := len0 hl'
 obtain ⟨v107, e108, q109⟩ : ∃ v, a'.tmps.getD 36 undef = v ∧ (PR (kInt .u8) m' v x86) := ⟨_, rfl, hT' 1 (by decide) 36 rfl⟩
 have hE := hE'.add (e108)
 refine Step.imp (st_loadM hE hS' ty5 rfl q109) ?_
 rintro v110 _ ⟨rfl, hv89⟩
 obtain ⟨rfl, hr111⟩ := RV_int hv89
 exact ⟨_, M.le.refl _, hS', ⟨rfl, hr111⟩⟩
 }
 {
 refine cplain fun pre_ post_ L_ T_ m' a' w' hl' hp' hm' hq' hS' hE' hT' => ?_
 obtain rfl := len0 hl'
 obtain ⟨v112, e113, q114⟩ : ∃ v, a'.tmps.getD 37 undef = v ∧ (v = (.int .u8 x86) ∧ inR .u8 x86) := ⟨_, rfl, hT' 2 (by decide) 37 rfl⟩
 obtain ⟨q114, hr115⟩ := q114
 have hE := hE'.add (e113.trans q114)
 refine Step.imp (Run1.pure (r_bin hE rfl rfl b_eql)) ?_
 rintro _ _ ⟨rfl, rfl⟩
 exact ⟨_, M.le.refl _, hS', rfl⟩
 }
 {
 refine cplain fun pre_ post_ L_ T_ m' a' w' hl' hp' hm' hq' hS' hE' hT' => ?_
 obtain rfl := len0 hl'
 obtain ⟨v117, e118, q119⟩ : ∃ v, a'.tmps.getD 38 undef = v ∧ (v = (.bool (x86 == 1))) := ⟨_, rfl, hT' 3 (by decide) 38 rfl⟩
 have hE := hE'.add (e118.trans q119)
 refine Step.imp (st_call (vs := [(.bool (x86 == 1))]) hE rfl Tryz.call144 (c_value_Bool (hS := hS') hr92)) ?_
 rintro v120 w ⟨m93, hm94, hS, hv95⟩
 exact ⟨_, hm94, hS, hv95⟩
 }
 {
 refine cplain fun pre_ post_ L_ T_ m' a' w' hl' hp' hm' hq' hS' hE' hT' => ?_
 obtain rfl := len0 hl'
 refine Step.imp (Run1.pure (r_move hE' rfl)) ?_
 rintro _ _ ⟨rfl, rfl⟩
 exact ⟨_, M.le.refl _, hS', rfl⟩
 }
 {
 refine cplain fun pre_ post_ L_ T_ m' a' w' hl' hp' hm' hq' hS' hE' hT' => ?_
 obtain rfl := len0 hl'
 obtain ⟨v122, e123, q124⟩ : ∃ v, a'.tmps.getD 40 undef = v ∧ (v = v57) := ⟨_, rfl, hT' 5 (by decide) 40 rfl⟩
 have hE := hE'.add (e123.trans q124)
 refine Step.imp (st_slice (k := (kInt .u8)) hE rfl Tryz.underlying24 Tryz.sizeOf5 (q59.mono (M.le.trans hm82 hm')) ⟨_, rfl⟩ rfl hx97 (xl := (some (.const (.int .i64 1)))) (xh := none)) ?_
 rintro v125 _ ⟨rfl, hv98⟩
 exact ⟨_, M.le.refl _, hS', hv98⟩
 }
 {
 refine cturn fun pre_ L_ T_ m' a' w' hl' hm' hq' hS' hE' hT' => ?_
 obtain rfl := len0 hl'
 obtain ⟨rfl, rfl⟩ := hq'
 obtain ⟨v126, e127, q128⟩ : ∃ v, a'.tmps.getD 39 undef = v ∧ (RV kAp m' v r91) := ⟨_, rfl, hT' 4 (by decide) 39 rfl⟩
 have hE := hE'.add (e127)
 refine Step.imp (st_storeF hE hS' ty32 StF_self rfl rfl q128 (i := 0) rfl (zr32 _)) ?_
 rintro vv101 w ⟨cs99, hc100, hS⟩
 exact ⟨_, ⟨0, undef, cs99, [], []⟩, _, _, M.le.refl _, hS, ⟨rfl, rfl, hc100⟩, trivial⟩
 }
 }
 {
 intro ws_ L_ T_ m129 a w hl130 hm131 hq132 hS hd133 hn134 ho135 hT136
 obtain ⟨⟨_, _, cs99, _, _⟩, rfl⟩ := len1 hl130
 obtain ⟨rfl, rfl, hc137⟩ := hq132
 have hE := EnvD.of (k := 8) (l' := [(0, v57), (2, (.pointer (some ⟨b1, 0, none⟩))), (5, (.int .i64 (IntKind.i64.wrap x16))), (21, (.bool x83))]) hd133 hn134 ho135 ⟨rfl, rfl, rfl, rfl, trivial⟩ rfl
 obtain ⟨v138, e139, q140⟩ : ∃ v, a.tmps.getD 41 undef = v ∧ (RV (kSl (kInt .u8)) m129 v x96) := ⟨_, rfl, hT136 6 (by decide) 41 rfl⟩
 have hE := hE.add (e139)
 refine qa hE rfl rfl fun a hE => ?_
 refine qa hE rfl rfl fun a hE => ?_
 refine knil (kret ?_)
 obtain rfl := oi h
 try dsimp only
 refine Fin.mk hE (rs := [.cell 2 32, .tmp 3, .tmp 4]) rfl (ResL.cell hE hS ty32 rfl (i := 0) rfl (R_whole hc137) (ResL.tmp hE rfl (ResL.tmp hE rfl ResL.nil))) ?_
 exact ⟨_, (M.le.trans hm51 (M.le.trans hm82 hm131)), (hS.dropL 1), _, _, _, rfl, (RV_of_R (R_whole hc137)), q140, RV_of_bool⟩
 }
 }
 {
 have h := ite_F hd85 h
 refine kseq ?_
 refine kcut (fun a w => ∃ x145 : Bool, rows_read_j2 x16 x21 x145 = some r ∧ ∃ m', M.le m81 m' ∧ S W0 m' w ((b1, zc32) :: L) (TL) ∧ Env 94 a [(0, v57), (2, (.pointer (some ⟨b1, 0, none⟩))), (5, (.int .i64 (IntKind.i64.wrap x16))), (42, (.bool x145))]) ?_ ?_
 {
 refine kreg ?_
 refine qm hE rfl rfl fun a hE => ?_
 refine sp hE (r_bin hE rfl rfl b_eql) rfl fun a hE => ?_
 refine qm hE rfl rfl fun a hE => ?_
 rcases Bool.eq_false_or_eq_true ((IntKind.i64.wrap x16) == 2) with hd365 | hd365
 {
 have h := ite_T hd365 h
 refine spg hE rfl rfl rfl rfl hd365 (r_move hE rfl) rfl fun a hE => ?_
 refine spg hE rfl rfl rfl rfl hd365 (r_lenSl (k := (kInt .u8)) hE rfl rfl Tryz.underlying24 (q59.mono hm82)) rfl fun a hE => ?_
 refine spg hE rfl rfl rfl rfl hd365 (r_bin hE rfl rfl b_geq) rfl fun a hE => ?_
 refine sp hE (r_pickT hE rfl hd365 rfl) rfl fun a hE => ?_
 refine qa hE rfl rfl fun a hE => ?_
 refine knil ?_
 exact ⟨(decide (8 ≤ (x21.length : Int))), h, _, (M.le.refl _), hS, hE.cut ⟨rfl, rfl, rfl, rfl, trivial⟩⟩
 }
 {
 have h := ite_F hd365 h
 refine sx hE rfl rfl rfl rfl hd365 rfl fun a hE => ?_
 refine sx hE rfl rfl rfl rfl hd365 rfl fun a hE => ?_
 refine sx hE rfl rfl rfl rfl hd365 rfl fun a hE => ?_
 refine sp hE (r_pickF hE rfl hd365 rfl) rfl fun a hE => ?_
 refine qa hE rfl rfl fun a hE => ?_
 refine knil ?_
 exact ⟨false, h, _, (M.le.refl _), hS, hE.cut ⟨rfl, rfl, rfl, rfl, trivial⟩⟩
 }
 }
 {
 rintro a w ⟨x145, h, m143, hm144, hS, hE⟩
 unfold rows_read_j2 at h
 refine kif hE rfl (fun hd147 => ?_) (fun hd147 => ?_)
 {
 have h := ite_T hd147 h
 refine kseq ?_
 obtain ⟨r148, hr149, h⟩ := ob h
 obtain ⟨r154, hr155, h⟩ := ob h
 obtain ⟨x159, hx160, h⟩ := ob h
 refine kchain (k := 7) (m := m143) (es := [6]) (Φ := (fun i m ws v => match i with | 0 => v = v57 | 1 => v = (.int .u64 r148) ∧ inR .u64 r148 | 2 => v = (.int .i64 (IntKind.i64.wrap r148)) ∧ inR .i64 (IntKind.i64.wrap r148) | 3 => RV kAp m v r154 | 4 => v = v57 | 5 => RV (kSl (kInt .u8)) m v x159 | 6 => True | _ => True)) (Q := (fun c m ws L' TL' => match c with | 0 => (b1, zc32) :: L = L' ∧ TL = TL' | 1 => (b1, (wi ws 0).c) :: L = L' ∧ TL = TL' ∧ kAp.R m (wi ws 0).c r154 | _ => False)) (cs := [⟨0, 0, false, [(0, v57)]⟩, ⟨0, 0, false, []⟩, ⟨0, 0, false, []⟩, ⟨0, 0, false, []⟩, ⟨0, 1, false, [(0, v57)]⟩, ⟨0, 1, false, []⟩, ⟨0, 0, true, [(2, (.pointer (some ⟨b1, 0, none⟩)))]⟩]) mixed hE hS ⟨rfl, rfl⟩ rfl rfl ⟨⟨rfl, trivial⟩, trivial, trivial, trivial, ⟨rfl, trivial⟩, trivial, ⟨rfl, trivial⟩, trivial⟩ (by kernel_rfl) ?_ ?_ ?_ ?_
 {
 intro i m_ m2_ ws v hm_ hp_
 match i, hp_ with
 | 0, hp_ => exact hp_
 | 1, hp_ => exact hp_
 | 2, hp_ => exact hp_
 | 3, hp_ => exact RV.mono hp_ hm_
 | 4, hp_ => exact hp_
 | 5, hp_ => exact RV.mono hp_ hm_
 | 6, hp_ => exact hp_
 | _ + 7, hp_ => exact trivial
 }
 {
 intro c m_ m2_ ws L_ T_ hm_ hq_
 match c, hq_ with
 | 0, ⟨e1_, e2_⟩ => exact ⟨e1_, e2_⟩
 | 1, ⟨e1_, e2_, f0_⟩ => exact ⟨e1_, e2_, (kAp.mono hm_ f0_)⟩
 | _ + 2, hq_ => exact hq_.elim
 }
 {
 refine ⟨?_, ?_, ?_, ?_, ?_, ?_, ?_, trivial⟩
 {
 refine cplain fun pre_ post_ L_ T_ m' a' w' hl' hp' hm' hq' hS' hE' hT' => ?_
 obtain rfl := len0 hl'
 refine Step.imp (Run1.pure (r_move hE' rfl)) ?_
 rintro _ _ ⟨rfl, rfl⟩
 exact ⟨_, M.le.refl _, hS', rfl⟩
 }
 {
 refine cplain fun pre_ post_ L_ T_ m' a' w' hl' hp' hm' hq' hS' hE' hT' => ?_
 obtain rfl := len0 hl'
 obtain ⟨v166, e167, q168⟩ : ∃ v, a'.tmps.getD 50 undef = v ∧ (v = v57) := ⟨_, rfl, hT' 0 (by decide) 50 rfl⟩
 have hE := hE'.add (e167.trans q168)
 refine Step.imp (st_call (vs := [v57]) hE rfl Tryz.call195 (c_rows_number (hS := hS') (q59.mono (M.le.trans hm82 (M.le.trans hm144 hm'))) hr149)) ?_
 rintro v169 w ⟨m150, hm151, hS, hv152⟩
 obtain ⟨rfl, hr170⟩ := RV_int hv152
 exact ⟨_, hm151, hS, ⟨rfl, hr170⟩⟩
 }
 {
 refine cplain fun pre_ post_ L_ T_ m' a' w' hl' hp' hm' hq' hS' hE' hT' => ?_
 obtain rfl := len0 hl'
 obtain ⟨v171, e172, q173⟩ : ∃ v, a'.tmps.getD 51 undef = v ∧ (v = (.int .u64 r148) ∧ inR .u64 r148) := ⟨_, rfl, hT' 1 (by decide) 51 rfl⟩
 obtain ⟨q173, hr174⟩ := q173
 have hE := hE'.add (e172.trans q173)
 refine Step.imp (Run1.pure (r_conv hE rfl Tryz.underlying54 Tryz.underlying2 rfl)) ?_
 rintro _ _ ⟨rfl, rfl⟩
 exact ⟨_, M.le.refl _, hS', ⟨rfl, (inR_wrap _ _)⟩⟩
 }
 {
 refine cplain fun pre_ post_ L_ T_ m' a' w' hl' hp' hm' hq' hS' hE' hT' => ?_
 obtain rfl := len0 hl'
 obtain ⟨v176, e177, q178⟩ : ∃ v, a'.tmps.getD 52 undef = v ∧ (v = (.int .i64 (IntKind.i64.wrap r148)) ∧ inR .i64 (IntKind.i64.wrap r148)) := ⟨_, rfl, hT' 2 (by decide) 52 rfl⟩
 obtain ⟨q178, hr179⟩ := q178
 have hE := hE'.add (e177.trans q178)
 refine Step.imp (st_call (vs := [(.int .i64 (IntKind.i64.wrap r148))]) hE rfl Tryz.call136 (c_value_Int (hS := hS') hr179 hr155)) ?_
 rintro v180 w ⟨m156, hm157, hS, hv158⟩
 exact ⟨_, hm157, hS, hv158⟩
 }
 {
 refine cplain fun pre_ post_ L_ T_ m' a' w' hl' hp' hm' hq' hS' hE' hT' => ?_
 obtain rfl := len0 hl'
 refine Step.imp (Run1.pure (r_move hE' rfl)) ?_
 rintro _ _ ⟨rfl, rfl⟩
 exact ⟨_, M.le.refl _, hS', rfl⟩
 }
 {
 refine cplain fun pre_ post_ L_ T_ m' a' w' hl' hp' hm' hq' hS' hE' hT' => ?_
 obtain rfl := len0 hl'
 obtain ⟨v182, e183, q184⟩ : ∃ v, a'.tmps.getD 54 undef = v ∧ (v = v57) := ⟨_, rfl, hT' 4 (by decide) 54 rfl⟩
 have hE := hE'.add (e183.trans q184)
 refine Step.imp (st_slice (k := (kInt .u8)) hE rfl Tryz.underlying24 Tryz.sizeOf5 (q59.mono (M.le.trans hm82 (M.le.trans hm144 hm'))) ⟨_, rfl⟩ rfl hx160 (xl := (some (.const (.int .i64 8)))) (xh := none)) ?_
 rintro v185 _ ⟨rfl, hv161⟩
 exact ⟨_, M.le.refl _, hS', hv161⟩
 }
 {
 refine cturn fun pre_ L_ T_ m' a' w' hl' hm' hq' hS' hE' hT' => ?_
 obtain rfl := len0 hl'
 obtain ⟨rfl, rfl⟩ := hq'
 obtain ⟨v186, e187, q188⟩ : ∃ v, a'.tmps.getD 53 undef = v ∧ (RV kAp m' v r154) := ⟨_, rfl, hT' 3 (by decide) 53 rfl⟩
 have hE := hE'.add (e187)
 refine Step.imp (st_storeF hE hS' ty32 StF_self rfl rfl q188 (i := 0) rfl (zr32 _)) ?_
 rintro vv164 w ⟨cs162, hc163, hS⟩
 exact ⟨_, ⟨0, undef, cs162, [], []⟩, _, _, M.le.refl _, hS, ⟨rfl, rfl, hc163⟩, trivial⟩
 }
 }
 {
 intro ws_ L_ T_ m189 a w hl190 hm191 hq192 hS hd193 hn194 ho195 hT196
 obtain ⟨⟨_, _, cs162, _, _⟩, rfl⟩ := len1 hl190
 obtain ⟨rfl, rfl, hc197⟩ := hq192
 have hE := EnvD.of (k := 7) (l' := [(0, v57), (2, (.pointer (some ⟨b1, 0, none⟩))), (5, (.int .i64 (IntKind.i64.wrap x16))), (42, (.bool x145))]) hd193 hn194 ho195 ⟨rfl, rfl, rfl, rfl, trivial⟩ rfl
 obtain ⟨v198, e199, q200⟩ : ∃ v, a.tmps.getD 55 undef = v ∧ (RV (kSl (kInt .u8)) m189 v x159) := ⟨_, rfl, hT196 5 (by decide) 55 rfl⟩
 have hE := hE.add (e199)
 refine qa hE rfl rfl fun a hE => ?_
 refine qa hE rfl rfl fun a hE => ?_
 refine knil (kret ?_)
 obtain rfl := oi h
 try dsimp only
 refine Fin.mk hE (rs := [.cell 2 32, .tmp 3, .tmp 4]) rfl (ResL.cell hE hS ty32 rfl (i := 0) rfl (R_whole hc197) (ResL.tmp hE rfl (ResL.tmp hE rfl ResL.nil))) ?_
 exact ⟨_, (M.le.trans hm51 (M.le.trans hm82 (M.le.trans hm144 hm191))), (hS.dropL 1), _, _, _, rfl, (RV_of_R (R_whole hc197)), q200, RV_of_bool⟩
 }
 }
 {
 have h := ite_F hd147 h
 refine kseq ?_
 refine kcut (fun a w => ∃ x205 : Bool, rows_read_j3 x21 x205 = some r ∧ ∃ m', M.le m143 m' ∧ S W0 m' w ((b1, zc32) :: L) (TL) ∧ Env 94 a [(0, v57), (2, (.pointer (some ⟨b1, 0, none⟩))), (56, (.bool x205))]) ?_ ?_
 {
 refine kreg ?_
 refine qm hE rfl rfl fun a hE => ?_
 refine sp hE (r_bin hE rfl rfl b_eql) rfl fun a hE => ?_
 refine qm hE rfl rfl fun a hE => ?_
 rcases Bool.eq_false_or_eq_true ((IntKind.i64.wrap x16) == 3) with hd317 | hd317
 {
 have h := ite_T hd317 h
 refine spg hE rfl rfl rfl rfl hd317 (r_move hE rfl) rfl fun a hE => ?_
 refine spg hE rfl rfl rfl rfl hd317 (r_lenSl (k := (kInt .u8)) hE rfl rfl Tryz.underlying24 (q59.mono (M.le.trans hm82 hm144))) rfl fun a hE => ?_
 refine spg hE rfl rfl rfl rfl hd317 (r_bin hE rfl rfl b_geq) rfl fun a hE => ?_
 refine sp hE (r_pickT hE rfl hd317 rfl) rfl fun a hE => ?_
 refine qm hE rfl rfl fun a hE => ?_
 rcases Bool.eq_false_or_eq_true (decide (1 ≤ (x21.length : Int))) with hd323 | hd323
 {
 have h := ite_T hd323 h
 refine spg hE rfl rfl rfl rfl hd323 (r_move hE rfl) rfl fun a hE => ?_
 obtain ⟨x325, hx326, h⟩ := ob h
 refine stg hE rfl rfl rfl rfl hd323 (st_index (k := (kInt .u8)) hE rfl rfl Tryz.underlying24 Tryz.sizeOf5 (q59.mono (M.le.trans hm82 hm144)) hx326) rfl ?_
 rintro v328 a _ ⟨rfl, hp327⟩ hE
 refine stg hE rfl rfl rfl rfl hd323 (st_loadM hE hS ty5 rfl hp327) rfl ?_
 rintro v330 a _ ⟨rfl, hv329⟩ hE
 obtain ⟨rfl, hr331⟩ := RV_int hv329
 refine spg hE rfl rfl rfl rfl hd323 (r_bin hE rfl rfl b_leq) rfl fun a hE => ?_
 refine sp hE (r_pickT hE rfl hd323 rfl) rfl fun a hE => ?_
 refine qm hE rfl rfl fun a hE => ?_
 rcases Bool.eq_false_or_eq_true (decide (x325 ≤ 64)) with hd335 | hd335
 {
 have h := ite_T hd335 h
 refine spg hE rfl rfl rfl rfl hd335 (r_move hE rfl) rfl fun a hE => ?_
 refine spg hE rfl rfl rfl rfl hd335 (r_lenSl (k := (kInt .u8)) hE rfl rfl Tryz.underlying24 (q59.mono (M.le.trans hm82 hm144))) rfl fun a hE => ?_
 refine spg hE rfl rfl rfl rfl hd335 (r_move hE rfl) rfl fun a hE => ?_
 obtain ⟨x339, hx340, h⟩ := ob h
 refine stg hE rfl rfl rfl rfl hd335 (st_index (k := (kInt .u8)) hE rfl rfl Tryz.underlying24 Tryz.sizeOf5 (q59.mono (M.le.trans hm82 hm144)) hx340) rfl ?_
 rintro v342 a _ ⟨rfl, hp341⟩ hE
 refine stg hE rfl rfl rfl rfl hd335 (st_loadM hE hS ty5 rfl hp341) rfl ?_
 rintro v344 a _ ⟨rfl, hv343⟩ hE
 obtain ⟨rfl, hr345⟩ := RV_int hv343
 refine spg hE rfl rfl rfl rfl hd335 (r_conv hE rfl Tryz.underlying5 Tryz.underlying3 rfl) rfl fun a hE => ?_
 refine spg hE rfl rfl rfl rfl hd335 (r_bin hE rfl rfl b_gtr) rfl fun a hE => ?_
 refine sp hE (r_pickT hE rfl hd335 rfl) rfl fun a hE => ?_
 refine qa hE rfl rfl fun a hE => ?_
 refine knil ?_
 exact ⟨(decide ((IntKind.i64.wrap x339) < (x21.length : Int))), h, _, (M.le.refl _), hS, hE.cut ⟨rfl, rfl, rfl, trivial⟩⟩
 }
 {
 have h := ite_F hd335 h
 refine sx hE rfl rfl rfl rfl hd335 rfl fun a hE => ?_
 refine sx hE rfl rfl rfl rfl hd335 rfl fun a hE => ?_
 refine sx hE rfl rfl rfl rfl hd335 rfl fun a hE => ?_
 refine sx hE rfl rfl rfl rfl hd335 rfl fun a hE => ?_
 refine sx hE rfl rfl rfl rfl hd335 rfl fun a hE => ?_
 refine sx hE rfl rfl rfl rfl hd335 rfl fun a hE => ?_
 refine sx hE rfl rfl rfl rfl hd335 rfl fun a hE => ?_
 refine sp hE (r_pickF hE rfl hd335 rfl) rfl fun a hE => ?_
 refine qa hE rfl rfl fun a hE => ?_
 refine knil ?_
 exact ⟨false, h, _, (M.le.refl _), hS, hE.cut ⟨rfl, rfl, rfl, trivial⟩⟩
 }
 }
 {
 have h := ite_F hd323 h
 refine sx hE rfl rfl rfl rfl hd323 rfl fun a hE => ?_
 refine sx hE rfl rfl rfl rfl hd323 rfl fun a hE => ?_
 refine sx hE rfl rfl rfl rfl hd323 rfl fun a hE => ?_
 refine sx hE rfl rfl rfl rfl hd323 rfl fun a hE => ?_
 refine sp hE (r_pickF hE rfl hd323 rfl) rfl fun a hE => ?_
 refine qm hE rfl rfl fun a hE => ?_
 refine sx hE rfl rfl rfl rfl rfl rfl fun a hE => ?_
 refine sx hE rfl rfl rfl rfl rfl rfl fun a hE => ?_
 refine sx hE rfl rfl rfl rfl rfl rfl fun a hE => ?_
 refine sx hE rfl rfl rfl rfl rfl rfl fun a hE => ?_
 refine sx hE rfl rfl rfl rfl rfl rfl fun a hE => ?_
 refine sx hE rfl rfl rfl rfl rfl rfl fun a hE => ?_
 refine sx hE rfl rfl rfl rfl rfl rfl fun a hE => ?_
 refine sp hE (r_pickF hE rfl rfl rfl) rfl fun a hE => ?_
 refine qa hE rfl rfl fun a hE => ?_
 refine knil ?_
 exact ⟨false, h, _, (M.le.refl _), hS, hE.cut ⟨rfl, rfl, rfl, trivial⟩⟩
 }
 }
 {
 have h := ite_F hd317 h
 refine sx hE rfl rfl rfl rfl hd317 rfl fun a hE => ?_
 refine sx hE rfl rfl rfl rfl hd317 rfl fun a hE => ?_
 refine sx hE rfl rfl rfl rfl hd317 rfl fun a hE => ?_
 refine sp hE (r_pickF hE rfl hd317 rfl) rfl fun a hE => ?_
 refine qm hE rfl rfl fun a hE => ?_
 refine sx hE rfl rfl rfl rfl rfl rfl fun a hE => ?_
 refine sx hE rfl rfl rfl rfl rfl rfl fun a hE => ?_
 refine sx hE rfl rfl rfl rfl rfl rfl fun a hE => ?_
 refine sx hE rfl rfl rfl rfl rfl rfl fun a hE => ?_
 refine sp hE (r_pickF hE rfl rfl rfl) rfl fun a hE => ?_
 refine qm hE rfl rfl fun a hE => ?_
 refine sx hE rfl rfl rfl rfl rfl rfl fun a hE => ?_
 refine sx hE rfl rfl rfl rfl rfl rfl fun a hE => ?_
 refine sx hE rfl rfl rfl rfl rfl rfl fun a hE => ?_
 refine sx hE rfl rfl rfl rfl rfl rfl fun a hE => ?_
 refine sx hE rfl rfl rfl rfl rfl rfl fun a hE => ?_
 refine sx hE rfl rfl rfl rfl rfl rfl fun a hE => ?_
 refine sx hE rfl rfl rfl rfl rfl rfl fun a hE => ?_
 refine sp hE (r_pickF hE rfl rfl rfl) rfl fun a hE => ?_
 refine qa hE rfl rfl fun a hE => ?_
 refine knil ?_
 exact ⟨false, h, _, (M.le.refl _), hS, hE.cut ⟨rfl, rfl, rfl, trivial⟩⟩
 }
 }
 {
 rintro a w ⟨x205, h, m203, hm204, hS, hE⟩
 unfold rows_read_j3 at h
 refine kif hE rfl (fun hd207 => ?_) (fun hd207 => ?_)
 {
 have h := ite_T hd207 h
 refine kseq ?_
 obtain ⟨x208, hx209, h⟩ := ob h
 obtain ⟨x213, hx214, h⟩ := ob h
 obtain ⟨r216, hr217, h⟩ := ob h
 obtain ⟨x221, hx222, h⟩ := ob h
 obtain ⟨x226, hx227, h⟩ := ob h
 refine kchain (k := 15) (m := m203) (es := [14]) (Φ := (fun i m ws v => match i with | 0 => v = v57 | 1 => v = v57 | 2 => PR (kInt .u8) m v x208 | 3 => v = (.int .u8 x208) ∧ inR .u8 x208 | 4 => v = (.int .u8 (IntKind.u8.wrap (1 + x208))) ∧ inR .u8 (IntKind.u8.wrap (1 + x208)) | 5 => RV (kSl (kInt .u8)) m v x213 | 6 => v = (.string (bts x213)) ∧ (∀ n ∈ x213, 0 ≤ n ∧ n < 256) ∧ x213.length ≤ maxSz | 7 => RV kAp m v r216 | 8 => v = v57 | 9 => v = v57 | 10 => PR (kInt .u8) m v x221 | 11 => v = (.int .u8 x221) ∧ inR .u8 x221 | 12 => v = (.int .u8 (IntKind.u8.wrap (1 + x221))) ∧ inR .u8 (IntKind.u8.wrap (1 + x221)) | 13 => RV (kSl (kInt .u8)) m v x226 | 14 => True | _ => True)) (Q := (fun c m ws L' TL' => match c with | 0 => (b1, zc32) :: L = L' ∧ TL = TL' | 1 => (b1, (wi ws 0).c) :: L = L' ∧ TL = TL' ∧ kAp.R m (wi ws 0).c r216 | _ => False)) (cs := [⟨0, 0, false, [(0, v57)]⟩, ⟨0, 0, false, [(0, v57)]⟩, ⟨0, 0, false, []⟩, ⟨0, 0, false, []⟩, ⟨0, 0, false, []⟩, ⟨0, 0, false, []⟩, ⟨0, 0, false, []⟩, ⟨0, 0, false, []⟩, ⟨0, 1, false, [(0, v57)]⟩, ⟨0, 1, false, [(0, v57)]⟩, ⟨0, 1, false, []⟩, ⟨0, 1, false, []⟩, ⟨0, 1, false, []⟩, ⟨0, 1, false, []⟩, ⟨0, 0, true, [(2, (.pointer (some ⟨b1, 0, none⟩)))]⟩]) mixed hE hS ⟨rfl, rfl⟩ rfl rfl ⟨⟨rfl, trivial⟩, ⟨rfl, trivial⟩, trivial, trivial, trivial, trivial, trivial, trivial, ⟨rfl, trivial⟩, ⟨rfl, trivial⟩, trivial, trivial, trivial, trivial, ⟨rfl, trivial⟩, trivial⟩ (by kernel_rfl) ?_ ?_ ?_ ?_
 {
 intro i m_ m2_ ws v hm_ hp_
 match i, hp_ with
 | 0, hp_ => exact hp_
 | 1, hp_ => exact hp_
 | 2, hp_ => exact PR.mono hp_ hm_
 | 3, hp_ => exact hp_
 | 4, hp_ => exact hp_
 | 5, hp_ => exact RV.mono hp_ hm_
 | 6, hp_ => exact hp_
 | 7, hp_ => exact RV.mono hp_ hm_
 | 8, hp_ => exact hp_
 | 9, hp_ => exact hp_
 | 10, hp_ => exact PR.mono hp_ hm_
 | 11, hp_ => exact hp_
 | 12, hp_ => exact hp_
 | 13, hp_ => exact RV.mono hp_ hm_
 | 14, hp_ => exact hp_
 | _ + 15, hp_ => exact trivial
 }
 {
 intro c m_ m2_ ws L_ T_ hm_ hq_
 match c, hq_ with
 | 0, ⟨e1_, e2_⟩ => exact ⟨e1_, e2_⟩
 | 1, ⟨e1_, e2_, f0_⟩ => exact ⟨e1_, e2_, (kAp.mono hm_ f0_)⟩
 | _ + 2, hq_ => exact hq_.elim
 }
 {
 refine ⟨?_, ?_, ?_, ?_, ?_, ?_, ?_, ?_, ?_, ?_, ?_, ?_, ?_, ?_, ?_, trivial⟩
 {
 refine cplain fun pre_ post_ L_ T_ m' a' w' hl' hp' hm' hq' hS' hE' hT' => ?_
 obtain rfl := len0 hl'
 refine Step.imp (Run1.pure (r_move hE' rfl)) ?_
 rintro _ _ ⟨rfl, rfl⟩
 exact ⟨_, M.le.refl _, hS', rfl⟩
 }
 {
 refine cplain fun pre_ post_ L_ T_ m' a' w' hl' hp' hm' hq' hS' hE' hT' => ?_
 obtain rfl := len0 hl'
 refine Step.imp (Run1.pure (r_move hE' rfl)) ?_
 rintro _ _ ⟨rfl, rfl⟩
 exact ⟨_, M.le.refl _, hS', rfl⟩
 }
 {
 refine cplain fun pre_ post_ L_ T_ m' a' w' hl' hp' hm' hq' hS' hE' hT' => ?_
 obtain rfl := len0 hl'
 obtain ⟨v234, e235, q236⟩ : ∃ v, a'.tmps.getD 80 undef = v ∧ (v = v57) := ⟨_, rfl, hT' 1 (by decide) 80 rfl⟩
 have hE := hE'.add (e235.trans q236)
 refine Step.imp (st_index (k := (kInt .u8)) hE rfl rfl Tryz.underlying24 Tryz.sizeOf5 (q59.mono (M.le.trans hm82 (M.le.trans hm144 (M.le.trans hm204 hm')))) hx209) ?_
 rintro v237 _ ⟨rfl, hp210⟩
 exact ⟨_, M.le.refl _, hS', hp210⟩
 }
 {
 refine cplain fun pre_ post_ L_ T_ m' a' w' hl' hp' hm' hq' hS' hE' hT' => ?_
 obtain rfl := len0 hl'
 obtain ⟨v238, e239, q240⟩ : ∃ v, a'.tmps.getD 81 undef = v ∧ (PR (kInt .u8) m' v x208) := ⟨_, rfl, hT' 2 (by decide) 81 rfl⟩
 have hE := hE'.add (e239)
 refine Step.imp (st_loadM hE hS' ty5 rfl q240) ?_
 rintro v241 _ ⟨rfl, hv211⟩
 obtain ⟨rfl, hr242⟩ := RV_int hv211
 exact ⟨_, M.le.refl _, hS', ⟨rfl, hr242⟩⟩
 }
 {
 refine cplain fun pre_ post_ L_ T_ m' a' w' hl' hp' hm' hq' hS' hE' hT' => ?_
 obtain rfl := len0 hl'
 obtain ⟨v243, e244, q245⟩ : ∃ v, a'.tmps.getD 82 undef = v ∧ (v = (.int .u8 x208) ∧ inR .u8 x208) := ⟨_, rfl, hT' 3 (by decide) 82 rfl⟩
 obtain ⟨q245, hr246⟩ := q245
 have hE := hE'.add (e244.trans q245)
 refine Step.imp (Run1.pure (r_bin hE rfl rfl (b_add rfl))) ?_
 rintro _ _ ⟨rfl, rfl⟩
 exact ⟨_, M.le.refl _, hS', ⟨rfl, (inR_wrap _ _)⟩⟩
 }
 {
 refine cplain fun pre_ post_ L_ T_ m' a' w' hl' hp' hm' hq' hS' hE' hT' => ?_
 obtain rfl := len0 hl'
 obtain ⟨v248, e249, q250⟩ : ∃ v, a'.tmps.getD 79 undef = v ∧ (v = v57) := ⟨_, rfl, hT' 0 (by decide) 79 rfl⟩
 have hE := hE'.add (e249.trans q250)
 obtain ⟨v251, e252, q253⟩ : ∃ v, a'.tmps.getD 83 undef = v ∧ (v = (.int .u8 (IntKind.u8.wrap (1 + x208))) ∧ inR .u8 (IntKind.u8.wrap (1 + x208))) := ⟨_, rfl, hT' 4 (by decide) 83 rfl⟩
 obtain ⟨q253, hr254⟩ := q253
 have hE := hE.add (e252.trans q253)
 refine Step.imp (st_slice (k := (kInt .u8)) hE rfl Tryz.underlying24 Tryz.sizeOf5 (q59.mono (M.le.trans hm82 (M.le.trans hm144 (M.le.trans hm204 hm')))) ⟨_, rfl⟩ ⟨_, rfl⟩ hx214 (xl := (some (.const (.int .i64 1)))) (xh := (some (.tmp 83)))) ?_
 rintro v255 _ ⟨rfl, hv215⟩
 exact ⟨_, M.le.refl _, hS', hv215⟩
 }
 {
 refine cplain fun pre_ post_ L_ T_ m' a' w' hl' hp' hm' hq' hS' hE' hT' => ?_
 obtain rfl := len0 hl'
 obtain ⟨v256, e257, q258⟩ : ∃ v, a'.tmps.getD 84 undef = v ∧ (RV (kSl (kInt .u8)) m' v x213) := ⟨_, rfl, hT' 5 (by decide) 84 rfl⟩
 have hE := hE'.add (e257)
 refine Step.imp (Run1.pure (r_bytes hE hS' rfl Tryz.underlying24 Tryz.underlying5 Tryz.underlying9 q258)) ?_
 rintro _ _ ⟨rfl, rfl⟩
 exact ⟨_, M.le.refl _, hS', ⟨rfl, (RV_bytes q258), (RV_len q258)⟩⟩
 }
 {
 refine cplain fun pre_ post_ L_ T_ m' a' w' hl' hp' hm' hq' hS' hE' hT' => ?_
 obtain rfl := len0 hl'
 obtain ⟨v260, e261, q262⟩ : ∃ v, a'.tmps.getD 85 undef = v ∧ (v = (.string (bts x213)) ∧ (∀ n ∈ x213, 0 ≤ n ∧ n < 256) ∧ x213.length ≤ maxSz) := ⟨_, rfl, hT' 6 (by decide) 85 rfl⟩
 obtain ⟨q262, hb263, hl264⟩ := q262
 have hE := hE'.add (e261.trans q262)
 refine Step.imp (st_call (vs := [(.string (bts x213))]) hE rfl Tryz.call145 (c_value_Text (hS := hS') hb263 hl264 hr217)) ?_
 rintro v265 w ⟨m218, hm219, hS, hv220⟩
 exact ⟨_, hm219, hS, hv220⟩
 }
 {
 refine cplain fun pre_ post_ L_ T_ m' a' w' hl' hp' hm' hq' hS' hE' hT' => ?_
 obtain rfl := len0 hl'
 refine Step.imp (Run1.pure (r_move hE' rfl)) ?_
 rintro _ _ ⟨rfl, rfl⟩
 exact ⟨_, M.le.refl _, hS', rfl⟩
 }
 {
 refine cplain fun pre_ post_ L_ T_ m' a' w' hl' hp' hm' hq' hS' hE' hT' => ?_
 obtain rfl := len0 hl'
 refine Step.imp (Run1.pure (r_move hE' rfl)) ?_
 rintro _ _ ⟨rfl, rfl⟩
 exact ⟨_, M.le.refl _, hS', rfl⟩
 }
 {
 refine cplain fun pre_ post_ L_ T_ m' a' w' hl' hp' hm' hq' hS' hE' hT' => ?_
 obtain rfl := len0 hl'
 obtain ⟨v268, e269, q270⟩ : ∃ v, a'.tmps.getD 88 undef = v ∧ (v = v57) := ⟨_, rfl, hT' 9 (by decide) 88 rfl⟩
 have hE := hE'.add (e269.trans q270)
 refine Step.imp (st_index (k := (kInt .u8)) hE rfl rfl Tryz.underlying24 Tryz.sizeOf5 (q59.mono (M.le.trans hm82 (M.le.trans hm144 (M.le.trans hm204 hm')))) hx222) ?_
 rintro v271 _ ⟨rfl, hp223⟩
 exact ⟨_, M.le.refl _, hS', hp223⟩
 }
 {
 refine cplain fun pre_ post_ L_ T_ m' a' w' hl' hp' hm' hq' hS' hE' hT' => ?_
 obtain rfl := len0 hl'
 obtain ⟨v272, e273, q274⟩ : ∃ v, a'.tmps.getD 89 undef = v ∧ (PR (kInt .u8) m' v x221) := ⟨_, rfl, hT' 10 (by decide) 89 rfl⟩
 have hE := hE'.add (e273)
 refine Step.imp (st_loadM hE hS' ty5 rfl q274) ?_
 rintro v275 _ ⟨rfl, hv224⟩
 obtain ⟨rfl, hr276⟩ := RV_int hv224
 exact ⟨_, M.le.refl _, hS', ⟨rfl, hr276⟩⟩
 }
 {
 refine cplain fun pre_ post_ L_ T_ m' a' w' hl' hp' hm' hq' hS' hE' hT' => ?_
 obtain rfl := len0 hl'
 obtain ⟨v277, e278, q279⟩ : ∃ v, a'.tmps.getD 90 undef = v ∧ (v = (.int .u8 x221) ∧ inR .u8 x221) := ⟨_, rfl, hT' 11 (by decide) 90 rfl⟩
 obtain ⟨q279, hr280⟩ := q279
 have hE := hE'.add (e278.trans q279)
 refine Step.imp (Run1.pure (r_bin hE rfl rfl (b_add rfl))) ?_
 rintro _ _ ⟨rfl, rfl⟩
 exact ⟨_, M.le.refl _, hS', ⟨rfl, (inR_wrap _ _)⟩⟩
 }
 {
 refine cplain fun pre_ post_ L_ T_ m' a' w' hl' hp' hm' hq' hS' hE' hT' => ?_
 obtain rfl := len0 hl'
 obtain ⟨v282, e283, q284⟩ : ∃ v, a'.tmps.getD 87 undef = v ∧ (v = v57) := ⟨_, rfl, hT' 8 (by decide) 87 rfl⟩
 have hE := hE'.add (e283.trans q284)
 obtain ⟨v285, e286, q287⟩ : ∃ v, a'.tmps.getD 91 undef = v ∧ (v = (.int .u8 (IntKind.u8.wrap (1 + x221))) ∧ inR .u8 (IntKind.u8.wrap (1 + x221))) := ⟨_, rfl, hT' 12 (by decide) 91 rfl⟩
 obtain ⟨q287, hr288⟩ := q287
 have hE := hE.add (e286.trans q287)
 refine Step.imp (st_slice (k := (kInt .u8)) hE rfl Tryz.underlying24 Tryz.sizeOf5 (q59.mono (M.le.trans hm82 (M.le.trans hm144 (M.le.trans hm204 hm')))) ⟨_, rfl⟩ rfl hx227 (xl := (some (.tmp 91))) (xh := none)) ?_
 rintro v289 _ ⟨rfl, hv228⟩
 exact ⟨_, M.le.refl _, hS', hv228⟩
 }
 {
 refine cturn fun pre_ L_ T_ m' a' w' hl' hm' hq' hS' hE' hT' => ?_
 obtain rfl := len0 hl'
 obtain ⟨rfl, rfl⟩ := hq'
 obtain ⟨v290, e291, q292⟩ : ∃ v, a'.tmps.getD 86 undef = v ∧ (RV kAp m' v r216) := ⟨_, rfl, hT' 7 (by decide) 86 rfl⟩
 have hE := hE'.add (e291)
 refine Step.imp (st_storeF hE hS' ty32 StF_self rfl rfl q292 (i := 0) rfl (zr32 _)) ?_
 rintro vv231 w ⟨cs229, hc230, hS⟩
 exact ⟨_, ⟨0, undef, cs229, [], []⟩, _, _, M.le.refl _, hS, ⟨rfl, rfl, hc230⟩, trivial⟩
 }
 }
 {
 intro ws_ L_ T_ m293 a w hl294 hm295 hq296 hS hd297 hn298 ho299 hT300
 obtain ⟨⟨_, _, cs229, _, _⟩, rfl⟩ := len1 hl294
 obtain ⟨rfl, rfl, hc301⟩ := hq296
 have hE := EnvD.of (k := 15) (l' := [(0, v57), (2, (.pointer (some ⟨b1, 0, none⟩))), (56, (.bool x205))]) hd297 hn298 ho299 ⟨rfl, rfl, rfl, trivial⟩ rfl
 obtain ⟨v302, e303, q304⟩ : ∃ v, a.tmps.getD 92 undef = v ∧ (RV (kSl (kInt .u8)) m293 v x226) := ⟨_, rfl, hT300 13 (by decide) 92 rfl⟩
 have hE := hE.add (e303)
 refine qa hE rfl rfl fun a hE => ?_
 refine qa hE rfl rfl fun a hE => ?_
 refine knil (kret ?_)
 obtain rfl := oi h
 try dsimp only
 refine Fin.mk hE (rs := [.cell 2 32, .tmp 3, .tmp 4]) rfl (ResL.cell hE hS ty32 rfl (i := 0) rfl (R_whole hc301) (ResL.tmp hE rfl (ResL.tmp hE rfl ResL.nil))) ?_
 exact ⟨_, (M.le.trans hm51 (M.le.trans hm82 (M.le.trans hm144 (M.le.trans hm204 hm295)))), (hS.dropL 1), _, _, _, rfl, (RV_of_R (R_whole hc301)), q304, RV_of_bool⟩
 }
 }
 {
 have h := ite_F hd207 h
 refine kskip (kseq (kreg ?_))
 refine st hE (st_build (m := m203) (k := kAp) (x0 := Ap.zero) (xx := (⟨0, false, 0, []⟩ : Ap)) (pl := [(0, 1), (1, 1), (2, 1), (3, 1)]) (pv := []) hE rfl Tryz.underlying32 rfl Tryz.zeroValue32 zr32 rfl .nil) rfl ?_
 rintro v308 a _ ⟨rfl, hv307⟩ hE
 refine st0 hE (st_storeF hE hS ty32 StF_self rfl rfl hv307 (i := 0) rfl (zr32 _)) ?_
 rintro _ w ⟨cs309, hc310, hS⟩ hE
 refine qa hE rfl rfl fun a hE => ?_
 refine qa hE rfl rfl fun a hE => ?_
 refine knil (kret ?_)
 obtain rfl := oi h
 try dsimp only
 refine Fin.mk hE (rs := [.cell 2 32, .tmp 3, .tmp 4]) rfl (ResL.cell hE hS ty32 rfl (i := 0) rfl (R_whole hc310) (ResL.tmp hE rfl (ResL.tmp hE rfl ResL.nil))) ?_
 exact ⟨_, (M.le.trans hm51 (M.le.trans hm82 (M.le.trans hm144 hm204))), (hS.dropL 1), _, _, _, rfl, (RV_of_R (R_whole hc310)), RV_nil, RV_of_bool⟩
 }
 }
 }
 }
 }
 }
 }
 }
 }
theorem ct_183 : Ctr Sz Tryz.prog 183 [.rd (.sl (.int .u8))] [.rd (.st 32), .rd (.sl (.int .u8)), .rd .bool] (fun x => rows_read x.1) := by
 intro W0 m w L TL vs x r Lp Tp hS hP h
 obtain ⟨v0, vs, rfl, a0, hP0⟩ := PR_rd hP
 obtain ⟨rfl, rfl, rfl⟩ := PR_nil hP0
 refine (c_rows_read (hS := hS) a0 h).mono ?_
 intro e w' he
 cases e with
 | returned v =>
  obtain ⟨m', hm, hS', u0, u1, u2, rfl, r0, r1, r2⟩ := he
  exact ⟨m', [u0, u1, u2], [], [], [], hm, hS', rfl, ⟨r0, ⟨r1, ⟨r2, trivial⟩⟩⟩, trivial⟩
 | panicked ch => exact he.elim
 | outgrown => exact he.elim
noncomputable def cs_183 : CS Tryz.prog Sz := ⟨183, _, _, _, ct_183, Tryz.call183⟩
theorem ct_163 : Ctr Sz Tryz.prog 163 [.rd (.sl (.int .u8))] [.rd (.sl (.st 32)), .rd (.int .i64)] (fun x => rows_Decode x.1) :=
 Ctr.nc (Γ := Γ) (D := [cs_183]) (c := Tryz.f163.body.getD .skip) (res := [2, 3]) (.s .o (.s .o (.s .o (.s .o (.s (.s .o (.b (.l ⟨[.v 0 1 (.dat (.sl (.int .u8)) none), .v 4 1 (.dat (.sl (.st 32)) (some 0)), .v 25 1 (.dat (.int .i64) none)], [24], 0, [4]⟩ .o))) .o))))) rfl mixed Tryz.func163 rfl Tryz.ntmps163 rfl rfl (fun x => by kernel_rfl)
noncomputable def cs_163 : CS Tryz.prog Sz := ⟨163, _, _, _, ct_163, Tryz.call163⟩
theorem c_rows_Decode {W0 : Bse} {m : M} {w : World} {L : List (Nat × List Value)} {TL : List (Nat × Value)} (hS : S W0 m w (L) (TL)) {v0 : Value} {p0 : (List Int)} (ha0 : RV (kSl (kInt .u8)) m v0 p0) {r : ((List Ap) × Int)} (h : rows_Decode p0 = some r) :
    Calls Tryz.prog 163 [v0].toArray w (Ret fun v w' => ∃ m', M.le m m' ∧ S W0 m' w' (L) (TL) ∧ ∃ v0_ v1_ : Value, v = .tuple #[v0_, v1_] ∧ RV (kSl kAp) m' v0_ r.1 ∧ RV (kInt .i64) m' v1_ r.2) := by
 refine (ct_163 W0 m w L TL [v0] (p0, ()) r [] [] hS ⟨ha0, trivial⟩ h).mono ?_
 intro e w' he
 cases e with
 | returned v =>
  obtain ⟨m', us, Lr, Lq, Tr, hm, hS', rfl, hR, hO⟩ := he
  obtain ⟨u0, us, rfl, r0, hR0⟩ := RR_rd hR
  obtain ⟨u1, us, rfl, r1, hR1⟩ := RR_rd hR0
  obtain ⟨rfl, rfl, rfl⟩ := RR_nil hR1
  have hO0 := OR_rd hO
  obtain rfl := OR_nil hO0
  exact ⟨m', hm, hS', u0, u1, rfl, r0, r1⟩
 | panicked ch => exact he.elim
 | outgrown => exact he.elim
theorem c_block_front {W0 : Bse} {m : M} {w : World} {L : List (Nat × List Value)} {TL : List (Nat × Value)} (hS : S W0 m w (L) (TL)) {v0 : Value} {p0 : (List Int)} (ha0 : RV (kSl (kInt .u8)) m v0 p0) {r : (Ap × (List Int) × Bool)} (h : block_front p0 = some r) :
    Calls Tryz.prog 119 [v0].toArray w (Ret fun v w' => ∃ m', M.le m m' ∧ S W0 m' w' (L) (TL) ∧ ∃ v0_ v1_ v2_ : Value, v = .tuple #[v0_, v1_, v2_] ∧ RV kAp m' v0_ r.1 ∧ RV (kSl (kInt .u8)) m' v1_ r.2.1 ∧ RV kBool m' v2_ r.2.2) := by
 refine kcall Tryz.func119 rfl Tryz.ntmps119 (Nat.le_of_ble_eq_true rfl) fun a hE => ?_
 have hE : Env 36 a [(0, v0)] := hE
 unfold block_front at h
 refine kseq (kreg ?_)
 refine st hE (st_alloc hS Tryz.zeroValue32 rfl (cs := zc32)) rfl ?_
 rintro _ a w ⟨b1, rfl, hS⟩ hE
 refine qa hE rfl rfl fun a hE => ?_
 refine qa hE rfl rfl fun a hE => ?_
 refine knil (kseq (kseq (kreg ?_)))
 refine qa hE rfl rfl fun a hE => ?_
 refine knil ?_
 refine kcut (fun a w => block_front_j1 = some r ∧ ∃ m', M.le m m' ∧ S W0 m' w ((b1, zc32) :: L) (TL) ∧ Env 36 a [(2, (.pointer (some ⟨b1, 0, none⟩)))]) ?_ ?_
 {
 refine kblock ?_
 refine kloop h (fun (s : Int) a w => ∃ m', M.le m m' ∧ inR .i64 s ∧ S W0 m' w ((b1, zc32) :: L) (TL) ∧ Env 36 a [(0, v0), (2, (.pointer (some ⟨b1, 0, none⟩))), (5, (.int .i64 s))]) ?_ ?_
 {
 exact ⟨_, (M.le.refl _), (show inR .i64 1 from inR_lit (by decide)), hS, hE.cut ⟨rfl, rfl, rfl, trivial⟩⟩
 }
 {
 rintro x18 a w ⟨m16, hm17, hr19, hS, hE⟩ r20 h hb21
 have h : block_front_b1 p0 x18 = some r20 := h
 unfold block_front_b1 at h
 refine kseq (kseq ?_)
 refine kcut (fun a w => ∃ x24 : Bool, block_front_j2 p0 x18 x24 = some r20 ∧ ∃ m', M.le m16 m' ∧ S W0 m' w ((b1, zc32) :: L) (TL) ∧ Env 36 a [(0, v0), (2, (.pointer (some ⟨b1, 0, none⟩))), (5, (.int .i64 x18)), (15, (.bool x24))]) ?_ ?_
 {
 refine kreg ?_
 refine qm hE rfl rfl fun a hE => ?_
 refine qm hE rfl rfl fun a hE => ?_
 refine sp hE (r_lenSl (k := (kInt .u8)) hE rfl rfl Tryz.underlying24 (ha0.mono hm17)) rfl fun a hE => ?_
 refine sp hE (r_bin hE rfl rfl b_leq) rfl fun a hE => ?_
 refine qm hE rfl rfl fun a hE => ?_
 rcases Bool.eq_false_or_eq_true (decide (x18 ≤ (p0.length : Int))) with hd115 | hd115
 {
 have h := ite_T hd115 h
 refine spg hE rfl rfl rfl rfl hd115 (r_move hE rfl) rfl fun a hE => ?_
 refine spg hE rfl rfl rfl rfl hd115 (r_bin hE rfl rfl b_leq) rfl fun a hE => ?_
 refine sp hE (r_pickT hE rfl hd115 rfl) rfl fun a hE => ?_
 refine knil ?_
 exact ⟨(decide (x18 ≤ 66)), h, _, (M.le.refl _), hS, hE.cut ⟨rfl, rfl, rfl, rfl, trivial⟩⟩
 }
 {
 have h := ite_F hd115 h
 refine sx hE rfl rfl rfl rfl hd115 rfl fun a hE => ?_
 refine sx hE rfl rfl rfl rfl hd115 rfl fun a hE => ?_
 refine sp hE (r_pickF hE rfl hd115 rfl) rfl fun a hE => ?_
 refine knil ?_
 exact ⟨false, h, _, (M.le.refl _), hS, hE.cut ⟨rfl, rfl, rfl, rfl, trivial⟩⟩
 }
 }
 {
 rintro a w ⟨x24, h, m22, hm23, hS, hE⟩
 unfold block_front_j2 at h
 refine kif hE rfl (fun hd26 => ?_) (fun hd26 => ?_)
 {
 have h := ite_T hd26 h
 refine kskip (kseq (kblock (kseq (kreg ?_))))
 refine st hE (st_lit (k := (kInt .u8)) (xs := [1]) (vs := [(.int .u8 1)]) hE hS rfl Tryz.underlying24 Tryz.sizeOf5 Tryz.zeroValue5 ⟨(RV_of_int (show inR .u8 1 from inR_lit (by decide))), trivial⟩ rfl (by decide)) rfl ?_
 rintro v30 a w ⟨m28, hm29, hS, hv27⟩ hE
 refine qm hE rfl rfl fun a hE => ?_
 refine qm hE rfl rfl fun a hE => ?_
 obtain ⟨x33, hx34, h⟩ := ob h
 refine st hE (st_slice (k := (kInt .u8)) hE rfl Tryz.underlying24 Tryz.sizeOf5 (ha0.mono (M.le.trans hm17 (M.le.trans hm23 hm29))) rfl ⟨_, rfl⟩ hx34 (xl := none) (xh := (some (.tmp 21)))) rfl ?_
 rintro v36 a _ ⟨rfl, hv35⟩ hE
 obtain ⟨z37, hz38, h⟩ := ob h
 refine st hE (st_app (k := (kInt .u8)) (N := 140737488355328) hE hS rfl rfl Tryz.underlying24 Tryz.underlying24 el5 (i := 0) rfl hv27 hv35 hz38 rfl rfl) rfl ?_
 rintro v42 a w ⟨m40, hm41, hS, hv39⟩ hE
 obtain ⟨r43, hr44, h⟩ := ob h
 refine st hE (st_call (vs := [v42]) hE rfl Tryz.call163 (c_rows_Decode (hS := hS) hv39 hr44)) rfl ?_
 rintro _ a w ⟨m45, hm46, hS, v0_47, v1_48, rfl, hv0_49, hv1_50⟩ hE
 obtain ⟨rfl, hr52⟩ := RV_int hv1_50
 refine qm hE rfl rfl fun a hE => ?_
 refine sp hE (r_extract hE rfl rfl) rfl fun a hE => ?_
 refine sp hE (r_extract hE rfl rfl) rfl fun a hE => ?_
 refine qa hE rfl rfl fun a hE => ?_
 refine qa hE rfl rfl fun a hE => ?_
 refine knil (kseq (kreg ?_))
 refine qm hE rfl rfl fun a hE => ?_
 refine sp hE (r_bin hE rfl rfl b_eql) rfl fun a hE => ?_
 refine knil ?_
 refine kif hE rfl (fun hd60 => ?_) (fun hd60 => ?_)
 {
 have h := ite_T hd60 h
 refine kseq ?_
 obtain ⟨x61, hx62, h⟩ := ob h
 obtain ⟨x65, hx66, h⟩ := ob h
 refine kchain (k := 7) (m := m45) (es := [6]) (Φ := (fun i m ws v => match i with | 0 => v = v0_47 | 1 => PR kAp m v x61 | 2 => RV kAp m v x61 | 3 => v = v0 | 4 => v = (.int .i64 x18) ∧ inR .i64 x18 | 5 => RV (kSl (kInt .u8)) m v x65 | 6 => True | _ => True)) (Q := (fun c m ws L' TL' => match c with | 0 => (b1, zc32) :: L = L' ∧ (1, v42) :: TL = TL' | 1 => (b1, (wi ws 0).c) :: L = L' ∧ (1, v42) :: TL = TL' ∧ kAp.R m (wi ws 0).c x61 | _ => False)) (cs := [⟨0, 0, false, [(6, v0_47)]⟩, ⟨0, 0, false, []⟩, ⟨0, 0, false, []⟩, ⟨0, 1, false, [(0, v0)]⟩, ⟨0, 1, false, [(5, (.int .i64 x18))]⟩, ⟨0, 1, false, []⟩, ⟨0, 0, true, [(2, (.pointer (some ⟨b1, 0, none⟩)))]⟩]) mixed hE hS ⟨rfl, rfl⟩ rfl rfl ⟨⟨rfl, trivial⟩, trivial, trivial, ⟨rfl, trivial⟩, ⟨rfl, trivial⟩, trivial, ⟨rfl, trivial⟩, trivial⟩ (by kernel_rfl) ?_ ?_ ?_ ?_
 {
 intro i m_ m2_ ws v hm_ hp_
 match i, hp_ with
 | 0, hp_ => exact hp_
 | 1, hp_ => exact PR.mono hp_ hm_
 | 2, hp_ => exact RV.mono hp_ hm_
 | 3, hp_ => exact hp_
 | 4, hp_ => exact hp_
 | 5, hp_ => exact RV.mono hp_ hm_
 | 6, hp_ => exact hp_
 | _ + 7, hp_ => exact trivial
 }
 {
 intro c m_ m2_ ws L_ T_ hm_ hq_
 match c, hq_ with
 | 0, ⟨e1_, e2_⟩ => exact ⟨e1_, e2_⟩
 | 1, ⟨e1_, e2_, f0_⟩ => exact ⟨e1_, e2_, (kAp.mono hm_ f0_)⟩
 | _ + 2, hq_ => exact hq_.elim
 }
 {
 refine ⟨?_, ?_, ?_, ?_, ?_, ?_, ?_, trivial⟩
 {
 refine cplain fun pre_ post_ L_ T_ m' a' w' hl' hp' hm' hq' hS' hE' hT' => ?_
 obtain rfl := len0 hl'
 refine Step.imp (Run1.pure (r_move hE' rfl)) ?_
 rintro _ _ ⟨rfl, rfl⟩
 exact ⟨_, M.le.refl _, hS', rfl⟩
 }
 {
 refine cplain fun pre_ post_ L_ T_ m' a' w' hl' hp' hm' hq' hS' hE' hT' => ?_
 obtain rfl := len0 hl'
 obtain ⟨v72, e73, q74⟩ : ∃ v, a'.tmps.getD 29 undef = v ∧ (v = v0_47) := ⟨_, rfl, hT' 0 (by decide) 29 rfl⟩
 have hE := hE'.add (e73.trans q74)
 refine Step.imp (st_index (k := kAp) hE rfl rfl Tryz.underlying22 Tryz.sizeOf32 (hv0_49.mono hm') hx62) ?_
 rintro v75 _ ⟨rfl, hp63⟩
 exact ⟨_, M.le.refl _, hS', hp63⟩
 }
 {
 refine cplain fun pre_ post_ L_ T_ m' a' w' hl' hp' hm' hq' hS' hE' hT' => ?_
 obtain rfl := len0 hl'
 obtain ⟨v76, e77, q78⟩ : ∃ v, a'.tmps.getD 30 undef = v ∧ (PR kAp m' v x61) := ⟨_, rfl, hT' 1 (by decide) 30 rfl⟩
 have hE := hE'.add (e77)
 refine Step.imp (st_loadM hE hS' ty32 rfl q78) ?_
 rintro v79 _ ⟨rfl, hv64⟩
 exact ⟨_, M.le.refl _, hS', hv64⟩
 }
 {
 refine cplain fun pre_ post_ L_ T_ m' a' w' hl' hp' hm' hq' hS' hE' hT' => ?_
 obtain rfl := len0 hl'
 refine Step.imp (Run1.pure (r_move hE' rfl)) ?_
 rintro _ _ ⟨rfl, rfl⟩
 exact ⟨_, M.le.refl _, hS', rfl⟩
 }
 {
 refine cplain fun pre_ post_ L_ T_ m' a' w' hl' hp' hm' hq' hS' hE' hT' => ?_
 obtain rfl := len0 hl'
 refine Step.imp (Run1.pure (r_move hE' rfl)) ?_
 rintro _ _ ⟨rfl, rfl⟩
 exact ⟨_, M.le.refl _, hS', ⟨rfl, hr19⟩⟩
 }
 {
 refine cplain fun pre_ post_ L_ T_ m' a' w' hl' hp' hm' hq' hS' hE' hT' => ?_
 obtain rfl := len0 hl'
 obtain ⟨v82, e83, q84⟩ : ∃ v, a'.tmps.getD 32 undef = v ∧ (v = v0) := ⟨_, rfl, hT' 3 (by decide) 32 rfl⟩
 have hE := hE'.add (e83.trans q84)
 obtain ⟨v85, e86, q87⟩ : ∃ v, a'.tmps.getD 33 undef = v ∧ (v = (.int .i64 x18) ∧ inR .i64 x18) := ⟨_, rfl, hT' 4 (by decide) 33 rfl⟩
 obtain ⟨q87, hr88⟩ := q87
 have hE := hE.add (e86.trans q87)
 refine Step.imp (st_slice (k := (kInt .u8)) hE rfl Tryz.underlying24 Tryz.sizeOf5 (ha0.mono (M.le.trans hm17 (M.le.trans hm23 (M.le.trans hm29 (M.le.trans hm41 (M.le.trans hm46 hm')))))) ⟨_, rfl⟩ rfl hx66 (xl := (some (.tmp 33))) (xh := none)) ?_
 rintro v89 _ ⟨rfl, hv67⟩
 exact ⟨_, M.le.refl _, hS', hv67⟩
 }
 {
 refine cturn fun pre_ L_ T_ m' a' w' hl' hm' hq' hS' hE' hT' => ?_
 obtain rfl := len0 hl'
 obtain ⟨rfl, rfl⟩ := hq'
 obtain ⟨v90, e91, q92⟩ : ∃ v, a'.tmps.getD 31 undef = v ∧ (RV kAp m' v x61) := ⟨_, rfl, hT' 2 (by decide) 31 rfl⟩
 have hE := hE'.add (e91)
 refine Step.imp (st_storeF hE hS' ty32 StF_self rfl rfl q92 (i := 0) rfl (zr32 _)) ?_
 rintro vv70 w ⟨cs68, hc69, hS⟩
 exact ⟨_, ⟨0, undef, cs68, [], []⟩, _, _, M.le.refl _, hS, ⟨rfl, rfl, hc69⟩, trivial⟩
 }
 }
 {
 intro ws_ L_ T_ m93 a w hl94 hm95 hq96 hS hd97 hn98 ho99 hT100
 obtain ⟨⟨_, _, cs68, _, _⟩, rfl⟩ := len1 hl94
 obtain ⟨rfl, rfl, hc101⟩ := hq96
 have hE := EnvD.of (k := 7) (l' := [(0, v0), (2, (.pointer (some ⟨b1, 0, none⟩))), (5, (.int .i64 x18)), (6, v0_47), (7, (.int .i64 r43.2)), (15, (.bool x24)), (18, (.tuple #[v0_47, (.int .i64 r43.2)])), (19, v30), (20, v0), (21, (.int .i64 x18)), (22, v36), (23, v42), (24, (.tuple #[v0_47, (.int .i64 r43.2)])), (25, v0_47), (26, (.int .i64 r43.2)), (27, (.int .i64 r43.2)), (28, (.bool (r43.2 == 0)))]) hd97 hn98 ho99 ⟨rfl, rfl, rfl, rfl, rfl, rfl, rfl, rfl, rfl, rfl, rfl, rfl, rfl, rfl, rfl, rfl, rfl, trivial⟩ rfl
 obtain ⟨v102, e103, q104⟩ : ∃ v, a.tmps.getD 34 undef = v ∧ (RV (kSl (kInt .u8)) m93 v x65) := ⟨_, rfl, hT100 5 (by decide) 34 rfl⟩
 have hE := hE.add (e103)
 refine qa hE rfl rfl fun a hE => ?_
 refine qa hE rfl rfl fun a hE => ?_
 refine knil (kret ?_)
 have h := unwrap h hb21
 obtain rfl := oi h
 try dsimp only
 refine Fin.mk hE (rs := [.cell 2 32, .tmp 3, .tmp 4]) rfl (ResL.cell hE hS ty32 rfl (i := 0) rfl (R_whole hc101) (ResL.tmp hE rfl (ResL.tmp hE rfl ResL.nil))) ?_
 exact ⟨_, (M.le.trans hm17 (M.le.trans hm23 (M.le.trans hm29 (M.le.trans hm41 (M.le.trans hm46 hm95))))), ((hS.dropL 1).dropT 1), _, _, _, rfl, (RV_of_R (R_whole hc101)), q104, RV_of_bool⟩
 }
 }
 {
 have h := ite_F hd60 h
 refine kskip (kreg ?_)
 refine qm hE rfl rfl fun a hE => ?_
 refine sp hE (r_bin hE rfl rfl (b_add rfl)) rfl fun a hE => ?_
 refine qa hE rfl rfl fun a hE => ?_
 refine knil ?_
 exact ⟨IntKind.i64.wrap (x18 + 1), (Option.some.inj h).symm, _, (M.le.trans hm17 (M.le.trans hm23 (M.le.trans hm29 (M.le.trans hm41 hm46)))), (inR_wrap _ _), (hS.pickT 1 [] rfl rfl rfl), hE.cut ⟨rfl, rfl, rfl, trivial⟩⟩
 }
 }
 {
 have h := ite_F hd26 h
 refine kexit rfl rfl ?_
 have h := unwrap h hb21
 exact ⟨h, _, (M.le.trans hm17 hm23), hS, hE.cut ⟨rfl, trivial⟩⟩
 }
 }
 }
 }
 {
 rintro a w ⟨h, m6, hm7, hS, hE⟩
 unfold block_front_j1 at h
 refine kseq (kreg ?_)
 refine st hE (st_build (m := m6) (k := kAp) (x0 := Ap.zero) (xx := (⟨0, false, 0, []⟩ : Ap)) (pl := [(0, 1), (1, 1), (2, 1), (3, 1)]) (pv := []) hE rfl Tryz.underlying32 rfl Tryz.zeroValue32 zr32 rfl .nil) rfl ?_
 rintro v10 a _ ⟨rfl, hv9⟩ hE
 refine st0 hE (st_storeF hE hS ty32 StF_self rfl rfl hv9 (i := 0) rfl (zr32 _)) ?_
 rintro _ w ⟨cs11, hc12, hS⟩ hE
 refine qa hE rfl rfl fun a hE => ?_
 refine qa hE rfl rfl fun a hE => ?_
 refine knil (kret ?_)
 obtain rfl := oi h
 try dsimp only
 refine Fin.mk hE (rs := [.cell 2 32, .tmp 3, .tmp 4]) rfl (ResL.cell hE hS ty32 rfl (i := 0) rfl (R_whole hc12) (ResL.tmp hE rfl (ResL.tmp hE rfl ResL.nil))) ?_
 exact ⟨_, hm7, (hS.dropL 1), _, _, _, rfl, (RV_of_R (R_whole hc12)), RV_nil, RV_of_bool⟩
 }
theorem c_block_read {W0 : Bse} {m : M} {w : World} {L : List (Nat × List Value)} {TL : List (Nat × Value)} (hS : S W0 m w (L) (TL)) {v0 : Value} {p0 : (List Int)} (ha0 : RV (kSl (kInt .u8)) m v0 p0) {r : (Block_Info × (List Int) × Bool)} (h : block_read p0 = some r) :
    Calls Tryz.prog 57 [v0].toArray w (Ret fun v w' => ∃ m', M.le m m' ∧ S W0 m' w' (L) (TL) ∧ ∃ v0_ v1_ v2_ : Value, v = .tuple #[v0_, v1_, v2_] ∧ RV kBlock_Info m' v0_ r.1 ∧ RV (kSl (kInt .u8)) m' v1_ r.2.1 ∧ RV kBool m' v2_ r.2.2) := by
 refine kcall Tryz.func57 rfl Tryz.ntmps57 (Nat.le_of_ble_eq_true rfl) fun a hE => ?_
 have hE : Env 112 a [(0, v0)] := hE
 unfold block_read at h
 refine kseq (kreg ?_)
 refine st hE (st_alloc hS Tryz.zeroValue34 rfl (cs := zc34)) rfl ?_
 rintro _ a w ⟨b1, rfl, hS⟩ hE
 refine qa hE rfl rfl fun a hE => ?_
 refine qa hE rfl rfl fun a hE => ?_
 refine knil (kseq (kseq ?_))
 refine kcut (fun a w => ∃ x7 : Bool, block_read_j1 p0 x7 = some r ∧ ∃ m', M.le m m' ∧ S W0 m' w ((b1, zc34) :: L) (TL) ∧ Env 112 a [(0, v0), (2, (.pointer (some ⟨b1, 0, none⟩))), (39, (.bool x7))]) ?_ ?_
 {
 rcases Bool.eq_false_or_eq_true (decide ((p0.length : Int) < 3)) with hd319 | hd319
 {
 have h := ite_T hd319 h
 refine kchain (k := 28) (m := m) (es := []) (Φ := (fun i m ws v => match i with | 0 => v = v0 | 1 => v = (.int .i64 (p0.length : Int)) ∧ inR .i64 (p0.length : Int) | 2 => v = (.bool (decide ((p0.length : Int) < 3))) | 3 => v = (.bool (decide ((p0.length : Int) < 3))) | 4 => v = undef | 5 => v = undef | 6 => v = undef | 7 => v = undef | 8 => v = (.bool true) | 9 => v = (.bool true) | 10 => v = undef | 11 => v = undef | 12 => v = undef | 13 => v = undef | 14 => v = (.bool true) | 15 => v = (.bool true) | 16 => v = undef | 17 => v = undef | 18 => v = undef | 19 => v = undef | 20 => v = (.bool true) | 21 => v = (.bool true) | 22 => v = undef | 23 => v = undef | 24 => v = undef | 25 => v = undef | 26 => v = undef | 27 => v = undef | _ => True)) (Q := (fun c m ws L' TL' => match c with | 0 => (b1, zc34) :: L = L' ∧ TL = TL' | _ => False)) (cs := [⟨0, 0, false, [(0, v0)]⟩, ⟨0, 0, false, []⟩, ⟨0, 0, false, []⟩, ⟨0, 0, false, []⟩, ⟨0, 0, false, [(0, v0)]⟩, ⟨0, 0, false, []⟩, ⟨0, 0, false, []⟩, ⟨0, 0, false, []⟩, ⟨0, 0, false, []⟩, ⟨0, 0, false, []⟩, ⟨0, 0, false, [(0, v0)]⟩, ⟨0, 0, false, []⟩, ⟨0, 0, false, []⟩, ⟨0, 0, false, []⟩, ⟨0, 0, false, []⟩, ⟨0, 0, false, []⟩, ⟨0, 0, false, [(0, v0)]⟩, ⟨0, 0, false, []⟩, ⟨0, 0, false, []⟩, ⟨0, 0, false, []⟩, ⟨0, 0, false, []⟩, ⟨0, 0, false, []⟩, ⟨0, 0, false, [(0, v0)]⟩, ⟨0, 0, false, []⟩, ⟨0, 0, false, []⟩, ⟨0, 0, false, [(0, v0)]⟩, ⟨0, 0, false, []⟩, ⟨0, 0, false, []⟩]) mixed hE hS ⟨rfl, rfl⟩ rfl rfl ⟨⟨rfl, trivial⟩, trivial, trivial, trivial, ⟨rfl, trivial⟩, trivial, trivial, trivial, trivial, trivial, ⟨rfl, trivial⟩, trivial, trivial, trivial, trivial, trivial, ⟨rfl, trivial⟩, trivial, trivial, trivial, trivial, trivial, ⟨rfl, trivial⟩, trivial, trivial, ⟨rfl, trivial⟩, trivial, trivial, trivial⟩ (by kernel_rfl) ?_ ?_ ?_ ?_
 {
 intro i m_ m2_ ws v hm_ hp_
 match i, hp_ with
 | 0, hp_ => exact hp_
 | 1, hp_ => exact hp_
 | 2, hp_ => exact hp_
 | 3, hp_ => exact hp_
 | 4, hp_ => exact hp_
 | 5, hp_ => exact hp_
 | 6, hp_ => exact hp_
 | 7, hp_ => exact hp_
 | 8, hp_ => exact hp_
 | 9, hp_ => exact hp_
 | 10, hp_ => exact hp_
 | 11, hp_ => exact hp_
 | 12, hp_ => exact hp_
 | 13, hp_ => exact hp_
 | 14, hp_ => exact hp_
 | 15, hp_ => exact hp_
 | 16, hp_ => exact hp_
 | 17, hp_ => exact hp_
 | 18, hp_ => exact hp_
 | 19, hp_ => exact hp_
 | 20, hp_ => exact hp_
 | 21, hp_ => exact hp_
 | 22, hp_ => exact hp_
 | 23, hp_ => exact hp_
 | 24, hp_ => exact hp_
 | 25, hp_ => exact hp_
 | 26, hp_ => exact hp_
 | 27, hp_ => exact hp_
 | _ + 28, hp_ => exact trivial
 }
 {
 intro c m_ m2_ ws L_ T_ hm_ hq_
 match c, hq_ with
 | 0, ⟨e1_, e2_⟩ => exact ⟨e1_, e2_⟩
 | _ + 1, hq_ => exact hq_.elim
 }
 {
 refine ⟨?_, ?_, ?_, ?_, ?_, ?_, ?_, ?_, ?_, ?_, ?_, ?_, ?_, ?_, ?_, ?_, ?_, ?_, ?_, ?_, ?_, ?_, ?_, ?_, ?_, ?_, ?_, ?_, trivial⟩
 {
 refine cplain fun pre_ post_ L_ T_ m' a' w' hl' hp' hm' hq' hS' hE' hT' => ?_
 obtain rfl := len0 hl'
 refine Step.imp (Run1.pure (r_move hE' rfl)) ?_
 rintro _ _ ⟨rfl, rfl⟩
 exact ⟨_, M.le.refl _, hS', rfl⟩
 }
 {
 refine cplain fun pre_ post_ L_ T_ m' a' w' hl' hp' hm' hq' hS' hE' hT' => ?_
 obtain rfl := len0 hl'
 obtain ⟨v321, e322, q323⟩ : ∃ v, a'.tmps.getD 10 undef = v ∧ (v = v0) := ⟨_, rfl, hT' 0 (by decide) 10 rfl⟩
 have hE := hE'.add (e322.trans q323)
 refine Step.imp (Run1.pure (r_lenSl (k := (kInt .u8)) hE rfl rfl Tryz.underlying24 (ha0.mono hm'))) ?_
 rintro _ _ ⟨rfl, rfl⟩
 exact ⟨_, M.le.refl _, hS', ⟨rfl, (inR_len (RV_len (ha0.mono hm')))⟩⟩
 }
 {
 refine cplain fun pre_ post_ L_ T_ m' a' w' hl' hp' hm' hq' hS' hE' hT' => ?_
 obtain rfl := len0 hl'
 obtain ⟨v325, e326, q327⟩ : ∃ v, a'.tmps.getD 11 undef = v ∧ (v = (.int .i64 (p0.length : Int)) ∧ inR .i64 (p0.length : Int)) := ⟨_, rfl, hT' 1 (by decide) 11 rfl⟩
 obtain ⟨q327, hr328⟩ := q327
 have hE := hE'.add (e326.trans q327)
 refine Step.imp (Run1.pure (r_bin hE rfl rfl b_lss)) ?_
 rintro _ _ ⟨rfl, rfl⟩
 exact ⟨_, M.le.refl _, hS', rfl⟩
 }
 {
 refine cplain fun pre_ post_ L_ T_ m' a' w' hl' hp' hm' hq' hS' hE' hT' => ?_
 obtain rfl := len0 hl'
 obtain ⟨v330, e331, q332⟩ : ∃ v, a'.tmps.getD 12 undef = v ∧ (v = (.bool (decide ((p0.length : Int) < 3)))) := ⟨_, rfl, hT' 2 (by decide) 12 rfl⟩
 have hE := hE'.add (e331.trans q332)
 refine Step.imp (Run1.pure (r_move hE rfl)) ?_
 rintro _ _ ⟨rfl, rfl⟩
 exact ⟨_, M.le.refl _, hS', rfl⟩
 }
 {
 exact cskip (b := true) rfl rfl (by decide) (fun _ _ _ h_ => Eq.trans h_ (cb hd319)) (by decide) (fun _ _ => rfl)
 }
 {
 exact cskip (b := true) rfl rfl (by decide) (fun _ _ _ h_ => Eq.trans h_ (cb hd319)) (by decide) (fun _ _ => rfl)
 }
 {
 exact cskip (b := true) rfl rfl (by decide) (fun _ _ _ h_ => Eq.trans h_ (cb hd319)) (by decide) (fun _ _ => rfl)
 }
 {
 exact cskip (b := true) rfl rfl (by decide) (fun _ _ _ h_ => Eq.trans h_ (cb hd319)) (by decide) (fun _ _ => rfl)
 }
 {
 refine cplain fun pre_ post_ L_ T_ m' a' w' hl' hp' hm' hq' hS' hE' hT' => ?_
 obtain rfl := len0 hl'
 obtain ⟨v334, e335, q336⟩ : ∃ v, a'.tmps.getD 13 undef = v ∧ (v = (.bool (decide ((p0.length : Int) < 3)))) := ⟨_, rfl, hT' 3 (by decide) 13 rfl⟩
 have hE := hE'.add (e335.trans q336)
 obtain ⟨v337, e338, q339⟩ : ∃ v, a'.tmps.getD 17 undef = v ∧ (v = undef) := ⟨_, rfl, hT' 7 (by decide) 17 rfl⟩
 have hE := hE.add (e338.trans q339)
 refine Step.imp (Run1.pure (r_pickT hE rfl hd319 rfl)) ?_
 rintro _ _ ⟨rfl, rfl⟩
 exact ⟨_, M.le.refl _, hS', rfl⟩
 }
 {
 refine cplain fun pre_ post_ L_ T_ m' a' w' hl' hp' hm' hq' hS' hE' hT' => ?_
 obtain rfl := len0 hl'
 obtain ⟨v341, e342, q343⟩ : ∃ v, a'.tmps.getD 18 undef = v ∧ (v = (.bool true)) := ⟨_, rfl, hT' 8 (by decide) 18 rfl⟩
 have hE := hE'.add (e342.trans q343)
 refine Step.imp (Run1.pure (r_move hE rfl)) ?_
 rintro _ _ ⟨rfl, rfl⟩
 exact ⟨_, M.le.refl _, hS', rfl⟩
 }
 {
 exact cskip (b := true) rfl rfl (by decide) (fun _ _ _ h_ => Eq.trans h_ (cb rfl)) (by decide) (fun _ _ => rfl)
 }
 {
 exact cskip (b := true) rfl rfl (by decide) (fun _ _ _ h_ => Eq.trans h_ (cb rfl)) (by decide) (fun _ _ => rfl)
 }
 {
 exact cskip (b := true) rfl rfl (by decide) (fun _ _ _ h_ => Eq.trans h_ (cb rfl)) (by decide) (fun _ _ => rfl)
 }
 {
 exact cskip (b := true) rfl rfl (by decide) (fun _ _ _ h_ => Eq.trans h_ (cb rfl)) (by decide) (fun _ _ => rfl)
 }
 {
 refine cplain fun pre_ post_ L_ T_ m' a' w' hl' hp' hm' hq' hS' hE' hT' => ?_
 obtain rfl := len0 hl'
 obtain ⟨v345, e346, q347⟩ : ∃ v, a'.tmps.getD 19 undef = v ∧ (v = (.bool true)) := ⟨_, rfl, hT' 9 (by decide) 19 rfl⟩
 have hE := hE'.add (e346.trans q347)
 obtain ⟨v348, e349, q350⟩ : ∃ v, a'.tmps.getD 23 undef = v ∧ (v = undef) := ⟨_, rfl, hT' 13 (by decide) 23 rfl⟩
 have hE := hE.add (e349.trans q350)
 refine Step.imp (Run1.pure (r_pickT hE rfl rfl rfl)) ?_
 rintro _ _ ⟨rfl, rfl⟩
 exact ⟨_, M.le.refl _, hS', rfl⟩
 }
 {
 refine cplain fun pre_ post_ L_ T_ m' a' w' hl' hp' hm' hq' hS' hE' hT' => ?_
 obtain rfl := len0 hl'
 obtain ⟨v352, e353, q354⟩ : ∃ v, a'.tmps.getD 24 undef = v ∧ (v = (.bool true)) := ⟨_, rfl, hT' 14 (by decide) 24 rfl⟩
 have hE := hE'.add (e353.trans q354)
 refine Step.imp (Run1.pure (r_move hE rfl)) ?_
 rintro _ _ ⟨rfl, rfl⟩
 exact ⟨_, M.le.refl _, hS', rfl⟩
 }
 {
 exact cskip (b := true) rfl rfl (by decide) (fun _ _ _ h_ => Eq.trans h_ (cb rfl)) (by decide) (fun _ _ => rfl)
 }
 {
 exact cskip (b := true) rfl rfl (by decide) (fun _ _ _ h_ => Eq.trans h_ (cb rfl)) (by decide) (fun _ _ => rfl)
 }
 {
 exact cskip (b := true) rfl rfl (by decide) (fun _ _ _ h_ => Eq.trans h_ (cb rfl)) (by decide) (fun _ _ => rfl)
 }
 {
 exact cskip (b := true) rfl rfl (by decide) (fun _ _ _ h_ => Eq.trans h_ (cb rfl)) (by decide) (fun _ _ => rfl)
 }
 {
 refine cplain fun pre_ post_ L_ T_ m' a' w' hl' hp' hm' hq' hS' hE' hT' => ?_
 obtain rfl := len0 hl'
 obtain ⟨v356, e357, q358⟩ : ∃ v, a'.tmps.getD 25 undef = v ∧ (v = (.bool true)) := ⟨_, rfl, hT' 15 (by decide) 25 rfl⟩
 have hE := hE'.add (e357.trans q358)
 obtain ⟨v359, e360, q361⟩ : ∃ v, a'.tmps.getD 29 undef = v ∧ (v = undef) := ⟨_, rfl, hT' 19 (by decide) 29 rfl⟩
 have hE := hE.add (e360.trans q361)
 refine Step.imp (Run1.pure (r_pickT hE rfl rfl rfl)) ?_
 rintro _ _ ⟨rfl, rfl⟩
 exact ⟨_, M.le.refl _, hS', rfl⟩
 }
 {
 refine cplain fun pre_ post_ L_ T_ m' a' w' hl' hp' hm' hq' hS' hE' hT' => ?_
 obtain rfl := len0 hl'
 obtain ⟨v363, e364, q365⟩ : ∃ v, a'.tmps.getD 30 undef = v ∧ (v = (.bool true)) := ⟨_, rfl, hT' 20 (by decide) 30 rfl⟩
 have hE := hE'.add (e364.trans q365)
 refine Step.imp (Run1.pure (r_move hE rfl)) ?_
 rintro _ _ ⟨rfl, rfl⟩
 exact ⟨_, M.le.refl _, hS', rfl⟩
 }
 {
 exact cskip (b := true) rfl rfl (by decide) (fun _ _ _ h_ => Eq.trans h_ (cb rfl)) (by decide) (fun _ _ => rfl)
 }
 {
 exact cskip (b := true) rfl rfl (by decide) (fun _ _ _ h_ => Eq.trans h_ (cb rfl)) (by decide) (fun _ _ => rfl)
 }
 {
 exact cskip (b := true) rfl rfl (by decide) (fun _ _ _ h_ => Eq.trans h_ (cb rfl)) (by decide) (fun _ _ => rfl)
 }
 {
 exact cskip (b := true) rfl rfl (by decide) (fun _ _ _ h_ => Eq.trans h_ (cb rfl)) (by decide) (fun _ _ => rfl)
 }
 {
 exact cskip (b := true) rfl rfl (by decide) (fun _ _ _ h_ => Eq.trans h_ (cb rfl)) (by decide) (fun _ _ => rfl)
 }
 {
 exact cskip (b := true) rfl rfl (by decide) (fun _ _ _ h_ => Eq.trans h_ (cb rfl)) (by decide) (fun _ _ => rfl)
 }
 }
 {
 intro ws_ L_ T_ m367 a w hl368 hm369 hq370 hS hd371 hn372 ho373 hT374
 obtain rfl := len0 hl368
 obtain ⟨rfl, rfl⟩ := hq370
 have hE := EnvD.of (k := 28) (l' := [(0, v0), (2, (.pointer (some ⟨b1, 0, none⟩))), (3, (.slice none 0 0)), (4, (.bool false))]) hd371 hn372 ho373 ⟨rfl, rfl, rfl, rfl, trivial⟩ rfl
 obtain ⟨v375, e376, q377⟩ : ∃ v, a.tmps.getD 31 undef = v ∧ (v = (.bool true)) := ⟨_, rfl, hT374 21 (by decide) 31 rfl⟩
 have hE := hE.add (e376.trans q377)
 obtain ⟨v378, e379, q380⟩ : ∃ v, a.tmps.getD 34 undef = v ∧ (v = undef) := ⟨_, rfl, hT374 24 (by decide) 34 rfl⟩
 have hE := hE.add (e379.trans q380)
 obtain ⟨v381, e382, q383⟩ : ∃ v, a.tmps.getD 37 undef = v ∧ (v = undef) := ⟨_, rfl, hT374 27 (by decide) 37 rfl⟩
 have hE := hE.add (e382.trans q383)
 refine sx hE rfl rfl rfl rfl rfl rfl fun a hE => ?_
 refine sp hE (r_pickT hE rfl rfl rfl) rfl fun a hE => ?_
 refine knil ?_
 exact ⟨true, h, _, hm369, hS, hE.cut ⟨rfl, rfl, rfl, trivial⟩⟩
 }
 }
 {
 have h := ite_F hd319 h
 obtain ⟨x385, hx386, h⟩ := ob h
 rcases Bool.eq_false_or_eq_true (decide (4 < x385)) with hd390 | hd390
 {
 have h := ite_T hd390 h
 refine kchain (k := 28) (m := m) (es := []) (Φ := (fun i m ws v => match i with | 0 => v = v0 | 1 => v = (.int .i64 (p0.length : Int)) ∧ inR .i64 (p0.length : Int) | 2 => v = (.bool (decide ((p0.length : Int) < 3))) | 3 => v = (.bool (decide ((p0.length : Int) < 3))) | 4 => v = v0 | 5 => PR (kInt .u8) m v x385 | 6 => v = (.int .u8 x385) ∧ inR .u8 x385 | 7 => v = (.bool (decide (4 < x385))) | 8 => v = (.bool (decide (4 < x385))) | 9 => v = (.bool (decide (4 < x385))) | 10 => v = undef | 11 => v = undef | 12 => v = undef | 13 => v = undef | 14 => v = (.bool true) | 15 => v = (.bool true) | 16 => v = undef | 17 => v = undef | 18 => v = undef | 19 => v = undef | 20 => v = (.bool true) | 21 => v = (.bool true) | 22 => v = undef | 23 => v = undef | 24 => v = undef | 25 => v = undef | 26 => v = undef | 27 => v = undef | _ => True)) (Q := (fun c m ws L' TL' => match c with | 0 => (b1, zc34) :: L = L' ∧ TL = TL' | _ => False)) (cs := [⟨0, 0, false, [(0, v0)]⟩, ⟨0, 0, false, []⟩, ⟨0, 0, false, []⟩, ⟨0, 0, false, []⟩, ⟨0, 0, false, [(0, v0)]⟩, ⟨0, 0, false, []⟩, ⟨0, 0, false, []⟩, ⟨0, 0, false, []⟩, ⟨0, 0, false, []⟩, ⟨0, 0, false, []⟩, ⟨0, 0, false, [(0, v0)]⟩, ⟨0, 0, false, []⟩, ⟨0, 0, false, []⟩, ⟨0, 0, false, []⟩, ⟨0, 0, false, []⟩, ⟨0, 0, false, []⟩, ⟨0, 0, false, [(0, v0)]⟩, ⟨0, 0, false, []⟩, ⟨0, 0, false, []⟩, ⟨0, 0, false, []⟩, ⟨0, 0, false, []⟩, ⟨0, 0, false, []⟩, ⟨0, 0, false, [(0, v0)]⟩, ⟨0, 0, false, []⟩, ⟨0, 0, false, []⟩, ⟨0, 0, false, [(0, v0)]⟩, ⟨0, 0, false, []⟩, ⟨0, 0, false, []⟩]) mixed hE hS ⟨rfl, rfl⟩ rfl rfl ⟨⟨rfl, trivial⟩, trivial, trivial, trivial, ⟨rfl, trivial⟩, trivial, trivial, trivial, trivial, trivial, ⟨rfl, trivial⟩, trivial, trivial, trivial, trivial, trivial, ⟨rfl, trivial⟩, trivial, trivial, trivial, trivial, trivial, ⟨rfl, trivial⟩, trivial, trivial, ⟨rfl, trivial⟩, trivial, trivial, trivial⟩ (by kernel_rfl) ?_ ?_ ?_ ?_
 {
 intro i m_ m2_ ws v hm_ hp_
 match i, hp_ with
 | 0, hp_ => exact hp_
 | 1, hp_ => exact hp_
 | 2, hp_ => exact hp_
 | 3, hp_ => exact hp_
 | 4, hp_ => exact hp_
 | 5, hp_ => exact PR.mono hp_ hm_
 | 6, hp_ => exact hp_
 | 7, hp_ => exact hp_
 | 8, hp_ => exact hp_
 | 9, hp_ => exact hp_
 | 10, hp_ => exact hp_
 | 11, hp_ => exact hp_
 | 12, hp_ => exact hp_
 | 13, hp_ => exact hp_
 | 14, hp_ => exact hp_
 | 15, hp_ => exact hp_
 | 16, hp_ => exact hp_
 | 17, hp_ => exact hp_
 | 18, hp_ => exact hp_
 | 19, hp_ => exact hp_
 | 20, hp_ => exact hp_
 | 21, hp_ => exact hp_
 | 22, hp_ => exact hp_
 | 23, hp_ => exact hp_
 | 24, hp_ => exact hp_
 | 25, hp_ => exact hp_
 | 26, hp_ => exact hp_
 | 27, hp_ => exact hp_
 | _ + 28, hp_ => exact trivial
 }
 {
 intro c m_ m2_ ws L_ T_ hm_ hq_
 match c, hq_ with
 | 0, ⟨e1_, e2_⟩ => exact ⟨e1_, e2_⟩
 | _ + 1, hq_ => exact hq_.elim
 }
 {
 refine ⟨?_, ?_, ?_, ?_, ?_, ?_, ?_, ?_, ?_, ?_, ?_, ?_, ?_, ?_, ?_, ?_, ?_, ?_, ?_, ?_, ?_, ?_, ?_, ?_, ?_, ?_, ?_, ?_, trivial⟩
 {
 refine cplain fun pre_ post_ L_ T_ m' a' w' hl' hp' hm' hq' hS' hE' hT' => ?_
 obtain rfl := len0 hl'
 refine Step.imp (Run1.pure (r_move hE' rfl)) ?_
 rintro _ _ ⟨rfl, rfl⟩
 exact ⟨_, M.le.refl _, hS', rfl⟩
 }
 {
 refine cplain fun pre_ post_ L_ T_ m' a' w' hl' hp' hm' hq' hS' hE' hT' => ?_
 obtain rfl := len0 hl'
 obtain ⟨v392, e393, q394⟩ : ∃ v, a'.tmps.getD 10 undef = v ∧ (v = v0) := ⟨_, rfl, hT' 0 (by decide) 10 rfl⟩
 have hE := hE'.add (e393.trans q394)
 refine Step.imp (Run1.pure (r_lenSl (k := (kInt .u8)) hE rfl rfl Tryz.underlying24 (ha0.mono hm'))) ?_
 rintro _ _ ⟨rfl, rfl⟩
 exact ⟨_, M.le.refl _, hS', ⟨rfl, (inR_len (RV_len (ha0.mono hm')))⟩⟩
 }
 {
 refine cplain fun pre_ post_ L_ T_ m' a' w' hl' hp' hm' hq' hS' hE' hT' => ?_
 obtain rfl := len0 hl'
 obtain ⟨v396, e397, q398⟩ : ∃ v, a'.tmps.getD 11 undef = v ∧ (v = (.int .i64 (p0.length : Int)) ∧ inR .i64 (p0.length : Int)) := ⟨_, rfl, hT' 1 (by decide) 11 rfl⟩
 obtain ⟨q398, hr399⟩ := q398
 have hE := hE'.add (e397.trans q398)
 refine Step.imp (Run1.pure (r_bin hE rfl rfl b_lss)) ?_
 rintro _ _ ⟨rfl, rfl⟩
 exact ⟨_, M.le.refl _, hS', rfl⟩
 }
 {
 refine cplain fun pre_ post_ L_ T_ m' a' w' hl' hp' hm' hq' hS' hE' hT' => ?_
 obtain rfl := len0 hl'
 obtain ⟨v401, e402, q403⟩ : ∃ v, a'.tmps.getD 12 undef = v ∧ (v = (.bool (decide ((p0.length : Int) < 3)))) := ⟨_, rfl, hT' 2 (by decide) 12 rfl⟩
 have hE := hE'.add (e402.trans q403)
 refine Step.imp (Run1.pure (r_move hE rfl)) ?_
 rintro _ _ ⟨rfl, rfl⟩
 exact ⟨_, M.le.refl _, hS', rfl⟩
 }
 {
 refine cguard rfl rfl (by decide) (fun _ _ _ h_ => Eq.trans h_ (cb hd319)) fun pre_ post_ L_ T_ m' a' w' hl' hp' hm' hq' hS' hE' hT' => ?_
 obtain rfl := len0 hl'
 refine Step.imp (Run1.pure (r_move hE' rfl)) ?_
 rintro _ _ ⟨rfl, rfl⟩
 exact ⟨_, M.le.refl _, hS', rfl⟩
 }
 {
 refine cguard rfl rfl (by decide) (fun _ _ _ h_ => Eq.trans h_ (cb hd319)) fun pre_ post_ L_ T_ m' a' w' hl' hp' hm' hq' hS' hE' hT' => ?_
 obtain rfl := len0 hl'
 obtain ⟨v406, e407, q408⟩ : ∃ v, a'.tmps.getD 14 undef = v ∧ (v = v0) := ⟨_, rfl, hT' 4 (by decide) 14 rfl⟩
 have hE := hE'.add (e407.trans q408)
 refine Step.imp (st_index (k := (kInt .u8)) hE rfl rfl Tryz.underlying24 Tryz.sizeOf5 (ha0.mono hm') hx386) ?_
 rintro v409 _ ⟨rfl, hp387⟩
 exact ⟨_, M.le.refl _, hS', hp387⟩
 }
 {
 refine cguard rfl rfl (by decide) (fun _ _ _ h_ => Eq.trans h_ (cb hd319)) fun pre_ post_ L_ T_ m' a' w' hl' hp' hm' hq' hS' hE' hT' => ?_
 obtain rfl := len0 hl'
 obtain ⟨v410, e411, q412⟩ : ∃ v, a'.tmps.getD 15 undef = v ∧ (PR (kInt .u8) m' v x385) := ⟨_, rfl, hT' 5 (by decide) 15 rfl⟩
 have hE := hE'.add (e411)
 refine Step.imp (st_loadM hE hS' ty5 rfl q412) ?_
 rintro v413 _ ⟨rfl, hv388⟩
 obtain ⟨rfl, hr414⟩ := RV_int hv388
 exact ⟨_, M.le.refl _, hS', ⟨rfl, hr414⟩⟩
 }
 {
 refine cguard rfl rfl (by decide) (fun _ _ _ h_ => Eq.trans h_ (cb hd319)) fun pre_ post_ L_ T_ m' a' w' hl' hp' hm' hq' hS' hE' hT' => ?_
 obtain rfl := len0 hl'
 obtain ⟨v415, e416, q417⟩ : ∃ v, a'.tmps.getD 16 undef = v ∧ (v = (.int .u8 x385) ∧ inR .u8 x385) := ⟨_, rfl, hT' 6 (by decide) 16 rfl⟩
 obtain ⟨q417, hr418⟩ := q417
 have hE := hE'.add (e416.trans q417)
 refine Step.imp (Run1.pure (r_bin hE rfl rfl b_gtr)) ?_
 rintro _ _ ⟨rfl, rfl⟩
 exact ⟨_, M.le.refl _, hS', rfl⟩
 }
 {
 refine cplain fun pre_ post_ L_ T_ m' a' w' hl' hp' hm' hq' hS' hE' hT' => ?_
 obtain rfl := len0 hl'
 obtain ⟨v420, e421, q422⟩ : ∃ v, a'.tmps.getD 13 undef = v ∧ (v = (.bool (decide ((p0.length : Int) < 3)))) := ⟨_, rfl, hT' 3 (by decide) 13 rfl⟩
 have hE := hE'.add (e421.trans q422)
 obtain ⟨v423, e424, q425⟩ : ∃ v, a'.tmps.getD 17 undef = v ∧ (v = (.bool (decide (4 < x385)))) := ⟨_, rfl, hT' 7 (by decide) 17 rfl⟩
 have hE := hE.add (e424.trans q425)
 refine Step.imp (Run1.pure (r_pickF hE rfl hd319 rfl)) ?_
 rintro _ _ ⟨rfl, rfl⟩
 exact ⟨_, M.le.refl _, hS', rfl⟩
 }
 {
 refine cplain fun pre_ post_ L_ T_ m' a' w' hl' hp' hm' hq' hS' hE' hT' => ?_
 obtain rfl := len0 hl'
 obtain ⟨v427, e428, q429⟩ : ∃ v, a'.tmps.getD 18 undef = v ∧ (v = (.bool (decide (4 < x385)))) := ⟨_, rfl, hT' 8 (by decide) 18 rfl⟩
 have hE := hE'.add (e428.trans q429)
 refine Step.imp (Run1.pure (r_move hE rfl)) ?_
 rintro _ _ ⟨rfl, rfl⟩
 exact ⟨_, M.le.refl _, hS', rfl⟩
 }
 {
 exact cskip (b := true) rfl rfl (by decide) (fun _ _ _ h_ => Eq.trans h_ (cb hd390)) (by decide) (fun _ _ => rfl)
 }
 {
 exact cskip (b := true) rfl rfl (by decide) (fun _ _ _ h_ => Eq.trans h_ (cb hd390)) (by decide) (fun _ _ => rfl)
 }
 {
 exact cskip (b := true) rfl rfl (by decide) (fun _ _ _ h_ => Eq.trans h_ (cb hd390)) (by decide) (fun _ _ => rfl)
 }
 {
 exact cskip (b := true) rfl rfl (by decide) (fun _ _ _ h_ => Eq.trans h_ (cb hd390)) (by decide) (fun _ _ => rfl)
 }
 {
 refine cplain fun pre_ post_ L_ T_ m' a' w' hl' hp' hm' hq' hS' hE' hT' => ?_
 obtain rfl := len0 hl'
 obtain ⟨v431, e432, q433⟩ : ∃ v, a'.tmps.getD 19 undef = v ∧ (v = (.bool (decide (4 < x385)))) := ⟨_, rfl, hT' 9 (by decide) 19 rfl⟩
 have hE := hE'.add (e432.trans q433)
 obtain ⟨v434, e435, q436⟩ : ∃ v, a'.tmps.getD 23 undef = v ∧ (v = undef) := ⟨_, rfl, hT' 13 (by decide) 23 rfl⟩
 have hE := hE.add (e435.trans q436)
 refine Step.imp (Run1.pure (r_pickT hE rfl hd390 rfl)) ?_
 rintro _ _ ⟨rfl, rfl⟩
 exact ⟨_, M.le.refl _, hS', rfl⟩
 }
 {
 refine cplain fun pre_ post_ L_ T_ m' a' w' hl' hp' hm' hq' hS' hE' hT' => ?_
 obtain rfl := len0 hl'
 obtain ⟨v438, e439, q440⟩ : ∃ v, a'.tmps.getD 24 undef = v ∧ (v = (.bool true)) := ⟨_, rfl, hT' 14 (by decide) 24 rfl⟩
 have hE := hE'.add (e439.trans q440)
 refine Step.imp (Run1.pure (r_move hE rfl)) ?_
 rintro _ _ ⟨rfl, rfl⟩
 exact ⟨_, M.le.refl _, hS', rfl⟩
 }
 {
 exact cskip (b := true) rfl rfl (by decide) (fun _ _ _ h_ => Eq.trans h_ (cb rfl)) (by decide) (fun _ _ => rfl)
 }
 {
 exact cskip (b := true) rfl rfl (by decide) (fun _ _ _ h_ => Eq.trans h_ (cb rfl)) (by decide) (fun _ _ => rfl)
 }
 {
 exact cskip (b := true) rfl rfl (by decide) (fun _ _ _ h_ => Eq.trans h_ (cb rfl)) (by decide) (fun _ _ => rfl)
 }
 {
 exact cskip (b := true) rfl rfl (by decide) (fun _ _ _ h_ => Eq.trans h_ (cb rfl)) (by decide) (fun _ _ => rfl)
 }
 {
 refine cplain fun pre_ post_ L_ T_ m' a' w' hl' hp' hm' hq' hS' hE' hT' => ?_
 obtain rfl := len0 hl'
 obtain ⟨v442, e443, q444⟩ : ∃ v, a'.tmps.getD 25 undef = v ∧ (v = (.bool true)) := ⟨_, rfl, hT' 15 (by decide) 25 rfl⟩
 have hE := hE'.add (e443.trans q444)
 obtain ⟨v445, e446, q447⟩ : ∃ v, a'.tmps.getD 29 undef = v ∧ (v = undef) := ⟨_, rfl, hT' 19 (by decide) 29 rfl⟩
 have hE := hE.add (e446.trans q447)
 refine Step.imp (Run1.pure (r_pickT hE rfl rfl rfl)) ?_
 rintro _ _ ⟨rfl, rfl⟩
 exact ⟨_, M.le.refl _, hS', rfl⟩
 }
 {
 refine cplain fun pre_ post_ L_ T_ m' a' w' hl' hp' hm' hq' hS' hE' hT' => ?_
 obtain rfl := len0 hl'
 obtain ⟨v449, e450, q451⟩ : ∃ v, a'.tmps.getD 30 undef = v ∧ (v = (.bool true)) := ⟨_, rfl, hT' 20 (by decide) 30 rfl⟩
 have hE := hE'.add (e450.trans q451)
 refine Step.imp (Run1.pure (r_move hE rfl)) ?_
 rintro _ _ ⟨rfl, rfl⟩
 exact ⟨_, M.le.refl _, hS', rfl⟩
 }
 {
 exact cskip (b := true) rfl rfl (by decide) (fun _ _ _ h_ => Eq.trans h_ (cb rfl)) (by decide) (fun _ _ => rfl)
 }
 {
 exact cskip (b := true) rfl rfl (by decide) (fun _ _ _ h_ => Eq.trans h_ (cb rfl)) (by decide) (fun _ _ => rfl)
 }
 {
 exact cskip (b := true) rfl rfl (by decide) (fun _ _ _ h_ => Eq.trans h_ (cb rfl)) (by decide) (fun _ _ => rfl)
 }
 {
 exact cskip (b := true) rfl rfl (by decide) (fun _ _ _ h_ => Eq.trans h_ (cb rfl)) (by decide) (fun _ _ => rfl)
 }
 {
 exact cskip (b := true) rfl rfl (by decide) (fun _ _ _ h_ => Eq.trans h_ (cb rfl)) (by decide) (fun _ _ => rfl)
 }
 {
 exact cskip (b := true) rfl rfl (by decide) (fun _ _ _ h_ => Eq.trans h_ (cb rfl)) (by decide) (fun _ _ => rfl)
 }
 }
 {
 intro ws_ L_ T_ m453 a w hl454 hm455 hq456 hS hd457 hn458 ho459 hT460
 obtain rfl := len0 hl454
 obtain ⟨rfl, rfl⟩ := hq456
 have hE := EnvD.of (k := 28) (l' := [(0, v0), (2, (.pointer (some ⟨b1, 0, none⟩))), (3, (.slice none 0 0)), (4, (.bool false))]) hd457 hn458 ho459 ⟨rfl, rfl, rfl, rfl, trivial⟩ rfl
 obtain ⟨v461, e462, q463⟩ : ∃ v, a.tmps.getD 31 undef = v ∧ (v = (.bool true)) := ⟨_, rfl, hT460 21 (by decide) 31 rfl⟩
 have hE := hE.add (e462.trans q463)
 obtain ⟨v464, e465, q466⟩ : ∃ v, a.tmps.getD 34 undef = v ∧ (v = undef) := ⟨_, rfl, hT460 24 (by decide) 34 rfl⟩
 have hE := hE.add (e465.trans q466)
 obtain ⟨v467, e468, q469⟩ : ∃ v, a.tmps.getD 37 undef = v ∧ (v = undef) := ⟨_, rfl, hT460 27 (by decide) 37 rfl⟩
 have hE := hE.add (e468.trans q469)
 refine sx hE rfl rfl rfl rfl rfl rfl fun a hE => ?_
 refine sp hE (r_pickT hE rfl rfl rfl) rfl fun a hE => ?_
 refine knil ?_
 exact ⟨true, h, _, hm455, hS, hE.cut ⟨rfl, rfl, rfl, trivial⟩⟩
 }
 }
 {
 have h := ite_F hd390 h
 obtain ⟨x471, hx472, h⟩ := ob h
 rcases Bool.eq_false_or_eq_true (x471 == 0) with hd476 | hd476
 {
 have h := ite_T hd476 h
 refine kchain (k := 28) (m := m) (es := []) (Φ := (fun i m ws v => match i with | 0 => v = v0 | 1 => v = (.int .i64 (p0.length : Int)) ∧ inR .i64 (p0.length : Int) | 2 => v = (.bool (decide ((p0.length : Int) < 3))) | 3 => v = (.bool (decide ((p0.length : Int) < 3))) | 4 => v = v0 | 5 => PR (kInt .u8) m v x385 | 6 => v = (.int .u8 x385) ∧ inR .u8 x385 | 7 => v = (.bool (decide (4 < x385))) | 8 => v = (.bool (decide (4 < x385))) | 9 => v = (.bool (decide (4 < x385))) | 10 => v = v0 | 11 => PR (kInt .u8) m v x471 | 12 => v = (.int .u8 x471) ∧ inR .u8 x471 | 13 => v = (.bool (x471 == 0)) | 14 => v = (.bool (x471 == 0)) | 15 => v = (.bool (x471 == 0)) | 16 => v = undef | 17 => v = undef | 18 => v = undef | 19 => v = undef | 20 => v = (.bool true) | 21 => v = (.bool true) | 22 => v = undef | 23 => v = undef | 24 => v = undef | 25 => v = undef | 26 => v = undef | 27 => v = undef | _ => True)) (Q := (fun c m ws L' TL' => match c with | 0 => (b1, zc34) :: L = L' ∧ TL = TL' | _ => False)) (cs := [⟨0, 0, false, [(0, v0)]⟩, ⟨0, 0, false, []⟩, ⟨0, 0, false, []⟩, ⟨0, 0, false, []⟩, ⟨0, 0, false, [(0, v0)]⟩, ⟨0, 0, false, []⟩, ⟨0, 0, false, []⟩, ⟨0, 0, false, []⟩, ⟨0, 0, false, []⟩, ⟨0, 0, false, []⟩, ⟨0, 0, false, [(0, v0)]⟩, ⟨0, 0, false, []⟩, ⟨0, 0, false, []⟩, ⟨0, 0, false, []⟩, ⟨0, 0, false, []⟩, ⟨0, 0, false, []⟩, ⟨0, 0, false, [(0, v0)]⟩, ⟨0, 0, false, []⟩, ⟨0, 0, false, []⟩, ⟨0, 0, false, []⟩, ⟨0, 0, false, []⟩, ⟨0, 0, false, []⟩, ⟨0, 0, false, [(0, v0)]⟩, ⟨0, 0, false, []⟩, ⟨0, 0, false, []⟩, ⟨0, 0, false, [(0, v0)]⟩, ⟨0, 0, false, []⟩, ⟨0, 0, false, []⟩]) mixed hE hS ⟨rfl, rfl⟩ rfl rfl ⟨⟨rfl, trivial⟩, trivial, trivial, trivial, ⟨rfl, trivial⟩, trivial, trivial, trivial, trivial, trivial, ⟨rfl, trivial⟩, trivial, trivial, trivial, trivial, trivial, ⟨rfl, trivial⟩, trivial, trivial, trivial, trivial, trivial, ⟨rfl, trivial⟩, trivial, trivial, ⟨rfl, trivial⟩, trivial, trivial, trivial⟩ (by kernel_rfl) ?_ ?_ ?_ ?_
 {
 intro i m_ m2_ ws v hm_ hp_
 match i, hp_ with
 | 0, hp_ => exact hp_
 | 1, hp_ => exact hp_
 | 2, hp_ => exact hp_
 | 3, hp_ => exact hp_
 | 4, hp_ => exact hp_
 | 5, hp_ => exact PR.mono hp_ hm_
 | 6, hp_ => exact hp_
 | 7, hp_ => exact hp_
 | 8, hp_ => exact hp_
 | 9, hp_ => exact hp_
 | 10, hp_ => exact hp_
 | 11, hp_ => exact PR.mono hp_ hm_
 | 12, hp_ => exact hp_
 | 13, hp_ => exact hp_
 | 14, hp_ => exact hp_
 | 15, hp_ => exact hp_
 | 16, hp_ => exact hp_
 | 17, hp_ => exact hp_
 | 18, hp_ => exact hp_
 | 19, hp_ => exact hp_
 | 20, hp_ => exact hp_
 | 21, hp_ => exact hp_
 | 22, hp_ => exact hp_
 | 23, hp_ => exact hp_
 | 24, hp_ => exact hp_
 | 25, hp_ => exact hp_
 | 26, hp_ => exact hp_
 | 27, hp_ => exact hp_
 | _ + 28, hp_ => exact trivial
 }
 {
 intro c m_ m2_ ws L_ T_ hm_ hq_
 match c, hq_ with
 | 0, ⟨e1_, e2_⟩ => exact ⟨e1_, e2_⟩
 | _ + 1, hq_ => exact hq_.elim
 }
 {
 refine ⟨?_, ?_, ?_, ?_, ?_, ?_, ?_, ?_, ?_, ?_, ?_, ?_, ?_, ?_, ?_, ?_, ?_, ?_, ?_, ?_, ?_, ?_, ?_, ?_, ?_, ?_, ?_, ?_, trivial⟩
 {
 refine cplain fun pre_ post_ L_ T_ m' a' w' hl' hp' hm' hq' hS' hE' hT' => ?_
 obtain rfl := len0 hl'
 refine Step.imp (Run1.pure (r_move hE' rfl)) ?_
 rintro _ _ ⟨rfl, rfl⟩
 exact ⟨_, M.le.refl _, hS', rfl⟩
 }
 {
 refine cplain fun pre_ post_ L_ T_ m' a' w' hl' hp' hm' hq' hS' hE' hT' => ?_
 obtain rfl := len0 hl'
 obtain ⟨v478, e479, q480⟩ : ∃ v, a'.tmps.getD 10 undef = v ∧ (v = v0) := ⟨_, rfl, hT' 0 (by decide) 10 rfl⟩
 have hE := hE'.add (e479.trans q480)
 refine Step.imp (Run1.pure (r_lenSl (k := (kInt .u8)) hE rfl rfl Tryz.underlying24 (ha0.mono hm'))) ?_
 rintro _ _ ⟨rfl, rfl⟩
 exact ⟨_, M.le.refl _, hS', ⟨rfl, (inR_len (RV_len (ha0.mono hm')))⟩⟩
 }
 {
 refine cplain fun pre_ post_ L_ T_ m' a' w' hl' hp' hm' hq' hS' hE' hT' => ?_
 obtain rfl := len0 hl'
 obtain ⟨v482, e483, q484⟩ : ∃ v, a'.tmps.getD 11 undef = v ∧ (v = (.int .i64 (p0.length : Int)) ∧ inR .i64 (p0.length : Int)) := ⟨_, rfl, hT' 1 (by decide) 11 rfl⟩
 obtain ⟨q484, hr485⟩ := q484
 have hE := hE'.add (e483.trans q484)
 refine Step.imp (Run1.pure (r_bin hE rfl rfl b_lss)) ?_
 rintro _ _ ⟨rfl, rfl⟩
 exact ⟨_, M.le.refl _, hS', rfl⟩
 }
 {
 refine cplain fun pre_ post_ L_ T_ m' a' w' hl' hp' hm' hq' hS' hE' hT' => ?_
 obtain rfl := len0 hl'
 obtain ⟨v487, e488, q489⟩ : ∃ v, a'.tmps.getD 12 undef = v ∧ (v = (.bool (decide ((p0.length : Int) < 3)))) := ⟨_, rfl, hT' 2 (by decide) 12 rfl⟩
 have hE := hE'.add (e488.trans q489)
 refine Step.imp (Run1.pure (r_move hE rfl)) ?_
 rintro _ _ ⟨rfl, rfl⟩
 exact ⟨_, M.le.refl _, hS', rfl⟩
 }
 {
 refine cguard rfl rfl (by decide) (fun _ _ _ h_ => Eq.trans h_ (cb hd319)) fun pre_ post_ L_ T_ m' a' w' hl' hp' hm' hq' hS' hE' hT' => ?_
 obtain rfl := len0 hl'
 refine Step.imp (Run1.pure (r_move hE' rfl)) ?_
 rintro _ _ ⟨rfl, rfl⟩
 exact ⟨_, M.le.refl _, hS', rfl⟩
 }
 {
 refine cguard rfl rfl (by decide) (fun _ _ _ h_ => Eq.trans h_ (cb hd319)) fun pre_ post_ L_ T_ m' a' w' hl' hp' hm' hq' hS' hE' hT' => ?_
 obtain rfl := len0 hl'
 obtain ⟨v492, e493, q494⟩ : ∃ v, a'.tmps.getD 14 undef = v ∧ (v = v0) := ⟨_, rfl, hT' 4 (by decide) 14 rfl⟩
 have hE := hE'.add (e493.trans q494)
 refine Step.imp (st_index (k := (kInt .u8)) hE rfl rfl Tryz.underlying24 Tryz.sizeOf5 (ha0.mono hm') hx386) ?_
 rintro v495 _ ⟨rfl, hp387⟩
 exact ⟨_, M.le.refl _, hS', hp387⟩
 }
 {
 refine cguard rfl rfl (by decide) (fun _ _ _ h_ => Eq.trans h_ (cb hd319)) fun pre_ post_ L_ T_ m' a' w' hl' hp' hm' hq' hS' hE' hT' => ?_
 obtain rfl := len0 hl'
 obtain ⟨v496, e497, q498⟩ : ∃ v, a'.tmps.getD 15 undef = v ∧ (PR (kInt .u8) m' v x385) := ⟨_, rfl, hT' 5 (by decide) 15 rfl⟩
 have hE := hE'.add (e497)
 refine Step.imp (st_loadM hE hS' ty5 rfl q498) ?_
 rintro v499 _ ⟨rfl, hv388⟩
 obtain ⟨rfl, hr500⟩ := RV_int hv388
 exact ⟨_, M.le.refl _, hS', ⟨rfl, hr500⟩⟩
 }
 {
 refine cguard rfl rfl (by decide) (fun _ _ _ h_ => Eq.trans h_ (cb hd319)) fun pre_ post_ L_ T_ m' a' w' hl' hp' hm' hq' hS' hE' hT' => ?_
 obtain rfl := len0 hl'
 obtain ⟨v501, e502, q503⟩ : ∃ v, a'.tmps.getD 16 undef = v ∧ (v = (.int .u8 x385) ∧ inR .u8 x385) := ⟨_, rfl, hT' 6 (by decide) 16 rfl⟩
 obtain ⟨q503, hr504⟩ := q503
 have hE := hE'.add (e502.trans q503)
 refine Step.imp (Run1.pure (r_bin hE rfl rfl b_gtr)) ?_
 rintro _ _ ⟨rfl, rfl⟩
 exact ⟨_, M.le.refl _, hS', rfl⟩
 }
 {
 refine cplain fun pre_ post_ L_ T_ m' a' w' hl' hp' hm' hq' hS' hE' hT' => ?_
 obtain rfl := len0 hl'
 obtain ⟨v506, e507, q508⟩ : ∃ v, a'.tmps.getD 13 undef = v ∧ (v = (.bool (decide ((p0.length : Int) < 3)))) := ⟨_, rfl, hT' 3 (by decide) 13 rfl⟩
 have hE := hE'.add (e507.trans q508)
 obtain ⟨v509, e510, q511⟩ : ∃ v, a'.tmps.getD 17 undef = v ∧ (v = (.bool (decide (4 < x385)))) := ⟨_, rfl, hT' 7 (by decide) 17 rfl⟩
 have hE := hE.add (e510.trans q511)
 refine Step.imp (Run1.pure (r_pickF hE rfl hd319 rfl)) ?_
 rintro _ _ ⟨rfl, rfl⟩
 exact ⟨_, M.le.refl _, hS', rfl⟩
 }
 {
 refine cplain fun pre_ post_ L_ T_ m' a' w' hl' hp' hm' hq' hS' hE' hT' => ?_
 obtain rfl := len0 hl'
 obtain ⟨v513, e514, q515⟩ : ∃ v, a'.tmps.getD 18 undef = v ∧ (v = (.bool (decide (4 < x385)))) := ⟨_, rfl, hT' 8 (by decide) 18 rfl⟩
 have hE := hE'.add (e514.trans q515)
 refine Step.imp (Run1.pure (r_move hE rfl)) ?_
 rintro _ _ ⟨rfl, rfl⟩
 exact ⟨_, M.le.refl _, hS', rfl⟩
 }
 {
 refine cguard rfl rfl (by decide) (fun _ _ _ h_ => Eq.trans h_ (cb hd390)) fun pre_ post_ L_ T_ m' a' w' hl' hp' hm' hq' hS' hE' hT' => ?_
 obtain rfl := len0 hl'
 refine Step.imp (Run1.pure (r_move hE' rfl)) ?_
 rintro _ _ ⟨rfl, rfl⟩
 exact ⟨_, M.le.refl _, hS', rfl⟩
 }
 {
 refine cguard rfl rfl (by decide) (fun _ _ _ h_ => Eq.trans h_ (cb hd390)) fun pre_ post_ L_ T_ m' a' w' hl' hp' hm' hq' hS' hE' hT' => ?_
 obtain rfl := len0 hl'
 obtain ⟨v518, e519, q520⟩ : ∃ v, a'.tmps.getD 20 undef = v ∧ (v = v0) := ⟨_, rfl, hT' 10 (by decide) 20 rfl⟩
 have hE := hE'.add (e519.trans q520)
 refine Step.imp (st_index (k := (kInt .u8)) hE rfl rfl Tryz.underlying24 Tryz.sizeOf5 (ha0.mono hm') hx472) ?_
 rintro v521 _ ⟨rfl, hp473⟩
 exact ⟨_, M.le.refl _, hS', hp473⟩
 }
 {
 refine cguard rfl rfl (by decide) (fun _ _ _ h_ => Eq.trans h_ (cb hd390)) fun pre_ post_ L_ T_ m' a' w' hl' hp' hm' hq' hS' hE' hT' => ?_
 obtain rfl := len0 hl'
 obtain ⟨v522, e523, q524⟩ : ∃ v, a'.tmps.getD 21 undef = v ∧ (PR (kInt .u8) m' v x471) := ⟨_, rfl, hT' 11 (by decide) 21 rfl⟩
 have hE := hE'.add (e523)
 refine Step.imp (st_loadM hE hS' ty5 rfl q524) ?_
 rintro v525 _ ⟨rfl, hv474⟩
 obtain ⟨rfl, hr526⟩ := RV_int hv474
 exact ⟨_, M.le.refl _, hS', ⟨rfl, hr526⟩⟩
 }
 {
 refine cguard rfl rfl (by decide) (fun _ _ _ h_ => Eq.trans h_ (cb hd390)) fun pre_ post_ L_ T_ m' a' w' hl' hp' hm' hq' hS' hE' hT' => ?_
 obtain rfl := len0 hl'
 obtain ⟨v527, e528, q529⟩ : ∃ v, a'.tmps.getD 22 undef = v ∧ (v = (.int .u8 x471) ∧ inR .u8 x471) := ⟨_, rfl, hT' 12 (by decide) 22 rfl⟩
 obtain ⟨q529, hr530⟩ := q529
 have hE := hE'.add (e528.trans q529)
 refine Step.imp (Run1.pure (r_bin hE rfl rfl b_eql)) ?_
 rintro _ _ ⟨rfl, rfl⟩
 exact ⟨_, M.le.refl _, hS', rfl⟩
 }
 {
 refine cplain fun pre_ post_ L_ T_ m' a' w' hl' hp' hm' hq' hS' hE' hT' => ?_
 obtain rfl := len0 hl'
 obtain ⟨v532, e533, q534⟩ : ∃ v, a'.tmps.getD 19 undef = v ∧ (v = (.bool (decide (4 < x385)))) := ⟨_, rfl, hT' 9 (by decide) 19 rfl⟩
 have hE := hE'.add (e533.trans q534)
 obtain ⟨v535, e536, q537⟩ : ∃ v, a'.tmps.getD 23 undef = v ∧ (v = (.bool (x471 == 0))) := ⟨_, rfl, hT' 13 (by decide) 23 rfl⟩
 have hE := hE.add (e536.trans q537)
 refine Step.imp (Run1.pure (r_pickF hE rfl hd390 rfl)) ?_
 rintro _ _ ⟨rfl, rfl⟩
 exact ⟨_, M.le.refl _, hS', rfl⟩
 }
 {
 refine cplain fun pre_ post_ L_ T_ m' a' w' hl' hp' hm' hq' hS' hE' hT' => ?_
 obtain rfl := len0 hl'
 obtain ⟨v539, e540, q541⟩ : ∃ v, a'.tmps.getD 24 undef = v ∧ (v = (.bool (x471 == 0))) := ⟨_, rfl, hT' 14 (by decide) 24 rfl⟩
 have hE := hE'.add (e540.trans q541)
 refine Step.imp (Run1.pure (r_move hE rfl)) ?_
 rintro _ _ ⟨rfl, rfl⟩
 exact ⟨_, M.le.refl _, hS', rfl⟩
 }
 {
 exact cskip (b := true) rfl rfl (by decide) (fun _ _ _ h_ => Eq.trans h_ (cb hd476)) (by decide) (fun _ _ => rfl)
 }
 {
 exact cskip (b := true) rfl rfl (by decide) (fun _ _ _ h_ => Eq.trans h_ (cb hd476)) (by decide) (fun _ _ => rfl)
 }
 {
 exact cskip (b := true) rfl rfl (by decide) (fun _ _ _ h_ => Eq.trans h_ (cb hd476)) (by decide) (fun _ _ => rfl)
 }
 {
 exact cskip (b := true) rfl rfl (by decide) (fun _ _ _ h_ => Eq.trans h_ (cb hd476)) (by decide) (fun _ _ => rfl)
 }
 {
 refine cplain fun pre_ post_ L_ T_ m' a' w' hl' hp' hm' hq' hS' hE' hT' => ?_
 obtain rfl := len0 hl'
 obtain ⟨v543, e544, q545⟩ : ∃ v, a'.tmps.getD 25 undef = v ∧ (v = (.bool (x471 == 0))) := ⟨_, rfl, hT' 15 (by decide) 25 rfl⟩
 have hE := hE'.add (e544.trans q545)
 obtain ⟨v546, e547, q548⟩ : ∃ v, a'.tmps.getD 29 undef = v ∧ (v = undef) := ⟨_, rfl, hT' 19 (by decide) 29 rfl⟩
 have hE := hE.add (e547.trans q548)
 refine Step.imp (Run1.pure (r_pickT hE rfl hd476 rfl)) ?_
 rintro _ _ ⟨rfl, rfl⟩
 exact ⟨_, M.le.refl _, hS', rfl⟩
 }
 {
 refine cplain fun pre_ post_ L_ T_ m' a' w' hl' hp' hm' hq' hS' hE' hT' => ?_
 obtain rfl := len0 hl'
 obtain ⟨v550, e551, q552⟩ : ∃ v, a'.tmps.getD 30 undef = v ∧ (v = (.bool true)) := ⟨_, rfl, hT' 20 (by decide) 30 rfl⟩
 have hE := hE'.add (e551.trans q552)
 refine Step.imp (Run1.pure (r_move hE rfl)) ?_
 rintro _ _ ⟨rfl, rfl⟩
 exact ⟨_, M.le.refl _, hS', rfl⟩
 }
 {
 exact cskip (b := true) rfl rfl (by decide) (fun _ _ _ h_ => Eq.trans h_ (cb rfl)) (by decide) (fun _ _ => rfl)
 }
 {
 exact cskip (b := true) rfl rfl (by decide) (fun _ _ _ h_ => Eq.trans h_ (cb rfl)) (by decide) (fun _ _ => rfl)
 }
 {
 exact cskip (b := true) rfl rfl (by decide) (fun _ _ _ h_ => Eq.trans h_ (cb rfl)) (by decide) (fun _ _ => rfl)
 }
 {
 exact cskip (b := true) rfl rfl (by decide) (fun _ _ _ h_ => Eq.trans h_ (cb rfl)) (by decide) (fun _ _ => rfl)
 }
 {
 exact cskip (b := true) rfl rfl (by decide) (fun _ _ _ h_ => Eq.trans h_ (cb rfl)) (by decide) (fun _ _ => rfl)
 }
 {
 exact cskip (b := true) rfl rfl (by decide) (fun _ _ _ h_ => Eq.trans h_ (cb rfl)) (by decide) (fun _ _ => rfl)
 }
 }
 {
 intro ws_ L_ T_ m554 a w hl555 hm556 hq557 hS hd558 hn559 ho560 hT561
 obtain rfl := len0 hl555
 obtain ⟨rfl, rfl⟩ := hq557
 have hE := EnvD.of (k := 28) (l' := [(0, v0), (2, (.pointer (some ⟨b1, 0, none⟩))), (3, (.slice none 0 0)), (4, (.bool false))]) hd558 hn559 ho560 ⟨rfl, rfl, rfl, rfl, trivial⟩ rfl
 obtain ⟨v562, e563, q564⟩ : ∃ v, a.tmps.getD 31 undef = v ∧ (v = (.bool true)) := ⟨_, rfl, hT561 21 (by decide) 31 rfl⟩
 have hE := hE.add (e563.trans q564)
 obtain ⟨v565, e566, q567⟩ : ∃ v, a.tmps.getD 34 undef = v ∧ (v = undef) := ⟨_, rfl, hT561 24 (by decide) 34 rfl⟩
 have hE := hE.add (e566.trans q567)
 obtain ⟨v568, e569, q570⟩ : ∃ v, a.tmps.getD 37 undef = v ∧ (v = undef) := ⟨_, rfl, hT561 27 (by decide) 37 rfl⟩
 have hE := hE.add (e569.trans q570)
 refine sx hE rfl rfl rfl rfl rfl rfl fun a hE => ?_
 refine sp hE (r_pickT hE rfl rfl rfl) rfl fun a hE => ?_
 refine knil ?_
 exact ⟨true, h, _, hm556, hS, hE.cut ⟨rfl, rfl, rfl, trivial⟩⟩
 }
 }
 {
 have h := ite_F hd476 h
 obtain ⟨x572, hx573, h⟩ := ob h
 rcases Bool.eq_false_or_eq_true (decide (64 < x572)) with hd577 | hd577
 {
 have h := ite_T hd577 h
 refine kchain (k := 28) (m := m) (es := []) (Φ := (fun i m ws v => match i with | 0 => v = v0 | 1 => v = (.int .i64 (p0.length : Int)) ∧ inR .i64 (p0.length : Int) | 2 => v = (.bool (decide ((p0.length : Int) < 3))) | 3 => v = (.bool (decide ((p0.length : Int) < 3))) | 4 => v = v0 | 5 => PR (kInt .u8) m v x385 | 6 => v = (.int .u8 x385) ∧ inR .u8 x385 | 7 => v = (.bool (decide (4 < x385))) | 8 => v = (.bool (decide (4 < x385))) | 9 => v = (.bool (decide (4 < x385))) | 10 => v = v0 | 11 => PR (kInt .u8) m v x471 | 12 => v = (.int .u8 x471) ∧ inR .u8 x471 | 13 => v = (.bool (x471 == 0)) | 14 => v = (.bool (x471 == 0)) | 15 => v = (.bool (x471 == 0)) | 16 => v = v0 | 17 => PR (kInt .u8) m v x572 | 18 => v = (.int .u8 x572) ∧ inR .u8 x572 | 19 => v = (.bool (decide (64 < x572))) | 20 => v = (.bool (decide (64 < x572))) | 21 => v = (.bool (decide (64 < x572))) | 22 => v = undef | 23 => v = undef | 24 => v = undef | 25 => v = undef | 26 => v = undef | 27 => v = undef | _ => True)) (Q := (fun c m ws L' TL' => match c with | 0 => (b1, zc34) :: L = L' ∧ TL = TL' | _ => False)) (cs := [⟨0, 0, false, [(0, v0)]⟩, ⟨0, 0, false, []⟩, ⟨0, 0, false, []⟩, ⟨0, 0, false, []⟩, ⟨0, 0, false, [(0, v0)]⟩, ⟨0, 0, false, []⟩, ⟨0, 0, false, []⟩, ⟨0, 0, false, []⟩, ⟨0, 0, false, []⟩, ⟨0, 0, false, []⟩, ⟨0, 0, false, [(0, v0)]⟩, ⟨0, 0, false, []⟩, ⟨0, 0, false, []⟩, ⟨0, 0, false, []⟩, ⟨0, 0, false, []⟩, ⟨0, 0, false, []⟩, ⟨0, 0, false, [(0, v0)]⟩, ⟨0, 0, false, []⟩, ⟨0, 0, false, []⟩, ⟨0, 0, false, []⟩, ⟨0, 0, false, []⟩, ⟨0, 0, false, []⟩, ⟨0, 0, false, [(0, v0)]⟩, ⟨0, 0, false, []⟩, ⟨0, 0, false, []⟩, ⟨0, 0, false, [(0, v0)]⟩, ⟨0, 0, false, []⟩, ⟨0, 0, false, []⟩]) mixed hE hS ⟨rfl, rfl⟩ rfl rfl ⟨⟨rfl, trivial⟩, trivial, trivial, trivial, ⟨rfl, trivial⟩, trivial, trivial, trivial, trivial, trivial, ⟨rfl, trivial⟩, trivial, trivial, trivial, trivial, trivial, ⟨rfl, trivial⟩, trivial, trivial, trivial, trivial, trivial, ⟨rfl, trivial⟩, trivial, trivial, ⟨rfl, trivial⟩, trivial, trivial, trivial⟩ (by kernel_rfl) ?_ ?_ ?_ ?_
 {
 intro i m_ m2_ ws v hm_ hp_
 match i, hp_ with
 | 0, hp_ => exact hp_
 | 1, hp_ => exact hp_
 | 2, hp_ => exact hp_
 | 3, hp_ => exact hp_
 | 4, hp_ => exact hp_
 | 5, hp_ => exact PR.mono hp_ hm_
 | 6, hp_ => exact hp_
 | 7, hp_ => exact hp_
 | 8, hp_ => exact hp_
 | 9, hp_ => exact hp_
 | 10, hp_ => exact hp_
 | 11, hp_ => exact PR.mono hp_ hm_
 | 12, hp_ => exact hp_
 | 13, hp_ => exact hp_
 | 14, hp_ => exact hp_
 | 15, hp_ => exact hp_
 | 16, hp_ => exact hp_
 | 17, hp_ => exact PR.mono hp_ hm_
 | 18, hp_ => exact hp_
 | 19, hp_ => exact hp_
 | 20, hp_ => exact hp_
 | 21, hp_ => exact hp_
 | 22, hp_ => exact hp_
 | 23, hp_ => exact hp_
 | 24, hp_ => exact hp_
 | 25, hp_ => exact hp_
 | 26, hp_ => exact hp_
 | 27, hp_ => exact hp_
 | _ + 28, hp_ => exact trivial
 }
 {
 intro c m_ m2_ ws L_ T_ hm_ hq_
 match c, hq_ with
 | 0, ⟨e1_, e2_⟩ => exact ⟨e1_, e2_⟩
 | _ + 1, hq_ => exact hq_.elim
 }
 {
 refine ⟨?_, ?_, ?_, ?_, ?_, ?_, ?_, ?_, ?_, ?_, ?_, ?_, ?_, ?_, ?_, ?_, ?_, ?_, ?_, ?_, ?_, ?_, ?_, ?_, ?_, ?_, ?_, ?_, trivial⟩
 {
 refine cplain fun pre_ post_ L_ T_ m' a' w' hl' hp' hm' hq' hS' hE' hT' => ?_
 obtain rfl := len0 hl'
 refine Step.imp (Run1.pure (r_move hE' rfl)) ?_
 rintro _ _ ⟨rfl, rfl⟩
 exact ⟨_, M.le.refl _, hS', rfl⟩
 }
 {
 refine cplain fun pre_ post_ L_ T_ m' a' w' hl' hp' hm' hq' hS' hE' hT' => ?_
 obtain rfl := len0 hl'
 obtain ⟨v579, e580, q581⟩ : ∃ v, a'.tmps.getD 10 undef = v ∧ (v = v0) := ⟨_, rfl, hT' 0 (by decide) 10 rfl⟩
 have hE := hE'.add (e580.trans q581)
 refine Step.imp (Run1.pure (r_lenSl (k := (kInt .u8)) hE rfl rfl Tryz.underlying24 (ha0.mono hm'))) ?_
 rintro _ _ ⟨rfl, rfl⟩
 exact ⟨_, M.le.refl _, hS', ⟨rfl, (inR_len (RV_len (ha0.mono hm')))⟩⟩
 }
 {
 refine cplain fun pre_ post_ L_ T_ m' a' w' hl' hp' hm' hq' hS' hE' hT' => ?_
 obtain rfl := len0 hl'
 obtain ⟨v583, e584, q585⟩ : ∃ v, a'.tmps.getD 11 undef = v ∧ (v = (.int .i64 (p0.length : Int)) ∧ inR .i64 (p0.length : Int)) := ⟨_, rfl, hT' 1 (by decide) 11 rfl⟩
 obtain ⟨q585, hr586⟩ := q585
 have hE := hE'.add (e584.trans q585)
 refine Step.imp (Run1.pure (r_bin hE rfl rfl b_lss)) ?_
 rintro _ _ ⟨rfl, rfl⟩
 exact ⟨_, M.le.refl _, hS', rfl⟩
 }
 {
 refine cplain fun pre_ post_ L_ T_ m' a' w' hl' hp' hm' hq' hS' hE' hT' => ?_
 obtain rfl := len0 hl'
 obtain ⟨v588, e589, q590⟩ : ∃ v, a'.tmps.getD 12 undef = v ∧ (v = (.bool (decide ((p0.length : Int) < 3)))) := ⟨_, rfl, hT' 2 (by decide) 12 rfl⟩
 have hE := hE'.add (e589.trans q590)
 refine Step.imp (Run1.pure (r_move hE rfl)) ?_
 rintro _ _ ⟨rfl, rfl⟩
 exact ⟨_, M.le.refl _, hS', rfl⟩
 }
 {
 refine cguard rfl rfl (by decide) (fun _ _ _ h_ => Eq.trans h_ (cb hd319)) fun pre_ post_ L_ T_ m' a' w' hl' hp' hm' hq' hS' hE' hT' => ?_
 obtain rfl := len0 hl'
 refine Step.imp (Run1.pure (r_move hE' rfl)) ?_
 rintro _ _ ⟨rfl, rfl⟩
 exact ⟨_, M.le.refl _, hS', rfl⟩
 }
 {
 refine cguard rfl rfl (by decide) (fun _ _ _ h_ => Eq.trans h_ (cb hd319)) fun pre_ post_ L_ T_ m' a' w' hl' hp' hm' hq' hS' hE' hT' => ?_
 obtain rfl := len0 hl'
 obtain ⟨v593, e594, q595⟩ : ∃ v, a'.tmps.getD 14 undef = v ∧ (v = v0) := ⟨_, rfl, hT' 4 (by decide) 14 rfl⟩
 have hE := hE'.add (e594.trans q595)
 refine Step.imp (st_index (k := (kInt .u8)) hE rfl rfl Tryz.underlying24 Tryz.sizeOf5 (ha0.mono hm') hx386) ?_
 rintro v596 _ ⟨rfl, hp387⟩
 exact ⟨_, M.le.refl _, hS', hp387⟩
 }
 {
 refine cguard rfl rfl (by decide) (fun _ _ _ h_ => Eq.trans h_ (cb hd319)) fun pre_ post_ L_ T_ m' a' w' hl' hp' hm' hq' hS' hE' hT' => ?_
 obtain rfl := len0 hl'
 obtain ⟨v597, e598, q599⟩ : ∃ v, a'.tmps.getD 15 undef = v ∧ (PR (kInt .u8) m' v x385) := ⟨_, rfl, hT' 5 (by decide) 15 rfl⟩
 have hE := hE'.add (e598)
 refine Step.imp (st_loadM hE hS' ty5 rfl q599) ?_
 rintro v600 _ ⟨rfl, hv388⟩
 obtain ⟨rfl, hr601⟩ := RV_int hv388
 exact ⟨_, M.le.refl _, hS', ⟨rfl, hr601⟩⟩
 }
 {
 refine cguard rfl rfl (by decide) (fun _ _ _ h_ => Eq.trans h_ (cb hd319)) fun pre_ post_ L_ T_ m' a' w' hl' hp' hm' hq' hS' hE' hT' => ?_
 obtain rfl := len0 hl'
 obtain ⟨v602, e603, q604⟩ : ∃ v, a'.tmps.getD 16 undef = v ∧ (v = (.int .u8 x385) ∧ inR .u8 x385) := ⟨_, rfl, hT' 6 (by decide) 16 rfl⟩
 obtain ⟨q604, hr605⟩ := q604
 have hE := hE'.add (e603.trans q604)
 refine Step.imp (Run1.pure (r_bin hE rfl rfl b_gtr)) ?_
 rintro _ _ ⟨rfl, rfl⟩
 exact ⟨_, M.le.refl _, hS', rfl⟩
 }
 {
 refine cplain fun pre_ post_ L_ T_ m' a' w' hl' hp' hm' hq' hS' hE' hT' => ?_
 obtain rfl := len0 hl'
 obtain ⟨v607, e608, q609⟩ : ∃ v, a'.tmps.getD 13 undef = v ∧ (v = (.bool (decide ((p0.length : Int) < 3)))) := ⟨_, rfl, hT' 3 (by decide) 13 rfl⟩
 have hE := hE'.add (e608.trans q609)
 obtain ⟨v610, e611, q612⟩ : ∃ v, a'.tmps.getD 17 undef = v ∧ (v = (.bool (decide (4 < x385)))) := ⟨_, rfl, hT' 7 (by decide) 17 rfl⟩
 have hE := hE.add (e611.trans q612)
 refine Step.imp (Run1.pure (r_pickF hE rfl hd319 rfl)) ?_
 rintro _ _ ⟨rfl, rfl⟩
 exact ⟨_, M.le.refl _, hS', rfl⟩
 }
 {
 refine cplain fun pre_ post_ L_ T_ m' a' w' hl' hp' hm' hq' hS' hE' hT' => ?_
 obtain rfl := len0 hl'
 obtain ⟨v614, e615, q616⟩ : ∃ v, a'.tmps.getD 18 undef = v ∧ (v = (.bool (decide (4 < x385)))) := ⟨_, rfl, hT' 8 (by decide) 18 rfl⟩
 have hE := hE'.add (e615.trans q616)
 refine Step.imp (Run1.pure (r_move hE rfl)) ?_
 rintro _ _ ⟨rfl, rfl⟩
 exact ⟨_, M.le.refl _, hS', rfl⟩
 }
 {
 refine cguard rfl rfl (by decide) (fun _ _ _ h_ => Eq.trans h_ (cb hd390)) fun pre_ post_ L_ T_ m' a' w' hl' hp' hm' hq' hS' hE' hT' => ?_
 obtain rfl := len0 hl'
 refine Step.imp (Run1.pure (r_move hE' rfl)) ?_
 rintro _ _ ⟨rfl, rfl⟩
 exact ⟨_, M.le.refl _, hS', rfl⟩
 }
 {
 refine cguard rfl rfl (by decide) (fun _ _ _ h_ => Eq.trans h_ (cb hd390)) fun pre_ post_ L_ T_ m' a' w' hl' hp' hm' hq' hS' hE' hT' => ?_
 obtain rfl := len0 hl'
 obtain ⟨v619, e620, q621⟩ : ∃ v, a'.tmps.getD 20 undef = v ∧ (v = v0) := ⟨_, rfl, hT' 10 (by decide) 20 rfl⟩
 have hE := hE'.add (e620.trans q621)
 refine Step.imp (st_index (k := (kInt .u8)) hE rfl rfl Tryz.underlying24 Tryz.sizeOf5 (ha0.mono hm') hx472) ?_
 rintro v622 _ ⟨rfl, hp473⟩
 exact ⟨_, M.le.refl _, hS', hp473⟩
 }
 {
 refine cguard rfl rfl (by decide) (fun _ _ _ h_ => Eq.trans h_ (cb hd390)) fun pre_ post_ L_ T_ m' a' w' hl' hp' hm' hq' hS' hE' hT' => ?_
 obtain rfl := len0 hl'
 obtain ⟨v623, e624, q625⟩ : ∃ v, a'.tmps.getD 21 undef = v ∧ (PR (kInt .u8) m' v x471) := ⟨_, rfl, hT' 11 (by decide) 21 rfl⟩
 have hE := hE'.add (e624)
 refine Step.imp (st_loadM hE hS' ty5 rfl q625) ?_
 rintro v626 _ ⟨rfl, hv474⟩
 obtain ⟨rfl, hr627⟩ := RV_int hv474
 exact ⟨_, M.le.refl _, hS', ⟨rfl, hr627⟩⟩
 }
 {
 refine cguard rfl rfl (by decide) (fun _ _ _ h_ => Eq.trans h_ (cb hd390)) fun pre_ post_ L_ T_ m' a' w' hl' hp' hm' hq' hS' hE' hT' => ?_
 obtain rfl := len0 hl'
 obtain ⟨v628, e629, q630⟩ : ∃ v, a'.tmps.getD 22 undef = v ∧ (v = (.int .u8 x471) ∧ inR .u8 x471) := ⟨_, rfl, hT' 12 (by decide) 22 rfl⟩
 obtain ⟨q630, hr631⟩ := q630
 have hE := hE'.add (e629.trans q630)
 refine Step.imp (Run1.pure (r_bin hE rfl rfl b_eql)) ?_
 rintro _ _ ⟨rfl, rfl⟩
 exact ⟨_, M.le.refl _, hS', rfl⟩
 }
 {
 refine cplain fun pre_ post_ L_ T_ m' a' w' hl' hp' hm' hq' hS' hE' hT' => ?_
 obtain rfl := len0 hl'
 obtain ⟨v633, e634, q635⟩ : ∃ v, a'.tmps.getD 19 undef = v ∧ (v = (.bool (decide (4 < x385)))) := ⟨_, rfl, hT' 9 (by decide) 19 rfl⟩
 have hE := hE'.add (e634.trans q635)
 obtain ⟨v636, e637, q638⟩ : ∃ v, a'.tmps.getD 23 undef = v ∧ (v = (.bool (x471 == 0))) := ⟨_, rfl, hT' 13 (by decide) 23 rfl⟩
 have hE := hE.add (e637.trans q638)
 refine Step.imp (Run1.pure (r_pickF hE rfl hd390 rfl)) ?_
 rintro _ _ ⟨rfl, rfl⟩
 exact ⟨_, M.le.refl _, hS', rfl⟩
 }
 {
 refine cplain fun pre_ post_ L_ T_ m' a' w' hl' hp' hm' hq' hS' hE' hT' => ?_
 obtain rfl := len0 hl'
 obtain ⟨v640, e641, q642⟩ : ∃ v, a'.tmps.getD 24 undef = v ∧ (v = (.bool (x471 == 0))) := ⟨_, rfl, hT' 14 (by decide) 24 rfl⟩
 have hE := hE'.add (e641.trans q642)
 refine Step.imp (Run1.pure (r_move hE rfl)) ?_
 rintro _ _ ⟨rfl, rfl⟩
 exact ⟨_, M.le.refl _, hS', rfl⟩
 }
 {
 refine cguard rfl rfl (by decide) (fun _ _ _ h_ => Eq.trans h_ (cb hd476)) fun pre_ post_ L_ T_ m' a' w' hl' hp' hm' hq' hS' hE' hT' => ?_
 obtain rfl := len0 hl'
 refine Step.imp (Run1.pure (r_move hE' rfl)) ?_
 rintro _ _ ⟨rfl, rfl⟩
 exact ⟨_, M.le.refl _, hS', rfl⟩
 }
 {
 refine cguard rfl rfl (by decide) (fun _ _ _ h_ => Eq.trans h_ (cb hd476)) fun pre_ post_ L_ T_ m' a' w' hl' hp' hm' hq' hS' hE' hT' => ?_
 obtain rfl := len0 hl'
 obtain ⟨v645, e646, q647⟩ : ∃ v, a'.tmps.getD 26 undef = v ∧ (v = v0) := ⟨_, rfl, hT' 16 (by decide) 26 rfl⟩
 have hE := hE'.add (e646.trans q647)
 refine Step.imp (st_index (k := (kInt .u8)) hE rfl rfl Tryz.underlying24 Tryz.sizeOf5 (ha0.mono hm') hx573) ?_
 rintro v648 _ ⟨rfl, hp574⟩
 exact ⟨_, M.le.refl _, hS', hp574⟩
 }
 {
 refine cguard rfl rfl (by decide) (fun _ _ _ h_ => Eq.trans h_ (cb hd476)) fun pre_ post_ L_ T_ m' a' w' hl' hp' hm' hq' hS' hE' hT' => ?_
 obtain rfl := len0 hl'
 obtain ⟨v649, e650, q651⟩ : ∃ v, a'.tmps.getD 27 undef = v ∧ (PR (kInt .u8) m' v x572) := ⟨_, rfl, hT' 17 (by decide) 27 rfl⟩
 have hE := hE'.add (e650)
 refine Step.imp (st_loadM hE hS' ty5 rfl q651) ?_
 rintro v652 _ ⟨rfl, hv575⟩
 obtain ⟨rfl, hr653⟩ := RV_int hv575
 exact ⟨_, M.le.refl _, hS', ⟨rfl, hr653⟩⟩
 }
 {
 refine cguard rfl rfl (by decide) (fun _ _ _ h_ => Eq.trans h_ (cb hd476)) fun pre_ post_ L_ T_ m' a' w' hl' hp' hm' hq' hS' hE' hT' => ?_
 obtain rfl := len0 hl'
 obtain ⟨v654, e655, q656⟩ : ∃ v, a'.tmps.getD 28 undef = v ∧ (v = (.int .u8 x572) ∧ inR .u8 x572) := ⟨_, rfl, hT' 18 (by decide) 28 rfl⟩
 obtain ⟨q656, hr657⟩ := q656
 have hE := hE'.add (e655.trans q656)
 refine Step.imp (Run1.pure (r_bin hE rfl rfl b_gtr)) ?_
 rintro _ _ ⟨rfl, rfl⟩
 exact ⟨_, M.le.refl _, hS', rfl⟩
 }
 {
 refine cplain fun pre_ post_ L_ T_ m' a' w' hl' hp' hm' hq' hS' hE' hT' => ?_
 obtain rfl := len0 hl'
 obtain ⟨v659, e660, q661⟩ : ∃ v, a'.tmps.getD 25 undef = v ∧ (v = (.bool (x471 == 0))) := ⟨_, rfl, hT' 15 (by decide) 25 rfl⟩
 have hE := hE'.add (e660.trans q661)
 obtain ⟨v662, e663, q664⟩ : ∃ v, a'.tmps.getD 29 undef = v ∧ (v = (.bool (decide (64 < x572)))) := ⟨_, rfl, hT' 19 (by decide) 29 rfl⟩
 have hE := hE.add (e663.trans q664)
 refine Step.imp (Run1.pure (r_pickF hE rfl hd476 rfl)) ?_
 rintro _ _ ⟨rfl, rfl⟩
 exact ⟨_, M.le.refl _, hS', rfl⟩
 }
 {
 refine cplain fun pre_ post_ L_ T_ m' a' w' hl' hp' hm' hq' hS' hE' hT' => ?_
 obtain rfl := len0 hl'
 obtain ⟨v666, e667, q668⟩ : ∃ v, a'.tmps.getD 30 undef = v ∧ (v = (.bool (decide (64 < x572)))) := ⟨_, rfl, hT' 20 (by decide) 30 rfl⟩
 have hE := hE'.add (e667.trans q668)
 refine Step.imp (Run1.pure (r_move hE rfl)) ?_
 rintro _ _ ⟨rfl, rfl⟩
 exact ⟨_, M.le.refl _, hS', rfl⟩
 }
 {
 exact cskip (b := true) rfl rfl (by decide) (fun _ _ _ h_ => Eq.trans h_ (cb hd577)) (by decide) (fun _ _ => rfl)
 }
 {
 exact cskip (b := true) rfl rfl (by decide) (fun _ _ _ h_ => Eq.trans h_ (cb hd577)) (by decide) (fun _ _ => rfl)
 }
 {
 exact cskip (b := true) rfl rfl (by decide) (fun _ _ _ h_ => Eq.trans h_ (cb hd577)) (by decide) (fun _ _ => rfl)
 }
 {
 exact cskip (b := true) rfl rfl (by decide) (fun _ _ _ h_ => Eq.trans h_ (cb hd577)) (by decide) (fun _ _ => rfl)
 }
 {
 exact cskip (b := true) rfl rfl (by decide) (fun _ _ _ h_ => Eq.trans h_ (cb hd577)) (by decide) (fun _ _ => rfl)
 }
 {
 exact cskip (b := true) rfl rfl (by decide) (fun _ _ _ h_ => Eq.trans h_ (cb hd577)) (by decide) (fun _ _ => rfl)
 }
 }
 {
 intro ws_ L_ T_ m670 a w hl671 hm672 hq673 hS hd674 hn675 ho676 hT677
 obtain rfl := len0 hl671
 obtain ⟨rfl, rfl⟩ := hq673
 have hE := EnvD.of (k := 28) (l' := [(0, v0), (2, (.pointer (some ⟨b1, 0, none⟩))), (3, (.slice none 0 0)), (4, (.bool false))]) hd674 hn675 ho676 ⟨rfl, rfl, rfl, rfl, trivial⟩ rfl
 obtain ⟨v678, e679, q680⟩ : ∃ v, a.tmps.getD 31 undef = v ∧ (v = (.bool (decide (64 < x572)))) := ⟨_, rfl, hT677 21 (by decide) 31 rfl⟩
 have hE := hE.add (e679.trans q680)
 obtain ⟨v681, e682, q683⟩ : ∃ v, a.tmps.getD 34 undef = v ∧ (v = undef) := ⟨_, rfl, hT677 24 (by decide) 34 rfl⟩
 have hE := hE.add (e682.trans q683)
 obtain ⟨v684, e685, q686⟩ : ∃ v, a.tmps.getD 37 undef = v ∧ (v = undef) := ⟨_, rfl, hT677 27 (by decide) 37 rfl⟩
 have hE := hE.add (e685.trans q686)
 refine sx hE rfl rfl rfl rfl hd577 rfl fun a hE => ?_
 refine sp hE (r_pickT hE rfl hd577 rfl) rfl fun a hE => ?_
 refine knil ?_
 exact ⟨true, h, _, hm672, hS, hE.cut ⟨rfl, rfl, rfl, trivial⟩⟩
 }
 }
 {
 have h := ite_F hd577 h
 obtain ⟨x688, hx689, h⟩ := ob h
 obtain ⟨x693, hx694, h⟩ := ob h
 refine kchain (k := 28) (m := m) (es := []) (Φ := (fun i m ws v => match i with | 0 => v = v0 | 1 => v = (.int .i64 (p0.length : Int)) ∧ inR .i64 (p0.length : Int) | 2 => v = (.bool (decide ((p0.length : Int) < 3))) | 3 => v = (.bool (decide ((p0.length : Int) < 3))) | 4 => v = v0 | 5 => PR (kInt .u8) m v x385 | 6 => v = (.int .u8 x385) ∧ inR .u8 x385 | 7 => v = (.bool (decide (4 < x385))) | 8 => v = (.bool (decide (4 < x385))) | 9 => v = (.bool (decide (4 < x385))) | 10 => v = v0 | 11 => PR (kInt .u8) m v x471 | 12 => v = (.int .u8 x471) ∧ inR .u8 x471 | 13 => v = (.bool (x471 == 0)) | 14 => v = (.bool (x471 == 0)) | 15 => v = (.bool (x471 == 0)) | 16 => v = v0 | 17 => PR (kInt .u8) m v x572 | 18 => v = (.int .u8 x572) ∧ inR .u8 x572 | 19 => v = (.bool (decide (64 < x572))) | 20 => v = (.bool (decide (64 < x572))) | 21 => v = (.bool (decide (64 < x572))) | 22 => v = v0 | 23 => PR (kInt .u8) m v x688 | 24 => v = (.int .u8 x688) ∧ inR .u8 x688 | 25 => v = v0 | 26 => PR (kInt .u8) m v x693 | 27 => v = (.int .u8 x693) ∧ inR .u8 x693 | _ => True)) (Q := (fun c m ws L' TL' => match c with | 0 => (b1, zc34) :: L = L' ∧ TL = TL' | _ => False)) (cs := [⟨0, 0, false, [(0, v0)]⟩, ⟨0, 0, false, []⟩, ⟨0, 0, false, []⟩, ⟨0, 0, false, []⟩, ⟨0, 0, false, [(0, v0)]⟩, ⟨0, 0, false, []⟩, ⟨0, 0, false, []⟩, ⟨0, 0, false, []⟩, ⟨0, 0, false, []⟩, ⟨0, 0, false, []⟩, ⟨0, 0, false, [(0, v0)]⟩, ⟨0, 0, false, []⟩, ⟨0, 0, false, []⟩, ⟨0, 0, false, []⟩, ⟨0, 0, false, []⟩, ⟨0, 0, false, []⟩, ⟨0, 0, false, [(0, v0)]⟩, ⟨0, 0, false, []⟩, ⟨0, 0, false, []⟩, ⟨0, 0, false, []⟩, ⟨0, 0, false, []⟩, ⟨0, 0, false, []⟩, ⟨0, 0, false, [(0, v0)]⟩, ⟨0, 0, false, []⟩, ⟨0, 0, false, []⟩, ⟨0, 0, false, [(0, v0)]⟩, ⟨0, 0, false, []⟩, ⟨0, 0, false, []⟩]) mixed hE hS ⟨rfl, rfl⟩ rfl rfl ⟨⟨rfl, trivial⟩, trivial, trivial, trivial, ⟨rfl, trivial⟩, trivial, trivial, trivial, trivial, trivial, ⟨rfl, trivial⟩, trivial, trivial, trivial, trivial, trivial, ⟨rfl, trivial⟩, trivial, trivial, trivial, trivial, trivial, ⟨rfl, trivial⟩, trivial, trivial, ⟨rfl, trivial⟩, trivial, trivial, trivial⟩ (by kernel_rfl) ?_ ?_ ?_ ?_
 {
 intro i m_ m2_ ws v hm_ hp_
 match i, hp_ with
 | 0, hp_ => exact hp_
 | 1, hp_ => exact hp_
 | 2, hp_ => exact hp_
 | 3, hp_ => exact hp_
 | 4, hp_ => exact hp_
 | 5, hp_ => exact PR.mono hp_ hm_
 | 6, hp_ => exact hp_
 | 7, hp_ => exact hp_
 | 8, hp_ => exact hp_
 | 9, hp_ => exact hp_
 | 10, hp_ => exact hp_
 | 11, hp_ => exact PR.mono hp_ hm_
 | 12, hp_ => exact hp_
 | 13, hp_ => exact hp_
 | 14, hp_ => exact hp_
 | 15, hp_ => exact hp_
 | 16, hp_ => exact hp_
 | 17, hp_ => exact PR.mono hp_ hm_
 | 18, hp_ => exact hp_
 | 19, hp_ => exact hp_
 | 20, hp_ => exact hp_
 | 21, hp_ => exact hp_
 | 22, hp_ => exact hp_
 | 23, hp_ => exact PR.mono hp_ hm_
 | 24, hp_ => exact hp_
 | 25, hp_ => exact hp_
 | 26, hp_ => exact PR.mono hp_ hm_
 | 27, hp_ => exact hp_
 | _ + 28, hp_ => exact trivial
 }
 {
 intro c m_ m2_ ws L_ T_ hm_ hq_
 match c, hq_ with
 | 0, ⟨e1_, e2_⟩ => exact ⟨e1_, e2_⟩
 | _ + 1, hq_ => exact hq_.elim
 }
 {
 refine ⟨?_, ?_, ?_, ?_, ?_, ?_, ?_, ?_, ?_, ?_, ?_, ?_, ?_, ?_, ?_, ?_, ?_, ?_, ?_, ?_, ?_, ?_, ?_, ?_, ?_, ?_, ?_, ?_, trivial⟩
 {
 refine cplain fun pre_ post_ L_ T_ m' a' w' hl' hp' hm' hq' hS' hE' hT' => ?_
 obtain rfl := len0 hl'
 refine Step.imp (Run1.pure (r_move hE' rfl)) ?_
 rintro _ _ ⟨rfl, rfl⟩
 exact ⟨_, M.le.refl _, hS', rfl⟩
 }
 {
 refine cplain fun pre_ post_ L_ T_ m' a' w' hl' hp' hm' hq' hS' hE' hT' => ?_
 obtain rfl := len0 hl'
 obtain ⟨v699, e700, q701⟩ : ∃ v, a'.tmps.getD 10 undef = v ∧ (v = v0) := ⟨_, rfl, hT' 0 (by decide) 10 rfl⟩
 have hE := hE'.add (e700.trans q701)
 refine Step.imp (Run1.pure (r_lenSl (k := (kInt .u8)) hE rfl rfl Tryz.underlying24 (ha0.mono hm'))) ?_
 rintro _ _ ⟨rfl, rfl⟩
 exact ⟨_, M.le.refl _, hS', ⟨rfl, (inR_len (RV_len (ha0.mono hm')))⟩⟩
 }
 {
 refine cplain fun pre_ post_ L_ T_ m' a' w' hl' hp' hm' hq' hS' hE' hT' => ?_
 obtain rfl := len0 hl'
 obtain ⟨v703, e704, q705⟩ : ∃ v, a'.tmps.getD 11 undef = v ∧ (v = (.int .i64 (p0.length : Int)) ∧ inR .i64 (p0.length : Int)) := ⟨_, rfl, hT' 1 (by decide) 11 rfl⟩
 obtain ⟨q705, hr706⟩ := q705
 have hE := hE'.add (e704.trans q705)
 refine Step.imp (Run1.pure (r_bin hE rfl rfl b_lss)) ?_
 rintro _ _ ⟨rfl, rfl⟩
 exact ⟨_, M.le.refl _, hS', rfl⟩
 }
 {
 refine cplain fun pre_ post_ L_ T_ m' a' w' hl' hp' hm' hq' hS' hE' hT' => ?_
 obtain rfl := len0 hl'
 obtain ⟨v708, e709, q710⟩ : ∃ v, a'.tmps.getD 12 undef = v ∧ (v = (.bool (decide ((p0.length : Int) < 3)))) := ⟨_, rfl, hT' 2 (by decide) 12 rfl⟩
 have hE := hE'.add (e709.trans q710)
 refine Step.imp (Run1.pure (r_move hE rfl)) ?_
 rintro _ _ ⟨rfl, rfl⟩
 exact ⟨_, M.le.refl _, hS', rfl⟩
 }
 {
 refine cguard rfl rfl (by decide) (fun _ _ _ h_ => Eq.trans h_ (cb hd319)) fun pre_ post_ L_ T_ m' a' w' hl' hp' hm' hq' hS' hE' hT' => ?_
 obtain rfl := len0 hl'
 refine Step.imp (Run1.pure (r_move hE' rfl)) ?_
 rintro _ _ ⟨rfl, rfl⟩
 exact ⟨_, M.le.refl _, hS', rfl⟩
 }
 {
 refine cguard rfl rfl (by decide) (fun _ _ _ h_ => Eq.trans h_ (cb hd319)) fun pre_ post_ L_ T_ m' a' w' hl' hp' hm' hq' hS' hE' hT' => ?_
 obtain rfl := len0 hl'
 obtain ⟨v713, e714, q715⟩ : ∃ v, a'.tmps.getD 14 undef = v ∧ (v = v0) := ⟨_, rfl, hT' 4 (by decide) 14 rfl⟩
 have hE := hE'.add (e714.trans q715)
 refine Step.imp (st_index (k := (kInt .u8)) hE rfl rfl Tryz.underlying24 Tryz.sizeOf5 (ha0.mono hm') hx386) ?_
 rintro v716 _ ⟨rfl, hp387⟩
 exact ⟨_, M.le.refl _, hS', hp387⟩
 }
 {
 refine cguard rfl rfl (by decide) (fun _ _ _ h_ => Eq.trans h_ (cb hd319)) fun pre_ post_ L_ T_ m' a' w' hl' hp' hm' hq' hS' hE' hT' => ?_
 obtain rfl := len0 hl'
 obtain ⟨v717, e718, q719⟩ : ∃ v, a'.tmps.getD 15 undef = v ∧ (PR (kInt .u8) m' v x385) := ⟨_, rfl, hT' 5 (by decide) 15 rfl⟩
 have hE := hE'.add (e718)
 refine Step.imp (st_loadM hE hS' ty5 rfl q719) ?_
 rintro v720 _ ⟨rfl, hv388⟩
 obtain ⟨rfl, hr721⟩ := RV_int hv388
 exact ⟨_, M.le.refl _, hS', ⟨rfl, hr721⟩⟩
 }
 {
 refine cguard rfl rfl (by decide) (fun _ _ _ h_ => Eq.trans h_ (cb hd319)) fun pre_ post_ L_ T_ m' a' w' hl' hp' hm' hq' hS' hE' hT' => ?_
 obtain rfl := len0 hl'
 obtain ⟨v722, e723, q724⟩ : ∃ v, a'.tmps.getD 16 undef = v ∧ (v = (.int .u8 x385) ∧ inR .u8 x385) := ⟨_, rfl, hT' 6 (by decide) 16 rfl⟩
 obtain ⟨q724, hr725⟩ := q724
 have hE := hE'.add (e723.trans q724)
 refine Step.imp (Run1.pure (r_bin hE rfl rfl b_gtr)) ?_
 rintro _ _ ⟨rfl, rfl⟩
 exact ⟨_, M.le.refl _, hS', rfl⟩
 }
 {
 refine cplain fun pre_ post_ L_ T_ m' a' w' hl' hp' hm' hq' hS' hE' hT' => ?_
 obtain rfl := len0 hl'
 obtain ⟨v727, e728, q729⟩ : ∃ v, a'.tmps.getD 13 undef = v ∧ (v = (.bool (decide ((p0.length : Int) < 3)))) := ⟨_, rfl, hT' 3 (by decide) 13 rfl⟩
 have hE := hE'.add (e728.trans q729)
 obtain ⟨v730, e731, q732⟩ : ∃ v, a'.tmps.getD 17 undef = v ∧ (v = (.bool (decide (4 < x385)))) := ⟨_, rfl, hT' 7 (by decide) 17 rfl⟩
 have hE := hE.add (e731.trans q732)
 refine Step.imp (Run1.pure (r_pickF hE rfl hd319 rfl)) ?_
 rintro _ _ ⟨rfl, rfl⟩
 exact ⟨_, M.le.refl _, hS', rfl⟩
 }
 {
 refine cplain fun pre_ post_ L_ T_ m' a' w' hl' hp' hm' hq' hS' hE' hT' => ?_
 obtain rfl := len0 hl'
 obtain ⟨v734, e735, q736⟩ : ∃ v, a'.tmps.getD 18 undef = v ∧ (v = (.bool (decide (4 < x385)))) := ⟨_, rfl, hT' 8 (by decide) 18 rfl⟩
 have hE := hE'.add (e735.trans q736)
 refine Step.imp (Run1.pure (r_move hE rfl)) ?_
 rintro _ _ ⟨rfl, rfl⟩
 exact ⟨_, M.le.refl _, hS', rfl⟩
 }
 {
 refine cguard rfl rfl (by decide) (fun _ _ _ h_ => Eq.trans h_ (cb hd390)) fun pre_ post_ L_ T_ m' a' w' hl' hp' hm' hq' hS' hE' hT' => ?_
 obtain rfl := len0 hl'
 refine Step.imp (Run1.pure (r_move hE' rfl)) ?_
 rintro _ _ ⟨rfl, rfl⟩
 exact ⟨_, M.le.refl _, hS', rfl⟩
 }
 {
 refine cguard rfl rfl (by decide) (fun _ _ _ h_ => Eq.trans h_ (cb hd390)) fun pre_ post_ L_ T_ m' a' w' hl' hp' hm' hq' hS' hE' hT' => ?_
 obtain rfl := len0 hl'
 obtain ⟨v739, e740, q741⟩ : ∃ v, a'.tmps.getD 20 undef = v ∧ (v = v0) := ⟨_, rfl, hT' 10 (by decide) 20 rfl⟩
 have hE := hE'.add (e740.trans q741)
 refine Step.imp (st_index (k := (kInt .u8)) hE rfl rfl Tryz.underlying24 Tryz.sizeOf5 (ha0.mono hm') hx472) ?_
 rintro v742 _ ⟨rfl, hp473⟩
 exact ⟨_, M.le.refl _, hS', hp473⟩
 }
 {
 refine cguard rfl rfl (by decide) (fun _ _ _ h_ => Eq.trans h_ (cb hd390)) fun pre_ post_ L_ T_ m' a' w' hl' hp' hm' hq' hS' hE' hT' => ?_
 obtain rfl := len0 hl'
 obtain ⟨v743, e744, q745⟩ : ∃ v, a'.tmps.getD 21 undef = v ∧ (PR (kInt .u8) m' v x471) := ⟨_, rfl, hT' 11 (by decide) 21 rfl⟩
 have hE := hE'.add (e744)
 refine Step.imp (st_loadM hE hS' ty5 rfl q745) ?_
 rintro v746 _ ⟨rfl, hv474⟩
 obtain ⟨rfl, hr747⟩ := RV_int hv474
 exact ⟨_, M.le.refl _, hS', ⟨rfl, hr747⟩⟩
 }
 {
 refine cguard rfl rfl (by decide) (fun _ _ _ h_ => Eq.trans h_ (cb hd390)) fun pre_ post_ L_ T_ m' a' w' hl' hp' hm' hq' hS' hE' hT' => ?_
 obtain rfl := len0 hl'
 obtain ⟨v748, e749, q750⟩ : ∃ v, a'.tmps.getD 22 undef = v ∧ (v = (.int .u8 x471) ∧ inR .u8 x471) := ⟨_, rfl, hT' 12 (by decide) 22 rfl⟩
 obtain ⟨q750, hr751⟩ := q750
 have hE := hE'.add (e749.trans q750)
 refine Step.imp (Run1.pure (r_bin hE rfl rfl b_eql)) ?_
 rintro _ _ ⟨rfl, rfl⟩
 exact ⟨_, M.le.refl _, hS', rfl⟩
 }
 {
 refine cplain fun pre_ post_ L_ T_ m' a' w' hl' hp' hm' hq' hS' hE' hT' => ?_
 obtain rfl := len0 hl'
 obtain ⟨v753, e754, q755⟩ : ∃ v, a'.tmps.getD 19 undef = v ∧ (v = (.bool (decide (4 < x385)))) := ⟨_, rfl, hT' 9 (by decide) 19 rfl⟩
 have hE := hE'.add (e754.trans q755)
 obtain ⟨v756, e757, q758⟩ : ∃ v, a'.tmps.getD 23 undef = v ∧ (v = (.bool (x471 == 0))) := ⟨_, rfl, hT' 13 (by decide) 23 rfl⟩
 have hE := hE.add (e757.trans q758)
 refine Step.imp (Run1.pure (r_pickF hE rfl hd390 rfl)) ?_
 rintro _ _ ⟨rfl, rfl⟩
 exact ⟨_, M.le.refl _, hS', rfl⟩
 }
 {
 refine cplain fun pre_ post_ L_ T_ m' a' w' hl' hp' hm' hq' hS' hE' hT' => ?_
 obtain rfl := len0 hl'
 obtain ⟨v760, e761, q762⟩ : ∃ v, a'.tmps.getD 24 undef = v ∧ (v = (.bool (x471 == 0))) := ⟨_, rfl, hT' 14 (by decide) 24 rfl⟩
 have hE := hE'.add (e761.trans q762)
 refine Step.imp (Run1.pure (r_move hE rfl)) ?_
 rintro _ _ ⟨rfl, rfl⟩
 exact ⟨_, M.le.refl _, hS', rfl⟩
 }
 {
 refine cguard rfl rfl (by decide) (fun _ _ _ h_ => Eq.trans h_ (cb hd476)) fun pre_ post_ L_ T_ m' a' w' hl' hp' hm' hq' hS' hE' hT' => ?_
 obtain rfl := len0 hl'
 refine Step.imp (Run1.pure (r_move hE' rfl)) ?_
 rintro _ _ ⟨rfl, rfl⟩
 exact ⟨_, M.le.refl _, hS', rfl⟩
 }
 {
 refine cguard rfl rfl (by decide) (fun _ _ _ h_ => Eq.trans h_ (cb hd476)) fun pre_ post_ L_ T_ m' a' w' hl' hp' hm' hq' hS' hE' hT' => ?_
 obtain rfl := len0 hl'
 obtain ⟨v765, e766, q767⟩ : ∃ v, a'.tmps.getD 26 undef = v ∧ (v = v0) := ⟨_, rfl, hT' 16 (by decide) 26 rfl⟩
 have hE := hE'.add (e766.trans q767)
 refine Step.imp (st_index (k := (kInt .u8)) hE rfl rfl Tryz.underlying24 Tryz.sizeOf5 (ha0.mono hm') hx573) ?_
 rintro v768 _ ⟨rfl, hp574⟩
 exact ⟨_, M.le.refl _, hS', hp574⟩
 }
 {
 refine cguard rfl rfl (by decide) (fun _ _ _ h_ => Eq.trans h_ (cb hd476)) fun pre_ post_ L_ T_ m' a' w' hl' hp' hm' hq' hS' hE' hT' => ?_
 obtain rfl := len0 hl'
 obtain ⟨v769, e770, q771⟩ : ∃ v, a'.tmps.getD 27 undef = v ∧ (PR (kInt .u8) m' v x572) := ⟨_, rfl, hT' 17 (by decide) 27 rfl⟩
 have hE := hE'.add (e770)
 refine Step.imp (st_loadM hE hS' ty5 rfl q771) ?_
 rintro v772 _ ⟨rfl, hv575⟩
 obtain ⟨rfl, hr773⟩ := RV_int hv575
 exact ⟨_, M.le.refl _, hS', ⟨rfl, hr773⟩⟩
 }
 {
 refine cguard rfl rfl (by decide) (fun _ _ _ h_ => Eq.trans h_ (cb hd476)) fun pre_ post_ L_ T_ m' a' w' hl' hp' hm' hq' hS' hE' hT' => ?_
 obtain rfl := len0 hl'
 obtain ⟨v774, e775, q776⟩ : ∃ v, a'.tmps.getD 28 undef = v ∧ (v = (.int .u8 x572) ∧ inR .u8 x572) := ⟨_, rfl, hT' 18 (by decide) 28 rfl⟩
 obtain ⟨q776, hr777⟩ := q776
 have hE := hE'.add (e775.trans q776)
 refine Step.imp (Run1.pure (r_bin hE rfl rfl b_gtr)) ?_
 rintro _ _ ⟨rfl, rfl⟩
 exact ⟨_, M.le.refl _, hS', rfl⟩
 }
 {
 refine cplain fun pre_ post_ L_ T_ m' a' w' hl' hp' hm' hq' hS' hE' hT' => ?_
 obtain rfl := len0 hl'
 obtain ⟨v779, e780, q781⟩ : ∃ v, a'.tmps.getD 25 undef = v ∧ (v = (.bool (x471 == 0))) := ⟨_, rfl, hT' 15 (by decide) 25 rfl⟩
 have hE := hE'.add (e780.trans q781)
 obtain ⟨v782, e783, q784⟩ : ∃ v, a'.tmps.getD 29 undef = v ∧ (v = (.bool (decide (64 < x572)))) := ⟨_, rfl, hT' 19 (by decide) 29 rfl⟩
 have hE := hE.add (e783.trans q784)
 refine Step.imp (Run1.pure (r_pickF hE rfl hd476 rfl)) ?_
 rintro _ _ ⟨rfl, rfl⟩
 exact ⟨_, M.le.refl _, hS', rfl⟩
 }
 {
 refine cplain fun pre_ post_ L_ T_ m' a' w' hl' hp' hm' hq' hS' hE' hT' => ?_
 obtain rfl := len0 hl'
 obtain ⟨v786, e787, q788⟩ : ∃ v, a'.tmps.getD 30 undef = v ∧ (v = (.bool (decide (64 < x572)))) := ⟨_, rfl, hT' 20 (by decide) 30 rfl⟩
 have hE := hE'.add (e787.trans q788)
 refine Step.imp (Run1.pure (r_move hE rfl)) ?_
 rintro _ _ ⟨rfl, rfl⟩
 exact ⟨_, M.le.refl _, hS', rfl⟩
 }
 {
 refine cguard rfl rfl (by decide) (fun _ _ _ h_ => Eq.trans h_ (cb hd577)) fun pre_ post_ L_ T_ m' a' w' hl' hp' hm' hq' hS' hE' hT' => ?_
 obtain rfl := len0 hl'
 refine Step.imp (Run1.pure (r_move hE' rfl)) ?_
 rintro _ _ ⟨rfl, rfl⟩
 exact ⟨_, M.le.refl _, hS', rfl⟩
 }
 {
 refine cguard rfl rfl (by decide) (fun _ _ _ h_ => Eq.trans h_ (cb hd577)) fun pre_ post_ L_ T_ m' a' w' hl' hp' hm' hq' hS' hE' hT' => ?_
 obtain rfl := len0 hl'
 obtain ⟨v791, e792, q793⟩ : ∃ v, a'.tmps.getD 32 undef = v ∧ (v = v0) := ⟨_, rfl, hT' 22 (by decide) 32 rfl⟩
 have hE := hE'.add (e792.trans q793)
 refine Step.imp (st_index (k := (kInt .u8)) hE rfl rfl Tryz.underlying24 Tryz.sizeOf5 (ha0.mono hm') hx689) ?_
 rintro v794 _ ⟨rfl, hp690⟩
 exact ⟨_, M.le.refl _, hS', hp690⟩
 }
 {
 refine cguard rfl rfl (by decide) (fun _ _ _ h_ => Eq.trans h_ (cb hd577)) fun pre_ post_ L_ T_ m' a' w' hl' hp' hm' hq' hS' hE' hT' => ?_
 obtain rfl := len0 hl'
 obtain ⟨v795, e796, q797⟩ : ∃ v, a'.tmps.getD 33 undef = v ∧ (PR (kInt .u8) m' v x688) := ⟨_, rfl, hT' 23 (by decide) 33 rfl⟩
 have hE := hE'.add (e796)
 refine Step.imp (st_loadM hE hS' ty5 rfl q797) ?_
 rintro v798 _ ⟨rfl, hv691⟩
 obtain ⟨rfl, hr799⟩ := RV_int hv691
 exact ⟨_, M.le.refl _, hS', ⟨rfl, hr799⟩⟩
 }
 {
 refine cguard rfl rfl (by decide) (fun _ _ _ h_ => Eq.trans h_ (cb hd577)) fun pre_ post_ L_ T_ m' a' w' hl' hp' hm' hq' hS' hE' hT' => ?_
 obtain rfl := len0 hl'
 refine Step.imp (Run1.pure (r_move hE' rfl)) ?_
 rintro _ _ ⟨rfl, rfl⟩
 exact ⟨_, M.le.refl _, hS', rfl⟩
 }
 {
 refine cguard rfl rfl (by decide) (fun _ _ _ h_ => Eq.trans h_ (cb hd577)) fun pre_ post_ L_ T_ m' a' w' hl' hp' hm' hq' hS' hE' hT' => ?_
 obtain rfl := len0 hl'
 obtain ⟨v801, e802, q803⟩ : ∃ v, a'.tmps.getD 35 undef = v ∧ (v = v0) := ⟨_, rfl, hT' 25 (by decide) 35 rfl⟩
 have hE := hE'.add (e802.trans q803)
 refine Step.imp (st_index (k := (kInt .u8)) hE rfl rfl Tryz.underlying24 Tryz.sizeOf5 (ha0.mono hm') hx694) ?_
 rintro v804 _ ⟨rfl, hp695⟩
 exact ⟨_, M.le.refl _, hS', hp695⟩
 }
 {
 refine cguard rfl rfl (by decide) (fun _ _ _ h_ => Eq.trans h_ (cb hd577)) fun pre_ post_ L_ T_ m' a' w' hl' hp' hm' hq' hS' hE' hT' => ?_
 obtain rfl := len0 hl'
 obtain ⟨v805, e806, q807⟩ : ∃ v, a'.tmps.getD 36 undef = v ∧ (PR (kInt .u8) m' v x693) := ⟨_, rfl, hT' 26 (by decide) 36 rfl⟩
 have hE := hE'.add (e806)
 refine Step.imp (st_loadM hE hS' ty5 rfl q807) ?_
 rintro v808 _ ⟨rfl, hv696⟩
 obtain ⟨rfl, hr809⟩ := RV_int hv696
 exact ⟨_, M.le.refl _, hS', ⟨rfl, hr809⟩⟩
 }
 }
 {
 intro ws_ L_ T_ m810 a w hl811 hm812 hq813 hS hd814 hn815 ho816 hT817
 obtain rfl := len0 hl811
 obtain ⟨rfl, rfl⟩ := hq813
 have hE := EnvD.of (k := 28) (l' := [(0, v0), (2, (.pointer (some ⟨b1, 0, none⟩))), (3, (.slice none 0 0)), (4, (.bool false))]) hd814 hn815 ho816 ⟨rfl, rfl, rfl, rfl, trivial⟩ rfl
 obtain ⟨v818, e819, q820⟩ : ∃ v, a.tmps.getD 31 undef = v ∧ (v = (.bool (decide (64 < x572)))) := ⟨_, rfl, hT817 21 (by decide) 31 rfl⟩
 have hE := hE.add (e819.trans q820)
 obtain ⟨v821, e822, q823⟩ : ∃ v, a.tmps.getD 34 undef = v ∧ (v = (.int .u8 x688) ∧ inR .u8 x688) := ⟨_, rfl, hT817 24 (by decide) 34 rfl⟩
 obtain ⟨q823, hr824⟩ := q823
 have hE := hE.add (e822.trans q823)
 obtain ⟨v825, e826, q827⟩ : ∃ v, a.tmps.getD 37 undef = v ∧ (v = (.int .u8 x693) ∧ inR .u8 x693) := ⟨_, rfl, hT817 27 (by decide) 37 rfl⟩
 obtain ⟨q827, hr828⟩ := q827
 have hE := hE.add (e826.trans q827)
 refine spg hE rfl rfl rfl rfl hd577 (r_bin hE rfl rfl b_gtr) rfl fun a hE => ?_
 refine sp hE (r_pickF hE rfl hd577 rfl) rfl fun a hE => ?_
 refine knil ?_
 exact ⟨(decide (x693 < x688)), h, _, hm812, hS, hE.cut ⟨rfl, rfl, rfl, trivial⟩⟩
 }
 }
 }
 }
 }
 }
 {
 rintro a w ⟨x7, h, m5, hm6, hS, hE⟩
 unfold block_read_j1 at h
 refine kif hE rfl (fun hd9 => ?_) (fun hd9 => ?_)
 {
 have h := ite_T hd9 h
 refine kseq (kreg ?_)
 refine st hE (st_build (m := m5) (k := kBlock_Info) (x0 := Block_Info.zero) (xx := (⟨0, 0, Ap.zero, Ap.zero, 0, 0⟩ : Block_Info)) (pl := [(0, 1), (1, 1), (2, 4), (6, 4), (10, 1), (11, 1)]) (pv := []) hE rfl Tryz.underlying34 rfl Tryz.zeroValue34 zr34 rfl .nil) rfl ?_
 rintro v11 a _ ⟨rfl, hv10⟩ hE
 refine st0 hE (st_storeF hE hS ty34 StF_self rfl rfl hv10 (i := 0) rfl (zr34 _)) ?_
 rintro _ w ⟨cs12, hc13, hS⟩ hE
 refine qa hE rfl rfl fun a hE => ?_
 refine qa hE rfl rfl fun a hE => ?_
 refine knil (kret ?_)
 obtain rfl := oi h
 try dsimp only
 refine Fin.mk hE (rs := [.cell 2 34, .tmp 3, .tmp 4]) rfl (ResL.cell hE hS ty34 rfl (i := 0) rfl (R_whole hc13) (ResL.tmp hE rfl (ResL.tmp hE rfl ResL.nil))) ?_
 exact ⟨_, hm6, (hS.dropL 1), _, _, _, rfl, (RV_of_R (R_whole hc13)), RV_nil, RV_of_bool⟩
 }
 {
 have h := ite_F hd9 h
 refine kskip (kseq ?_)
 obtain ⟨x17, hx18, h⟩ := ob h
 obtain ⟨x22, hx23, h⟩ := ob h
 obtain ⟨x27, hx28, h⟩ := ob h
 refine kchain (k := 14) (m := m5) (es := [13]) (Φ := (fun i m ws v => match i with | 0 => v = v0 | 1 => PR (kInt .u8) m v x17 | 2 => v = (.int .u8 x17) ∧ inR .u8 x17 | 3 => v = (.int .i64 (IntKind.i64.wrap x17)) ∧ inR .i64 (IntKind.i64.wrap x17) | 4 => v = v0 | 5 => PR (kInt .u8) m v x22 | 6 => v = (.int .u8 x22) ∧ inR .u8 x22 | 7 => v = (.int .i64 (IntKind.i64.wrap x22)) ∧ inR .i64 (IntKind.i64.wrap x22) | 8 => v = v0 | 9 => PR (kInt .u8) m v x27 | 10 => v = (.int .u8 x27) ∧ inR .u8 x27 | 11 => v = (.int .i64 (IntKind.i64.wrap x27)) ∧ inR .i64 (IntKind.i64.wrap x27) | 12 => RV kBlock_Info m v (⟨IntKind.i64.wrap x17, IntKind.i64.wrap x22, Ap.zero, Ap.zero, IntKind.i64.wrap x27, 0⟩ : Block_Info) | 13 => v = (.pointer (some ⟨(wi ws 0).b, 0, none⟩)) | _ => True)) (Q := (fun c m ws L' TL' => match c with | 0 => (b1, zc34) :: L = L' ∧ TL = TL' | 1 => ((wi ws 0).b, zc34) :: (b1, zc34) :: L = L' ∧ TL = TL' | _ => False)) (cs := [⟨0, 1, false, [(0, v0)]⟩, ⟨0, 1, false, []⟩, ⟨0, 1, false, []⟩, ⟨0, 1, false, []⟩, ⟨0, 1, false, [(0, v0)]⟩, ⟨0, 1, false, []⟩, ⟨0, 1, false, []⟩, ⟨0, 1, false, []⟩, ⟨0, 1, false, [(0, v0)]⟩, ⟨0, 1, false, []⟩, ⟨0, 1, false, []⟩, ⟨0, 1, false, []⟩, ⟨0, 1, false, []⟩, ⟨0, 0, true, []⟩]) mixed hE hS ⟨rfl, rfl⟩ rfl rfl ⟨⟨rfl, trivial⟩, trivial, trivial, trivial, ⟨rfl, trivial⟩, trivial, trivial, trivial, ⟨rfl, trivial⟩, trivial, trivial, trivial, trivial, trivial, trivial⟩ (by kernel_rfl) ?_ ?_ ?_ ?_
 {
 intro i m_ m2_ ws v hm_ hp_
 match i, hp_ with
 | 0, hp_ => exact hp_
 | 1, hp_ => exact PR.mono hp_ hm_
 | 2, hp_ => exact hp_
 | 3, hp_ => exact hp_
 | 4, hp_ => exact hp_
 | 5, hp_ => exact PR.mono hp_ hm_
 | 6, hp_ => exact hp_
 | 7, hp_ => exact hp_
 | 8, hp_ => exact hp_
 | 9, hp_ => exact PR.mono hp_ hm_
 | 10, hp_ => exact hp_
 | 11, hp_ => exact hp_
 | 12, hp_ => exact RV.mono hp_ hm_
 | 13, hp_ => exact hp_
 | _ + 14, hp_ => exact trivial
 }
 {
 intro c m_ m2_ ws L_ T_ hm_ hq_
 match c, hq_ with
 | 0, ⟨e1_, e2_⟩ => exact ⟨e1_, e2_⟩
 | 1, ⟨e1_, e2_⟩ => exact ⟨e1_, e2_⟩
 | _ + 2, hq_ => exact hq_.elim
 }
 {
 refine ⟨?_, ?_, ?_, ?_, ?_, ?_, ?_, ?_, ?_, ?_, ?_, ?_, ?_, ?_, trivial⟩
 {
 refine cplain fun pre_ post_ L_ T_ m' a' w' hl' hp' hm' hq' hS' hE' hT' => ?_
 obtain rfl := len0 hl'
 refine Step.imp (Run1.pure (r_move hE' rfl)) ?_
 rintro _ _ ⟨rfl, rfl⟩
 exact ⟨_, M.le.refl _, hS', rfl⟩
 }
 {
 refine cplain fun pre_ post_ L_ T_ m' a' w' hl' hp' hm' hq' hS' hE' hT' => ?_
 obtain rfl := len0 hl'
 obtain ⟨v36, e37, q38⟩ : ∃ v, a'.tmps.getD 41 undef = v ∧ (v = v0) := ⟨_, rfl, hT' 0 (by decide) 41 rfl⟩
 have hE := hE'.add (e37.trans q38)
 refine Step.imp (st_index (k := (kInt .u8)) hE rfl rfl Tryz.underlying24 Tryz.sizeOf5 (ha0.mono (M.le.trans hm6 hm')) hx18) ?_
 rintro v39 _ ⟨rfl, hp19⟩
 exact ⟨_, M.le.refl _, hS', hp19⟩
 }
 {
 refine cplain fun pre_ post_ L_ T_ m' a' w' hl' hp' hm' hq' hS' hE' hT' => ?_
 obtain rfl := len0 hl'
 obtain ⟨v40, e41, q42⟩ : ∃ v, a'.tmps.getD 42 undef = v ∧ (PR (kInt .u8) m' v x17) := ⟨_, rfl, hT' 1 (by decide) 42 rfl⟩
 have hE := hE'.add (e41)
 refine Step.imp (st_loadM hE hS' ty5 rfl q42) ?_
 rintro v43 _ ⟨rfl, hv20⟩
 obtain ⟨rfl, hr44⟩ := RV_int hv20
 exact ⟨_, M.le.refl _, hS', ⟨rfl, hr44⟩⟩
 }
 {
 refine cplain fun pre_ post_ L_ T_ m' a' w' hl' hp' hm' hq' hS' hE' hT' => ?_
 obtain rfl := len0 hl'
 obtain ⟨v45, e46, q47⟩ : ∃ v, a'.tmps.getD 43 undef = v ∧ (v = (.int .u8 x17) ∧ inR .u8 x17) := ⟨_, rfl, hT' 2 (by decide) 43 rfl⟩
 obtain ⟨q47, hr48⟩ := q47
 have hE := hE'.add (e46.trans q47)
 refine Step.imp (Run1.pure (r_conv hE rfl Tryz.underlying5 Tryz.underlying3 rfl)) ?_
 rintro _ _ ⟨rfl, rfl⟩
 exact ⟨_, M.le.refl _, hS', ⟨rfl, (inR_wrap _ _)⟩⟩
 }
 {
 refine cplain fun pre_ post_ L_ T_ m' a' w' hl' hp' hm' hq' hS' hE' hT' => ?_
 obtain rfl := len0 hl'
 refine Step.imp (Run1.pure (r_move hE' rfl)) ?_
 rintro _ _ ⟨rfl, rfl⟩
 exact ⟨_, M.le.refl _, hS', rfl⟩
 }
 {
 refine cplain fun pre_ post_ L_ T_ m' a' w' hl' hp' hm' hq' hS' hE' hT' => ?_
 obtain rfl := len0 hl'
 obtain ⟨v51, e52, q53⟩ : ∃ v, a'.tmps.getD 45 undef = v ∧ (v = v0) := ⟨_, rfl, hT' 4 (by decide) 45 rfl⟩
 have hE := hE'.add (e52.trans q53)
 refine Step.imp (st_index (k := (kInt .u8)) hE rfl rfl Tryz.underlying24 Tryz.sizeOf5 (ha0.mono (M.le.trans hm6 hm')) hx23) ?_
 rintro v54 _ ⟨rfl, hp24⟩
 exact ⟨_, M.le.refl _, hS', hp24⟩
 }
 {
 refine cplain fun pre_ post_ L_ T_ m' a' w' hl' hp' hm' hq' hS' hE' hT' => ?_
 obtain rfl := len0 hl'
 obtain ⟨v55, e56, q57⟩ : ∃ v, a'.tmps.getD 46 undef = v ∧ (PR (kInt .u8) m' v x22) := ⟨_, rfl, hT' 5 (by decide) 46 rfl⟩
 have hE := hE'.add (e56)
 refine Step.imp (st_loadM hE hS' ty5 rfl q57) ?_
 rintro v58 _ ⟨rfl, hv25⟩
 obtain ⟨rfl, hr59⟩ := RV_int hv25
 exact ⟨_, M.le.refl _, hS', ⟨rfl, hr59⟩⟩
 }
 {
 refine cplain fun pre_ post_ L_ T_ m' a' w' hl' hp' hm' hq' hS' hE' hT' => ?_
 obtain rfl := len0 hl'
 obtain ⟨v60, e61, q62⟩ : ∃ v, a'.tmps.getD 47 undef = v ∧ (v = (.int .u8 x22) ∧ inR .u8 x22) := ⟨_, rfl, hT' 6 (by decide) 47 rfl⟩
 obtain ⟨q62, hr63⟩ := q62
 have hE := hE'.add (e61.trans q62)
 refine Step.imp (Run1.pure (r_conv hE rfl Tryz.underlying5 Tryz.underlying3 rfl)) ?_
 rintro _ _ ⟨rfl, rfl⟩
 exact ⟨_, M.le.refl _, hS', ⟨rfl, (inR_wrap _ _)⟩⟩
 }
 {
 refine cplain fun pre_ post_ L_ T_ m' a' w' hl' hp' hm' hq' hS' hE' hT' => ?_
 obtain rfl := len0 hl'
 refine Step.imp (Run1.pure (r_move hE' rfl)) ?_
 rintro _ _ ⟨rfl, rfl⟩
 exact ⟨_, M.le.refl _, hS', rfl⟩
 }
 {
 refine cplain fun pre_ post_ L_ T_ m' a' w' hl' hp' hm' hq' hS' hE' hT' => ?_
 obtain rfl := len0 hl'
 obtain ⟨v66, e67, q68⟩ : ∃ v, a'.tmps.getD 49 undef = v ∧ (v = v0) := ⟨_, rfl, hT' 8 (by decide) 49 rfl⟩
 have hE := hE'.add (e67.trans q68)
 refine Step.imp (st_index (k := (kInt .u8)) hE rfl rfl Tryz.underlying24 Tryz.sizeOf5 (ha0.mono (M.le.trans hm6 hm')) hx28) ?_
 rintro v69 _ ⟨rfl, hp29⟩
 exact ⟨_, M.le.refl _, hS', hp29⟩
 }
 {
 refine cplain fun pre_ post_ L_ T_ m' a' w' hl' hp' hm' hq' hS' hE' hT' => ?_
 obtain rfl := len0 hl'
 obtain ⟨v70, e71, q72⟩ : ∃ v, a'.tmps.getD 50 undef = v ∧ (PR (kInt .u8) m' v x27) := ⟨_, rfl, hT' 9 (by decide) 50 rfl⟩
 have hE := hE'.add (e71)
 refine Step.imp (st_loadM hE hS' ty5 rfl q72) ?_
 rintro v73 _ ⟨rfl, hv30⟩
 obtain ⟨rfl, hr74⟩ := RV_int hv30
 exact ⟨_, M.le.refl _, hS', ⟨rfl, hr74⟩⟩
 }
 {
 refine cplain fun pre_ post_ L_ T_ m' a' w' hl' hp' hm' hq' hS' hE' hT' => ?_
 obtain rfl := len0 hl'
 obtain ⟨v75, e76, q77⟩ : ∃ v, a'.tmps.getD 51 undef = v ∧ (v = (.int .u8 x27) ∧ inR .u8 x27) := ⟨_, rfl, hT' 10 (by decide) 51 rfl⟩
 obtain ⟨q77, hr78⟩ := q77
 have hE := hE'.add (e76.trans q77)
 refine Step.imp (Run1.pure (r_conv hE rfl Tryz.underlying5 Tryz.underlying3 rfl)) ?_
 rintro _ _ ⟨rfl, rfl⟩
 exact ⟨_, M.le.refl _, hS', ⟨rfl, (inR_wrap _ _)⟩⟩
 }
 {
 refine cplain fun pre_ post_ L_ T_ m' a' w' hl' hp' hm' hq' hS' hE' hT' => ?_
 obtain rfl := len0 hl'
 obtain ⟨v80, e81, q82⟩ : ∃ v, a'.tmps.getD 44 undef = v ∧ (v = (.int .i64 (IntKind.i64.wrap x17)) ∧ inR .i64 (IntKind.i64.wrap x17)) := ⟨_, rfl, hT' 3 (by decide) 44 rfl⟩
 obtain ⟨q82, hr83⟩ := q82
 have hE := hE'.add (e81.trans q82)
 obtain ⟨v84, e85, q86⟩ : ∃ v, a'.tmps.getD 48 undef = v ∧ (v = (.int .i64 (IntKind.i64.wrap x22)) ∧ inR .i64 (IntKind.i64.wrap x22)) := ⟨_, rfl, hT' 7 (by decide) 48 rfl⟩
 obtain ⟨q86, hr87⟩ := q86
 have hE := hE.add (e85.trans q86)
 obtain ⟨v88, e89, q90⟩ : ∃ v, a'.tmps.getD 52 undef = v ∧ (v = (.int .i64 (IntKind.i64.wrap x27)) ∧ inR .i64 (IntKind.i64.wrap x27)) := ⟨_, rfl, hT' 11 (by decide) 52 rfl⟩
 obtain ⟨q90, hr91⟩ := q90
 have hE := hE.add (e89.trans q90)
 refine Step.imp (st_build (m := m') (k := kBlock_Info) (x0 := Block_Info.zero) (xx := (⟨IntKind.i64.wrap x17, IntKind.i64.wrap x22, Ap.zero, Ap.zero, IntKind.i64.wrap x27, 0⟩ : Block_Info)) (pl := [(0, 1), (1, 1), (2, 4), (6, 4), (10, 1), (11, 1)]) (pv := [(0, (.int .i64 (IntKind.i64.wrap x17))), (1, (.int .i64 (IntKind.i64.wrap x22))), (4, (.int .i64 (IntKind.i64.wrap x27)))]) hE rfl Tryz.underlying34 rfl Tryz.zeroValue34 zr34 rfl (.cons rfl sf34_0 (RV_of_int hr83) (.cons rfl sf34_1 (RV_of_int hr87) (.cons rfl sf34_4 (RV_of_int hr91) .nil)))) ?_
 rintro v92 _ ⟨rfl, hv32⟩
 exact ⟨_, M.le.refl _, hS', hv32⟩
 }
 {
 refine cturn fun pre_ L_ T_ m' a' w' hl' hm' hq' hS' hE' hT' => ?_
 obtain rfl := len0 hl'
 obtain ⟨rfl, rfl⟩ := hq'
 refine Step.imp (st_alloc hS' Tryz.zeroValue34 rfl (cs := zc34)) ?_
 rintro vv34 w ⟨b33, rfl, hS⟩
 exact ⟨_, ⟨b33, undef, [], [], []⟩, _, _, M.le.refl _, hS, ⟨rfl, rfl⟩, rfl⟩
 }
 }
 {
 intro ws_ L_ T_ m93 a w hl94 hm95 hq96 hS hd97 hn98 ho99 hT100
 obtain ⟨⟨b33, _, _, _, _⟩, rfl⟩ := len1 hl94
 obtain ⟨rfl, rfl⟩ := hq96
 have hE := EnvD.of (k := 14) (l' := [(0, v0), (2, (.pointer (some ⟨b1, 0, none⟩))), (39, (.bool x7))]) hd97 hn98 ho99 ⟨rfl, rfl, rfl, trivial⟩ rfl
 obtain ⟨v101, e102, q103⟩ : ∃ v, a.tmps.getD 53 undef = v ∧ (RV kBlock_Info m93 v (⟨IntKind.i64.wrap x17, IntKind.i64.wrap x22, Ap.zero, Ap.zero, IntKind.i64.wrap x27, 0⟩ : Block_Info)) := ⟨_, rfl, hT100 12 (by decide) 53 rfl⟩
 have hE := hE.add (e102)
 obtain ⟨v104, e105, q106⟩ : ∃ v, a.tmps.getD 5 undef = v ∧ (v = (.pointer (some ⟨b33, 0, none⟩))) := ⟨_, rfl, hT100 13 (by decide) 5 rfl⟩
 have hE := hE.add (e105.trans q106)
 refine st0 hE (st_storeF hE hS ty34 StF_self rfl rfl q103 (i := 0) rfl (zr34 _)) ?_
 rintro _ w ⟨cs107, hc108, hS⟩ hE
 refine knil (kseq (kreg ?_))
 refine qa hE rfl rfl fun a hE => ?_
 refine qa hE rfl rfl fun a hE => ?_
 refine knil (kseq (kreg ?_))
 refine qa hE rfl rfl fun a hE => ?_
 refine knil (kseq (kreg ?_))
 refine qm hE rfl rfl fun a hE => ?_
 obtain ⟨x114, hx115, h⟩ := ob h
 refine st hE (st_slice (k := (kInt .u8)) hE rfl Tryz.underlying24 Tryz.sizeOf5 (ha0.mono (M.le.trans hm6 hm95)) ⟨_, rfl⟩ rfl hx115 (xl := (some (.const (.int .i64 3)))) (xh := none)) rfl ?_
 rintro v117 a _ ⟨rfl, hv116⟩ hE
 obtain ⟨r118, hr119, h⟩ := ob h
 refine st hE (st_call (vs := [v117]) hE rfl Tryz.call119 (c_block_front (hS := hS) hv116 hr119)) rfl ?_
 rintro _ a w ⟨m120, hm121, hS, v0_122, v1_123, v2_124, rfl, hv0_125, hv1_126, hv2_127⟩ hE
 obtain rfl := RV_bool hv2_127
 refine qm hE rfl rfl fun a hE => ?_
 refine sp hE (r_extract hE rfl rfl) rfl fun a hE => ?_
 refine sp hE (r_extract hE rfl rfl) rfl fun a hE => ?_
 refine sp hE (r_extract hE rfl rfl) rfl fun a hE => ?_
 refine sp hE (r_fieldL hE fo34_2 rfl) rfl fun a hE => ?_
 refine st0 hE (st_storeF hE hS ty32 sf34_2 rfl rfl hv0_125 (i := 0) rfl (kBlock_Info.mono hm121 hc108)) ?_
 rintro _ w ⟨cs134, hc135, hS⟩ hE
 refine qa hE rfl rfl fun a hE => ?_
 refine qa hE rfl rfl fun a hE => ?_
 refine knil (kseq (kreg ?_))
 refine qm hE rfl rfl fun a hE => ?_
 obtain ⟨r140, hr141, h⟩ := ob h
 refine st hE (st_call (vs := [v1_123]) hE rfl Tryz.call119 (c_block_front (hS := hS) hv1_126 hr141)) rfl ?_
 rintro _ a w ⟨m142, hm143, hS, v0_144, v1_145, v2_146, rfl, hv0_147, hv1_148, hv2_149⟩ hE
 obtain rfl := RV_bool hv2_149
 refine qm hE rfl rfl fun a hE => ?_
 refine sp hE (r_extract hE rfl rfl) rfl fun a hE => ?_
 refine sp hE (r_extract hE rfl rfl) rfl fun a hE => ?_
 refine sp hE (r_extract hE rfl rfl) rfl fun a hE => ?_
 refine sp hE (r_fieldL hE fo34_3 rfl) rfl fun a hE => ?_
 refine st0 hE (st_storeF hE hS ty32 sf34_3 rfl rfl hv0_147 (i := 0) rfl (kBlock_Info.mono hm143 hc135)) ?_
 rintro _ w ⟨cs156, hc157, hS⟩ hE
 refine qa hE rfl rfl fun a hE => ?_
 refine qa hE rfl rfl fun a hE => ?_
 refine knil (kseq (kseq ?_))
 refine kcut (fun a w => ∃ x163 : Bool, block_read_j2 p0 x17 x22 x27 r118 r140 x163 = some r ∧ ∃ m', M.le m142 m' ∧ S W0 m' w ((b33, cs156) :: (b1, zc34) :: L) (TL) ∧ Env 112 a [(0, v0), (2, (.pointer (some ⟨b1, 0, none⟩))), (5, (.pointer (some ⟨b33, 0, none⟩))), (8, v1_145), (79, (.bool x163))]) ?_ ?_
 {
 refine kreg ?_
 refine qm hE rfl rfl fun a hE => ?_
 refine sp hE (r_not hE rfl) rfl fun a hE => ?_
 refine qm hE rfl rfl fun a hE => ?_
 rcases Bool.eq_false_or_eq_true (!r118.2.2) with hd305 | hd305
 {
 have h := ite_T hd305 h
 refine sx hE rfl rfl rfl rfl hd305 rfl fun a hE => ?_
 refine sx hE rfl rfl rfl rfl hd305 rfl fun a hE => ?_
 refine sp hE (r_pickT hE rfl hd305 rfl) rfl fun a hE => ?_
 refine qm hE rfl rfl fun a hE => ?_
 refine sx hE rfl rfl rfl rfl rfl rfl fun a hE => ?_
 refine sx hE rfl rfl rfl rfl rfl rfl fun a hE => ?_
 refine sx hE rfl rfl rfl rfl rfl rfl fun a hE => ?_
 refine sp hE (r_pickT hE rfl rfl rfl) rfl fun a hE => ?_
 refine knil ?_
 exact ⟨true, h, _, (M.le.refl _), hS, hE.cut ⟨rfl, rfl, rfl, rfl, rfl, trivial⟩⟩
 }
 {
 have h := ite_F hd305 h
 refine spg hE rfl rfl rfl rfl hd305 (r_move hE rfl) rfl fun a hE => ?_
 refine spg hE rfl rfl rfl rfl hd305 (r_not hE rfl) rfl fun a hE => ?_
 refine sp hE (r_pickF hE rfl hd305 rfl) rfl fun a hE => ?_
 refine qm hE rfl rfl fun a hE => ?_
 rcases Bool.eq_false_or_eq_true (!r140.2.2) with hd313 | hd313
 {
 have h := ite_T hd313 h
 refine sx hE rfl rfl rfl rfl hd313 rfl fun a hE => ?_
 refine sx hE rfl rfl rfl rfl hd313 rfl fun a hE => ?_
 refine sx hE rfl rfl rfl rfl hd313 rfl fun a hE => ?_
 refine sp hE (r_pickT hE rfl hd313 rfl) rfl fun a hE => ?_
 refine knil ?_
 exact ⟨true, h, _, (M.le.refl _), hS, hE.cut ⟨rfl, rfl, rfl, rfl, rfl, trivial⟩⟩
 }
 {
 have h := ite_F hd313 h
 refine spg hE rfl rfl rfl rfl hd313 (r_move hE rfl) rfl fun a hE => ?_
 refine spg hE rfl rfl rfl rfl hd313 (r_lenSl (k := (kInt .u8)) hE rfl rfl Tryz.underlying24 hv1_148) rfl fun a hE => ?_
 refine spg hE rfl rfl rfl rfl hd313 (r_bin hE rfl rfl b_lss) rfl fun a hE => ?_
 refine sp hE (r_pickF hE rfl hd313 rfl) rfl fun a hE => ?_
 refine knil ?_
 exact ⟨(decide ((r140.2.1.length : Int) < 2)), h, _, (M.le.refl _), hS, hE.cut ⟨rfl, rfl, rfl, rfl, rfl, trivial⟩⟩
 }
 }
 }
 {
 rintro a w ⟨x163, h, m161, hm162, hS, hE⟩
 unfold block_read_j2 at h
 refine kif hE rfl (fun hd165 => ?_) (fun hd165 => ?_)
 {
 have h := ite_T hd165 h
 refine kseq (kreg ?_)
 refine st hE (st_build (m := m161) (k := kBlock_Info) (x0 := Block_Info.zero) (xx := (⟨0, 0, Ap.zero, Ap.zero, 0, 0⟩ : Block_Info)) (pl := [(0, 1), (1, 1), (2, 4), (6, 4), (10, 1), (11, 1)]) (pv := []) hE rfl Tryz.underlying34 rfl Tryz.zeroValue34 zr34 rfl .nil) rfl ?_
 rintro v167 a _ ⟨rfl, hv166⟩ hE
 refine st0 hE (st_storeF hE hS ty34 StF_self rfl rfl hv166 (i := 1) rfl (zr34 _)) ?_
 rintro _ w ⟨cs168, hc169, hS⟩ hE
 refine qa hE rfl rfl fun a hE => ?_
 refine qa hE rfl rfl fun a hE => ?_
 refine knil (kret ?_)
 obtain rfl := oi h
 try dsimp only
 refine Fin.mk hE (rs := [.cell 2 34, .tmp 3, .tmp 4]) rfl (ResL.cell hE hS ty34 rfl (i := 1) rfl (R_whole hc169) (ResL.tmp hE rfl (ResL.tmp hE rfl ResL.nil))) ?_
 exact ⟨_, (M.le.trans hm6 (M.le.trans hm95 (M.le.trans hm121 (M.le.trans hm143 hm162)))), (hS.dropL 2), _, _, _, rfl, (RV_of_R (R_whole hc169)), RV_nil, RV_of_bool⟩
 }
 {
 have h := ite_F hd165 h
 refine kskip (kseq ?_)
 obtain ⟨x173, hx174, h⟩ := ob h
 obtain ⟨x178, hx179, h⟩ := ob h
 refine kchain (k := 9) (m := m161) (es := []) (Φ := (fun i m ws v => match i with | 0 => v = v1_145 | 1 => PR (kInt .u8) m v x173 | 2 => v = (.int .u8 x173) ∧ inR .u8 x173 | 3 => v = (.int .i64 (IntKind.i64.wrap x173)) ∧ inR .i64 (IntKind.i64.wrap x173) | 4 => v = (.int .i64 (iShl .i64 (IntKind.i64.wrap x173) 8)) ∧ inR .i64 (iShl .i64 (IntKind.i64.wrap x173) 8) | 5 => v = v1_145 | 6 => PR (kInt .u8) m v x178 | 7 => v = (.int .u8 x178) ∧ inR .u8 x178 | 8 => v = (.int .i64 (IntKind.i64.wrap x178)) ∧ inR .i64 (IntKind.i64.wrap x178) | _ => True)) (Q := (fun c m ws L' TL' => match c with | 0 => (b33, cs156) :: (b1, zc34) :: L = L' ∧ TL = TL' | _ => False)) (cs := [⟨0, 0, false, [(8, v1_145)]⟩, ⟨0, 0, false, []⟩, ⟨0, 0, false, []⟩, ⟨0, 0, false, []⟩, ⟨0, 0, false, []⟩, ⟨0, 0, false, [(8, v1_145)]⟩, ⟨0, 0, false, []⟩, ⟨0, 0, false, []⟩, ⟨0, 0, false, []⟩]) mixed hE hS ⟨rfl, rfl⟩ rfl rfl ⟨⟨rfl, trivial⟩, trivial, trivial, trivial, trivial, ⟨rfl, trivial⟩, trivial, trivial, trivial, trivial⟩ (by kernel_rfl) ?_ ?_ ?_ ?_
 {
 intro i m_ m2_ ws v hm_ hp_
 match i, hp_ with
 | 0, hp_ => exact hp_
 | 1, hp_ => exact PR.mono hp_ hm_
 | 2, hp_ => exact hp_
 | 3, hp_ => exact hp_
 | 4, hp_ => exact hp_
 | 5, hp_ => exact hp_
 | 6, hp_ => exact PR.mono hp_ hm_
 | 7, hp_ => exact hp_
 | 8, hp_ => exact hp_
 | _ + 9, hp_ => exact trivial
 }
 {
 intro c m_ m2_ ws L_ T_ hm_ hq_
 match c, hq_ with
 | 0, ⟨e1_, e2_⟩ => exact ⟨e1_, e2_⟩
 | _ + 1, hq_ => exact hq_.elim
 }
 {
 refine ⟨?_, ?_, ?_, ?_, ?_, ?_, ?_, ?_, ?_, trivial⟩
 {
 refine cplain fun pre_ post_ L_ T_ m' a' w' hl' hp' hm' hq' hS' hE' hT' => ?_
 obtain rfl := len0 hl'
 refine Step.imp (Run1.pure (r_move hE' rfl)) ?_
 rintro _ _ ⟨rfl, rfl⟩
 exact ⟨_, M.le.refl _, hS', rfl⟩
 }
 {
 refine cplain fun pre_ post_ L_ T_ m' a' w' hl' hp' hm' hq' hS' hE' hT' => ?_
 obtain rfl := len0 hl'
 obtain ⟨v184, e185, q186⟩ : ∃ v, a'.tmps.getD 81 undef = v ∧ (v = v1_145) := ⟨_, rfl, hT' 0 (by decide) 81 rfl⟩
 have hE := hE'.add (e185.trans q186)
 refine Step.imp (st_index (k := (kInt .u8)) hE rfl rfl Tryz.underlying24 Tryz.sizeOf5 (hv1_148.mono (M.le.trans hm162 hm')) hx174) ?_
 rintro v187 _ ⟨rfl, hp175⟩
 exact ⟨_, M.le.refl _, hS', hp175⟩
 }
 {
 refine cplain fun pre_ post_ L_ T_ m' a' w' hl' hp' hm' hq' hS' hE' hT' => ?_
 obtain rfl := len0 hl'
 obtain ⟨v188, e189, q190⟩ : ∃ v, a'.tmps.getD 82 undef = v ∧ (PR (kInt .u8) m' v x173) := ⟨_, rfl, hT' 1 (by decide) 82 rfl⟩
 have hE := hE'.add (e189)
 refine Step.imp (st_loadM hE hS' ty5 rfl q190) ?_
 rintro v191 _ ⟨rfl, hv176⟩
 obtain ⟨rfl, hr192⟩ := RV_int hv176
 exact ⟨_, M.le.refl _, hS', ⟨rfl, hr192⟩⟩
 }
 {
 refine cplain fun pre_ post_ L_ T_ m' a' w' hl' hp' hm' hq' hS' hE' hT' => ?_
 obtain rfl := len0 hl'
 obtain ⟨v193, e194, q195⟩ : ∃ v, a'.tmps.getD 83 undef = v ∧ (v = (.int .u8 x173) ∧ inR .u8 x173) := ⟨_, rfl, hT' 2 (by decide) 83 rfl⟩
 obtain ⟨q195, hr196⟩ := q195
 have hE := hE'.add (e194.trans q195)
 refine Step.imp (Run1.pure (r_conv hE rfl Tryz.underlying5 Tryz.underlying3 rfl)) ?_
 rintro _ _ ⟨rfl, rfl⟩
 exact ⟨_, M.le.refl _, hS', ⟨rfl, (inR_wrap _ _)⟩⟩
 }
 {
 refine cplain fun pre_ post_ L_ T_ m' a' w' hl' hp' hm' hq' hS' hE' hT' => ?_
 obtain rfl := len0 hl'
 obtain ⟨v198, e199, q200⟩ : ∃ v, a'.tmps.getD 84 undef = v ∧ (v = (.int .i64 (IntKind.i64.wrap x173)) ∧ inR .i64 (IntKind.i64.wrap x173)) := ⟨_, rfl, hT' 3 (by decide) 84 rfl⟩
 obtain ⟨q200, hr201⟩ := q200
 have hE := hE'.add (e199.trans q200)
 refine Step.imp (Run1.pure (r_bin hE rfl rfl (b_shl rfl (by decide)))) ?_
 rintro _ _ ⟨rfl, rfl⟩
 exact ⟨_, M.le.refl _, hS', ⟨rfl, (inR_shl _ _ _)⟩⟩
 }
 {
 refine cplain fun pre_ post_ L_ T_ m' a' w' hl' hp' hm' hq' hS' hE' hT' => ?_
 obtain rfl := len0 hl'
 refine Step.imp (Run1.pure (r_move hE' rfl)) ?_
 rintro _ _ ⟨rfl, rfl⟩
 exact ⟨_, M.le.refl _, hS', rfl⟩
 }
 {
 refine cplain fun pre_ post_ L_ T_ m' a' w' hl' hp' hm' hq' hS' hE' hT' => ?_
 obtain rfl := len0 hl'
 obtain ⟨v204, e205, q206⟩ : ∃ v, a'.tmps.getD 86 undef = v ∧ (v = v1_145) := ⟨_, rfl, hT' 5 (by decide) 86 rfl⟩
 have hE := hE'.add (e205.trans q206)
 refine Step.imp (st_index (k := (kInt .u8)) hE rfl rfl Tryz.underlying24 Tryz.sizeOf5 (hv1_148.mono (M.le.trans hm162 hm')) hx179) ?_
 rintro v207 _ ⟨rfl, hp180⟩
 exact ⟨_, M.le.refl _, hS', hp180⟩
 }
 {
 refine cplain fun pre_ post_ L_ T_ m' a' w' hl' hp' hm' hq' hS' hE' hT' => ?_
 obtain rfl := len0 hl'
 obtain ⟨v208, e209, q210⟩ : ∃ v, a'.tmps.getD 87 undef = v ∧ (PR (kInt .u8) m' v x178) := ⟨_, rfl, hT' 6 (by decide) 87 rfl⟩
 have hE := hE'.add (e209)
 refine Step.imp (st_loadM hE hS' ty5 rfl q210) ?_
 rintro v211 _ ⟨rfl, hv181⟩
 obtain ⟨rfl, hr212⟩ := RV_int hv181
 exact ⟨_, M.le.refl _, hS', ⟨rfl, hr212⟩⟩
 }
 {
 refine cplain fun pre_ post_ L_ T_ m' a' w' hl' hp' hm' hq' hS' hE' hT' => ?_
 obtain rfl := len0 hl'
 obtain ⟨v213, e214, q215⟩ : ∃ v, a'.tmps.getD 88 undef = v ∧ (v = (.int .u8 x178) ∧ inR .u8 x178) := ⟨_, rfl, hT' 7 (by decide) 88 rfl⟩
 obtain ⟨q215, hr216⟩ := q215
 have hE := hE'.add (e214.trans q215)
 refine Step.imp (Run1.pure (r_conv hE rfl Tryz.underlying5 Tryz.underlying3 rfl)) ?_
 rintro _ _ ⟨rfl, rfl⟩
 exact ⟨_, M.le.refl _, hS', ⟨rfl, (inR_wrap _ _)⟩⟩
 }
 }
 {
 intro ws_ L_ T_ m218 a w hl219 hm220 hq221 hS hd222 hn223 ho224 hT225
 obtain rfl := len0 hl219
 obtain ⟨rfl, rfl⟩ := hq221
 have hE := EnvD.of (k := 9) (l' := [(0, v0), (2, (.pointer (some ⟨b1, 0, none⟩))), (5, (.pointer (some ⟨b33, 0, none⟩))), (8, v1_145), (79, (.bool x163))]) hd222 hn223 ho224 ⟨rfl, rfl, rfl, rfl, rfl, trivial⟩ rfl
 obtain ⟨v226, e227, q228⟩ : ∃ v, a.tmps.getD 85 undef = v ∧ (v = (.int .i64 (iShl .i64 (IntKind.i64.wrap x173) 8)) ∧ inR .i64 (iShl .i64 (IntKind.i64.wrap x173) 8)) := ⟨_, rfl, hT225 4 (by decide) 85 rfl⟩
 obtain ⟨q228, hr229⟩ := q228
 have hE := hE.add (e227.trans q228)
 obtain ⟨v230, e231, q232⟩ : ∃ v, a.tmps.getD 89 undef = v ∧ (v = (.int .i64 (IntKind.i64.wrap x178)) ∧ inR .i64 (IntKind.i64.wrap x178)) := ⟨_, rfl, hT225 8 (by decide) 89 rfl⟩
 obtain ⟨q232, hr233⟩ := q232
 have hE := hE.add (e231.trans q232)
 refine sp hE (r_bin hE rfl rfl (b_or rfl)) rfl fun a hE => ?_
 refine qa hE rfl rfl fun a hE => ?_
 refine knil (kseq (kreg ?_))
 refine qm hE rfl rfl fun a hE => ?_
 obtain ⟨x237, hx238, h⟩ := ob h
 refine st hE (st_slice (k := (kInt .u8)) hE rfl Tryz.underlying24 Tryz.sizeOf5 (hv1_148.mono (M.le.trans hm162 hm220)) ⟨_, rfl⟩ rfl hx238 (xl := (some (.const (.int .i64 2)))) (xh := none)) rfl ?_
 rintro v240 a _ ⟨rfl, hv239⟩ hE
 refine qa hE rfl rfl fun a hE => ?_
 refine knil (kseq (kseq (kreg ?_)))
 refine qm hE rfl rfl fun a hE => ?_
 refine sp hE (r_lenSl (k := (kInt .u8)) hE rfl rfl Tryz.underlying24 hv239) rfl fun a hE => ?_
 refine qm hE rfl rfl fun a hE => ?_
 refine sp hE (r_bin hE rfl rfl (b_add rfl)) rfl fun a hE => ?_
 refine sp hE (r_bin hE rfl rfl b_lss) rfl fun a hE => ?_
 refine knil ?_
 refine kif hE rfl (fun hd247 => ?_) (fun hd247 => ?_)
 {
 have h := ite_T hd247 h
 refine kseq (kreg ?_)
 refine st hE (st_build (m := m218) (k := kBlock_Info) (x0 := Block_Info.zero) (xx := (⟨0, 0, Ap.zero, Ap.zero, 0, 0⟩ : Block_Info)) (pl := [(0, 1), (1, 1), (2, 4), (6, 4), (10, 1), (11, 1)]) (pv := []) hE rfl Tryz.underlying34 rfl Tryz.zeroValue34 zr34 rfl .nil) rfl ?_
 rintro v249 a _ ⟨rfl, hv248⟩ hE
 refine st0 hE (st_storeF hE hS ty34 StF_self rfl rfl hv248 (i := 1) rfl (zr34 _)) ?_
 rintro _ w ⟨cs250, hc251, hS⟩ hE
 refine qa hE rfl rfl fun a hE => ?_
 refine qa hE rfl rfl fun a hE => ?_
 refine knil (kret ?_)
 obtain rfl := oi h
 try dsimp only
 refine Fin.mk hE (rs := [.cell 2 34, .tmp 3, .tmp 4]) rfl (ResL.cell hE hS ty34 rfl (i := 1) rfl (R_whole hc251) (ResL.tmp hE rfl (ResL.tmp hE rfl ResL.nil))) ?_
 exact ⟨_, (M.le.trans hm6 (M.le.trans hm95 (M.le.trans hm121 (M.le.trans hm143 (M.le.trans hm162 hm220))))), (hS.dropL 2), _, _, _, rfl, (RV_of_R (R_whole hc251)), RV_nil, RV_of_bool⟩
 }
 {
 have h := ite_F hd247 h
 refine kskip (kseq (kreg ?_))
 refine qm hE rfl rfl fun a hE => ?_
 refine sp hE (r_lenSl (k := (kInt .u8)) hE rfl rfl Tryz.underlying24 (ha0.mono (M.le.trans hm6 (M.le.trans hm95 (M.le.trans hm121 (M.le.trans hm143 (M.le.trans hm162 hm220))))))) rfl fun a hE => ?_
 refine qm hE rfl rfl fun a hE => ?_
 refine sp hE (r_lenSl (k := (kInt .u8)) hE rfl rfl Tryz.underlying24 hv239) rfl fun a hE => ?_
 refine sp hE (r_bin hE rfl rfl (b_sub rfl)) rfl fun a hE => ?_
 refine qm hE rfl rfl fun a hE => ?_
 refine sp hE (r_bin hE rfl rfl (b_add rfl)) rfl fun a hE => ?_
 refine sp hE (r_bin hE rfl rfl (b_add rfl)) rfl fun a hE => ?_
 refine sp hE (r_fieldL hE fo34_5 rfl) rfl fun a hE => ?_
 refine st0 hE (st_storeF hE hS ty3 sf34_5 rfl rfl (RV_of_int (inR_wrap _ _)) (i := 0) rfl (kBlock_Info.mono (M.le.trans hm162 hm220) hc157)) ?_
 rintro _ w ⟨cs264, hc265, hS⟩ hE
 refine knil (kseq ?_)
 obtain ⟨x268, hx269, h⟩ := ob h
 refine kchain (k := 5) (m := m218) (es := [4]) (Φ := (fun i m ws v => match i with | 0 => RV kBlock_Info m v ({ { { (⟨IntKind.i64.wrap x17, IntKind.i64.wrap x22, Ap.zero, Ap.zero, IntKind.i64.wrap x27, 0⟩ : Block_Info) with fMin := r118.1 } with fMax := r140.1 } with fBytes := IntKind.i64.wrap ((IntKind.i64.wrap ((IntKind.i64.wrap ((p0.length : Int) - (x237.length : Int))) + (bOr .i64 (iShl .i64 (IntKind.i64.wrap x173) 8) (IntKind.i64.wrap x178)))) + 4) }) | 1 => v = v240 | 2 => v = (.int .i64 (bOr .i64 (iShl .i64 (IntKind.i64.wrap x173) 8) (IntKind.i64.wrap x178))) ∧ inR .i64 (bOr .i64 (iShl .i64 (IntKind.i64.wrap x173) 8) (IntKind.i64.wrap x178)) | 3 => RV (kSl (kInt .u8)) m v x268 | 4 => True | _ => True)) (Q := (fun c m ws L' TL' => match c with | 0 => (b33, cs264) :: (b1, zc34) :: L = L' ∧ TL = TL' | 1 => (b33, cs264) :: (b1, (wi ws 0).c) :: L = L' ∧ TL = TL' ∧ kBlock_Info.R m (wi ws 0).c ({ { { (⟨IntKind.i64.wrap x17, IntKind.i64.wrap x22, Ap.zero, Ap.zero, IntKind.i64.wrap x27, 0⟩ : Block_Info) with fMin := r118.1 } with fMax := r140.1 } with fBytes := IntKind.i64.wrap ((IntKind.i64.wrap ((IntKind.i64.wrap ((p0.length : Int) - (x237.length : Int))) + (bOr .i64 (iShl .i64 (IntKind.i64.wrap x173) 8) (IntKind.i64.wrap x178)))) + 4) }) | _ => False)) (cs := [⟨0, 0, false, [(5, (.pointer (some ⟨b33, 0, none⟩)))]⟩, ⟨0, 1, false, [(8, v240)]⟩, ⟨0, 1, false, [(9, (.int .i64 (bOr .i64 (iShl .i64 (IntKind.i64.wrap x173) 8) (IntKind.i64.wrap x178))))]⟩, ⟨0, 1, false, []⟩, ⟨0, 0, true, [(2, (.pointer (some ⟨b1, 0, none⟩)))]⟩]) mixed hE hS ⟨rfl, rfl⟩ rfl rfl ⟨⟨rfl, trivial⟩, ⟨rfl, trivial⟩, ⟨rfl, trivial⟩, trivial, ⟨rfl, trivial⟩, trivial⟩ (by kernel_rfl) ?_ ?_ ?_ ?_
 {
 intro i m_ m2_ ws v hm_ hp_
 match i, hp_ with
 | 0, hp_ => exact RV.mono hp_ hm_
 | 1, hp_ => exact hp_
 | 2, hp_ => exact hp_
 | 3, hp_ => exact RV.mono hp_ hm_
 | 4, hp_ => exact hp_
 | _ + 5, hp_ => exact trivial
 }
 {
 intro c m_ m2_ ws L_ T_ hm_ hq_
 match c, hq_ with
 | 0, ⟨e1_, e2_⟩ => exact ⟨e1_, e2_⟩
 | 1, ⟨e1_, e2_, f0_⟩ => exact ⟨e1_, e2_, (kBlock_Info.mono hm_ f0_)⟩
 | _ + 2, hq_ => exact hq_.elim
 }
 {
 refine ⟨?_, ?_, ?_, ?_, ?_, trivial⟩
 {
 refine cplain fun pre_ post_ L_ T_ m' a' w' hl' hp' hm' hq' hS' hE' hT' => ?_
 obtain rfl := len0 hl'
 obtain rfl := len0 (lenz (a := 0) hp')
 obtain ⟨rfl, rfl⟩ := hq'
 refine Step.imp (st_loadL hE' hS' ty34 rfl (i := 0) rfl (R_whole (kBlock_Info.mono hm' hc265))) ?_
 rintro v274 _ ⟨rfl, hv267⟩
 exact ⟨_, M.le.refl _, hS', hv267⟩
 }
 {
 refine cplain fun pre_ post_ L_ T_ m' a' w' hl' hp' hm' hq' hS' hE' hT' => ?_
 obtain rfl := len0 hl'
 refine Step.imp (Run1.pure (r_move hE' rfl)) ?_
 rintro _ _ ⟨rfl, rfl⟩
 exact ⟨_, M.le.refl _, hS', rfl⟩
 }
 {
 refine cplain fun pre_ post_ L_ T_ m' a' w' hl' hp' hm' hq' hS' hE' hT' => ?_
 obtain rfl := len0 hl'
 refine Step.imp (Run1.pure (r_move hE' rfl)) ?_
 rintro _ _ ⟨rfl, rfl⟩
 exact ⟨_, M.le.refl _, hS', ⟨rfl, (inR_or _ _ _)⟩⟩
 }
 {
 refine cplain fun pre_ post_ L_ T_ m' a' w' hl' hp' hm' hq' hS' hE' hT' => ?_
 obtain rfl := len0 hl'
 obtain ⟨v277, e278, q279⟩ : ∃ v, a'.tmps.getD 109 undef = v ∧ (v = v240) := ⟨_, rfl, hT' 1 (by decide) 109 rfl⟩
 have hE := hE'.add (e278.trans q279)
 obtain ⟨v280, e281, q282⟩ : ∃ v, a'.tmps.getD 110 undef = v ∧ (v = (.int .i64 (bOr .i64 (iShl .i64 (IntKind.i64.wrap x173) 8) (IntKind.i64.wrap x178))) ∧ inR .i64 (bOr .i64 (iShl .i64 (IntKind.i64.wrap x173) 8) (IntKind.i64.wrap x178))) := ⟨_, rfl, hT' 2 (by decide) 110 rfl⟩
 obtain ⟨q282, hr283⟩ := q282
 have hE := hE.add (e281.trans q282)
 refine Step.imp (st_slice (k := (kInt .u8)) hE rfl Tryz.underlying24 Tryz.sizeOf5 (hv239.mono hm') rfl ⟨_, rfl⟩ hx269 (xl := none) (xh := (some (.tmp 110)))) ?_
 rintro v284 _ ⟨rfl, hv270⟩
 exact ⟨_, M.le.refl _, hS', hv270⟩
 }
 {
 refine cturn fun pre_ L_ T_ m' a' w' hl' hm' hq' hS' hE' hT' => ?_
 obtain rfl := len0 hl'
 obtain ⟨rfl, rfl⟩ := hq'
 obtain ⟨v285, e286, q287⟩ : ∃ v, a'.tmps.getD 108 undef = v ∧ (RV kBlock_Info m' v ({ { { (⟨IntKind.i64.wrap x17, IntKind.i64.wrap x22, Ap.zero, Ap.zero, IntKind.i64.wrap x27, 0⟩ : Block_Info) with fMin := r118.1 } with fMax := r140.1 } with fBytes := IntKind.i64.wrap ((IntKind.i64.wrap ((IntKind.i64.wrap ((p0.length : Int) - (x237.length : Int))) + (bOr .i64 (iShl .i64 (IntKind.i64.wrap x173) 8) (IntKind.i64.wrap x178)))) + 4) })) := ⟨_, rfl, hT' 0 (by decide) 108 rfl⟩
 have hE := hE'.add (e286)
 refine Step.imp (st_storeF hE hS' ty34 StF_self rfl rfl q287 (i := 1) rfl (zr34 _)) ?_
 rintro vv273 w ⟨cs271, hc272, hS⟩
 exact ⟨_, ⟨0, undef, cs271, [], []⟩, _, _, M.le.refl _, hS, ⟨rfl, rfl, hc272⟩, trivial⟩
 }
 }
 {
 intro ws_ L_ T_ m288 a w hl289 hm290 hq291 hS hd292 hn293 ho294 hT295
 obtain ⟨⟨_, _, cs271, _, _⟩, rfl⟩ := len1 hl289
 obtain ⟨rfl, rfl, hc296⟩ := hq291
 have hE := EnvD.of (k := 5) (l' := [(0, v0), (2, (.pointer (some ⟨b1, 0, none⟩))), (5, (.pointer (some ⟨b33, 0, none⟩))), (8, v240), (9, (.int .i64 (bOr .i64 (iShl .i64 (IntKind.i64.wrap x173) 8) (IntKind.i64.wrap x178)))), (79, (.bool x163)), (85, (.int .i64 (iShl .i64 (IntKind.i64.wrap x173) 8))), (89, (.int .i64 (IntKind.i64.wrap x178))), (90, (.int .i64 (bOr .i64 (iShl .i64 (IntKind.i64.wrap x173) 8) (IntKind.i64.wrap x178)))), (91, v1_145), (92, v240), (93, v240), (94, (.int .i64 (x237.length : Int))), (95, (.int .i64 (bOr .i64 (iShl .i64 (IntKind.i64.wrap x173) 8) (IntKind.i64.wrap x178)))), (96, (.int .i64 (IntKind.i64.wrap ((bOr .i64 (iShl .i64 (IntKind.i64.wrap x173) 8) (IntKind.i64.wrap x178)) + 4)))), (97, (.bool (decide ((x237.length : Int) < (IntKind.i64.wrap ((bOr .i64 (iShl .i64 (IntKind.i64.wrap x173) 8) (IntKind.i64.wrap x178)) + 4)))))), (99, v0), (100, (.int .i64 (p0.length : Int))), (101, v240), (102, (.int .i64 (x237.length : Int))), (103, (.int .i64 (IntKind.i64.wrap ((p0.length : Int) - (x237.length : Int))))), (104, (.int .i64 (bOr .i64 (iShl .i64 (IntKind.i64.wrap x173) 8) (IntKind.i64.wrap x178)))), (105, (.int .i64 (IntKind.i64.wrap ((IntKind.i64.wrap ((p0.length : Int) - (x237.length : Int))) + (bOr .i64 (iShl .i64 (IntKind.i64.wrap x173) 8) (IntKind.i64.wrap x178)))))), (106, (.int .i64 (IntKind.i64.wrap ((IntKind.i64.wrap ((IntKind.i64.wrap ((p0.length : Int) - (x237.length : Int))) + (bOr .i64 (iShl .i64 (IntKind.i64.wrap x173) 8) (IntKind.i64.wrap x178)))) + 4)))), (107, (.pointer (some ⟨b33, 11, none⟩)))]) hd292 hn293 ho294 ⟨rfl, rfl, rfl, rfl, rfl, rfl, rfl, rfl, rfl, rfl, rfl, rfl, rfl, rfl, rfl, rfl, rfl, rfl, rfl, rfl, rfl, rfl, rfl, rfl, rfl, trivial⟩ rfl
 obtain ⟨v297, e298, q299⟩ : ∃ v, a.tmps.getD 111 undef = v ∧ (RV (kSl (kInt .u8)) m288 v x268) := ⟨_, rfl, hT295 3 (by decide) 111 rfl⟩
 have hE := hE.add (e298)
 refine qa hE rfl rfl fun a hE => ?_
 refine qa hE rfl rfl fun a hE => ?_
 refine knil (kret ?_)
 obtain rfl := oi h
 try dsimp only
 refine Fin.mk hE (rs := [.cell 2 34, .tmp 3, .tmp 4]) rfl (ResL.cell hE hS ty34 rfl (i := 1) rfl (R_whole hc296) (ResL.tmp hE rfl (ResL.tmp hE rfl ResL.nil))) ?_
 exact ⟨_, (M.le.trans hm6 (M.le.trans hm95 (M.le.trans hm121 (M.le.trans hm143 (M.le.trans hm162 (M.le.trans hm220 hm290)))))), (hS.dropL 2), _, _, _, rfl, (RV_of_R (R_whole hc296)), q299, RV_of_bool⟩
 }
 }
 }
 }
 }
 }
 }
 }
theorem ct_57 : Ctr Sz Tryz.prog 57 [.rd (.sl (.int .u8))] [.rd (.st 34), .rd (.sl (.int .u8)), .rd .bool] (fun x => block_read x.1) := by
 intro W0 m w L TL vs x r Lp Tp hS hP h
 obtain ⟨v0, vs, rfl, a0, hP0⟩ := PR_rd hP
 obtain ⟨rfl, rfl, rfl⟩ := PR_nil hP0
 refine (c_block_read (hS := hS) a0 h).mono ?_
 intro e w' he
 cases e with
 | returned v =>
  obtain ⟨m', hm, hS', u0, u1, u2, rfl, r0, r1, r2⟩ := he
  exact ⟨m', [u0, u1, u2], [], [], [], hm, hS', rfl, ⟨r0, ⟨r1, ⟨r2, trivial⟩⟩⟩, trivial⟩
 | panicked ch => exact he.elim
 | outgrown => exact he.elim
noncomputable def cs_57 : CS Tryz.prog Sz := ⟨57, _, _, _, ct_57, Tryz.call57⟩
theorem ct_19 : Ctr Sz Tryz.prog 19 [.rd (.sl (.int .u8))] [.rd (.st 34), .rd (.int .i64)] (fun x => block_Head x.1) :=
 Ctr.nX (Γ := Γ) (D := [cs_57]) (c := Tryz.f19.body.getD .skip) (res := [.cell 2 34, .tmp 3]) .o rfl mixed Tryz.func19 rfl Tryz.ntmps19 rfl rfl (fun x => by kernel_rfl)
noncomputable def cs_19 : CS Tryz.prog Sz := ⟨19, _, _, _, ct_19, Tryz.call19⟩
theorem c_slices_Clone_byte {W0 : Bse} {m : M} {w : World} {L : List (Nat × List Value)} {TL : List (Nat × Value)} (hS : S W0 m w (L) (TL)) {v0 : Value} {p0 : (List Int)} (ha0 : RV (kSl (kInt .u8)) m v0 p0) {r : (List Int)} (h : slices_Clone_byte p0 = some r) :
    Calls Tryz.prog 60 [v0].toArray w (Ret fun v w' => ∃ m', M.le m m' ∧ S W0 m' w' (L) ((1, v) :: TL) ∧ RV (kSl (kInt .u8)) m' v r) := by
 refine kcall Tryz.func60 rfl Tryz.ntmps60 (Nat.le_of_ble_eq_true rfl) fun a hE => ?_
 have hE : Env 8 a [(0, v0)] := hE
 unfold slices_Clone_byte at h
 refine kseq (kreg ?_)
 refine qa hE rfl rfl fun a hE => ?_
 refine knil (kseq (kseq (kreg ?_)))
 refine qm hE rfl rfl fun a hE => ?_
 refine st hE (st_isnil (k := (kInt .u8)) hE rfl rfl ha0 Tryz.underlying24) rfl ?_
 rintro v5 a _ ⟨rfl, bn3, rfl, hb4⟩ hE
 refine knil ?_
 refine kif hE rfl (fun hd6 => ?_) (fun hd6 => ?_)
 {
 have hx_ := hb4 hd6
 have h : some ([]) = some r := by rw [hx_] at h; exact h
 refine kseq (kreg ?_)
 refine qa hE rfl rfl fun a hE => ?_
 refine knil (kret ?_)
 obtain rfl := oi h
 try dsimp only
 refine Fin.mk hE (rs := [.tmp 2]) rfl (ResL.tmp hE rfl ResL.nil) ?_
 exact ⟨_, (M.le.refl _), ((hS.dropT 0).tail0 1), RV_nil⟩
 }
 {
 refine kskip (kseq (kreg ?_))
 refine st hE (st_lit (k := (kInt .u8)) (xs := []) (vs := []) hE hS rfl Tryz.underlying24 Tryz.sizeOf5 Tryz.zeroValue5 trivial rfl (by decide)) rfl ?_
 rintro v11 a w ⟨m9, hm10, hS, hv8⟩ hE
 refine qm hE rfl rfl fun a hE => ?_
 obtain ⟨z13, hz14, h⟩ := ob h
 refine st hE (st_app (k := (kInt .u8)) (N := 140737488355328) hE hS rfl rfl Tryz.underlying24 Tryz.underlying24 el5 (i := 0) rfl hv8 (ha0.mono hm10) hz14 rfl rfl) rfl ?_
 rintro v18 a w ⟨m16, hm17, hS, hv15⟩ hE
 refine qa hE rfl rfl fun a hE => ?_
 refine knil (kret ?_)
 obtain rfl := oi h
 try dsimp only
 refine Fin.mk hE (rs := [.tmp 2]) rfl (ResL.tmp hE rfl ResL.nil) ?_
 exact ⟨_, (M.le.trans hm10 hm17), (hS.pickT 1 [0] rfl rfl rfl), hv15⟩
 }
theorem ct_61 : Ctr Sz Tryz.prog 61 [.rd (.sl (.int .u8)), .rd (.sl (.int .u8))] [.rd .bool] (fun x => slices_Equal_byte x.1 x.2.1) :=
 Ctr.nc (Γ := Γ) (D := []) (c := Tryz.f61.body.getD .skip) (res := [4]) (.s .o (.s .o (.s (.s .o (.b (.l ⟨[.v 13 1 (.dat (.int .i64) none)], [0, 1, 12], 0, []⟩ .o))) .o))) rfl mixed Tryz.func61 rfl Tryz.ntmps61 rfl rfl (fun x => by kernel_rfl)
noncomputable def cs_61 : CS Tryz.prog Sz := ⟨61, _, _, _, ct_61, Tryz.call61⟩
theorem c_slices_Equal_byte {W0 : Bse} {m : M} {w : World} {L : List (Nat × List Value)} {TL : List (Nat × Value)} (hS : S W0 m w (L) (TL)) {v0 : Value} {p0 : (List Int)} (ha0 : RV (kSl (kInt .u8)) m v0 p0) {v1 : Value} {p1 : (List Int)} (ha1 : RV (kSl (kInt .u8)) m v1 p1) {r : Bool} (h : slices_Equal_byte p0 p1 = some r) :
    Calls Tryz.prog 61 [v0, v1].toArray w (Ret fun v w' => ∃ m', M.le m m' ∧ S W0 m' w' (L) (TL) ∧ RV kBool m' v r) := by
 refine (ct_61 W0 m w L TL [v0, v1] (p0, p1, ()) r [] [] hS ⟨ha0, ⟨ha1, trivial⟩⟩ h).mono ?_
 intro e w' he
 cases e with
 | returned v =>
  obtain ⟨m', us, Lr, Lq, Tr, hm, hS', rfl, hR, hO⟩ := he
  obtain ⟨u0, us, rfl, r0, hR0⟩ := RR_rd hR
  obtain ⟨rfl, rfl, rfl⟩ := RR_nil hR0
  have hO0 := OR_rd hO
  have hO1 := OR_rd hO0
  obtain rfl := OR_nil hO1
  exact ⟨m', hm, hS', r0⟩
 | panicked ch => exact he.elim
 | outgrown => exact he.elim
theorem ct_164 : Ctr Sz Tryz.prog 164 [.pt (.st 161)] [.rd (.st 32)] (fun x => encode_reader_value x.1) :=
 Ctr.nX (Γ := Γ) (D := [cs_163]) (c := Tryz.f164.body.getD .skip) (res := [.cell 2 32]) (.s .o (.s (.s .o (.b (.l ⟨[.v 3 1 (.dat (.int .i64) none)], [0, 2], 2, []⟩ .o))) .o)) rfl mixed Tryz.func164 rfl Tryz.ntmps164 rfl rfl (fun x => by kernel_rfl)
noncomputable def cs_164 : CS Tryz.prog Sz := ⟨164, _, _, _, ct_164, Tryz.call164⟩
theorem ct_165 : Ctr Sz Tryz.prog 165 [.pt (.st 161), .rd (.int .i64)] [.rd (.sl (.int .u8))] (fun x => encode_reader_take x.1 x.2.1) :=
 Ctr.nc (Γ := Γ) (D := []) (c := Tryz.f165.body.getD .skip) (res := [4]) .o rfl mixed Tryz.func165 rfl Tryz.ntmps165 rfl rfl (fun x => by kernel_rfl)
noncomputable def cs_165 : CS Tryz.prog Sz := ⟨165, _, _, _, ct_165, Tryz.call165⟩
theorem c_encode_reader_take {W0 : Bse} {m : M} {w : World} {L : List (Nat × List Value)} {TL : List (Nat × Value)} {b0_ : Nat} {c0_ : List Value} (hS : S W0 m w ((b0_, c0_) :: L) (TL)) {p0 : Encode_reader} (ha0 : kEncode_reader.R m c0_ p0) {p1 : Int} (ha1 : inR .i64 p1) {r : ((List Int) × Encode_reader)} (h : encode_reader_take p0 p1 = some r) :
    Calls Tryz.prog 165 [(.pointer (some ⟨b0_, 0, none⟩)), (.int .i64 p1)].toArray w (Ret fun v w' => ∃ m', M.le m m' ∧ ∃ q0_ : List Value, S W0 m' w' ((b0_, q0_) :: L) (TL) ∧ kEncode_reader.R m' q0_ r.2 ∧ RV (kSl (kInt .u8)) m' v r.1) := by
 refine (ct_165 W0 m w L TL [(.pointer (some ⟨b0_, 0, none⟩)), (.int .i64 p1)] (p0, p1, ()) r [(b0_, c0_)] [] hS ⟨ha0, rfl, ⟨RV_of_int ha1, trivial⟩⟩ h).mono ?_
 intro e w' he
 cases e with
 | returned v =>
  obtain ⟨m', us, Lr, Lq, Tr, hm, hS', rfl, hR, hO⟩ := he
  obtain ⟨u0, us, rfl, r0, hR0⟩ := RR_rd hR
  obtain ⟨rfl, rfl, rfl⟩ := RR_nil hR0
  obtain ⟨q0_, Lq, rfl, o0, hO0⟩ := OR_pt hO
  have hO1 := OR_rd hO0
  obtain rfl := OR_nil hO1
  exact ⟨m', hm, q0_, hS', o0, r0⟩
 | panicked ch => exact he.elim
 | outgrown => exact he.elim
theorem ct_196 : Ctr Sz Tryz.prog 196 [.rd (.int .u32), .rd (.int .u32)] [.rd (.int .u32), .rd (.int .u32)] (fun x => bits_Mul32 x.1 x.2.1) :=
 Ctr.nc (Γ := Γ) (D := []) (c := Tryz.f196.body.getD .skip) (res := [4, 5]) .o rfl mixed Tryz.func196 rfl Tryz.ntmps196 rfl rfl (fun x => by kernel_rfl)
noncomputable def cs_196 : CS Tryz.prog Sz := ⟨196, _, _, _, ct_196, Tryz.call196⟩
theorem ct_197 : Ctr Sz Tryz.prog 197 [.rd (.int .u64), .rd (.int .u64)] [.rd (.int .u64), .rd (.int .u64)] (fun x => bits_Mul64 x.1 x.2.1) :=
 Ctr.nc (Γ := Γ) (D := []) (c := Tryz.f197.body.getD .skip) (res := [4, 5]) .o rfl mixed Tryz.func197 rfl Tryz.ntmps197 rfl rfl (fun x => by kernel_rfl)
noncomputable def cs_197 : CS Tryz.prog Sz := ⟨197, _, _, _, ct_197, Tryz.call197⟩
theorem ct_184 : Ctr Sz Tryz.prog 184 [.rd (.int .u64), .rd (.int .u64)] [.rd (.int .u64), .rd (.int .u64)] (fun x => bits_Mul x.1 x.2.1) :=
 Ctr.nc (Γ := Γ) (D := [cs_196, cs_197]) (c := Tryz.f184.body.getD .skip) (res := [4, 5]) .o rfl mixed Tryz.func184 rfl Tryz.ntmps184 rfl rfl (fun x => by kernel_rfl)
theorem c_bits_Mul {W0 : Bse} {m : M} {w : World} {L : List (Nat × List Value)} {TL : List (Nat × Value)} (hS : S W0 m w (L) (TL)) {p0 : Int} (ha0 : inR .u64 p0) {p1 : Int} (ha1 : inR .u64 p1) {r : (Int × Int)} (h : bits_Mul p0 p1 = some r) :
    Calls Tryz.prog 184 [(.int .u64 p0), (.int .u64 p1)].toArray w (Ret fun v w' => ∃ m', M.le m m' ∧ S W0 m' w' (L) (TL) ∧ ∃ v0_ v1_ : Value, v = .tuple #[v0_, v1_] ∧ RV (kInt .u64) m' v0_ r.1 ∧ RV (kInt .u64) m' v1_ r.2) := by
 refine (ct_184 W0 m w L TL [(.int .u64 p0), (.int .u64 p1)] (p0, p1, ()) r [] [] hS ⟨RV_of_int ha0, ⟨RV_of_int ha1, trivial⟩⟩ h).mono ?_
 intro e w' he
 cases e with
 | returned v =>
  obtain ⟨m', us, Lr, Lq, Tr, hm, hS', rfl, hR, hO⟩ := he
  obtain ⟨u0, us, rfl, r0, hR0⟩ := RR_rd hR
  obtain ⟨u1, us, rfl, r1, hR1⟩ := RR_rd hR0
  obtain ⟨rfl, rfl, rfl⟩ := RR_nil hR1
  have hO0 := OR_rd hO
  have hO1 := OR_rd hO0
  obtain rfl := OR_nil hO1
  exact ⟨m', hm, hS', u0, u1, rfl, r0, r1⟩
 | panicked ch => exact he.elim
 | outgrown => exact he.elim
theorem c_slices_Repeat_Value {W0 : Bse} {m : M} {w : World} {L : List (Nat × List Value)} {TL : List (Nat × Value)} (hS : S W0 m w (L) (TL)) {v0 : Value} {p0 : (List Ap)} (ha0 : RV (kSl kAp) m v0 p0) {p1 : Int} (ha1 : inR .i64 p1) {r : (List Ap)} (h : slices_Repeat_Value p0 p1 = some r) :
    Calls Tryz.prog 166 [v0, (.int .i64 p1)].toArray w (Ret fun v w' => ∃ m', M.le m m' ∧ S W0 m' w' (L) (TL) ∧ RV (kSl kAp) m' v r) := by
 refine kcall Tryz.func166 rfl Tryz.ntmps166 (Nat.le_of_ble_eq_true rfl) fun a hE => ?_
 have hE : Env 48 a [(0, v0), (1, (.int .i64 p1))] := hE
 unfold slices_Repeat_Value at h
 refine kseq (kreg ?_)
 refine qa hE rfl rfl fun a hE => ?_
 refine knil (kseq (kseq (kreg ?_)))
 refine qm hE rfl rfl fun a hE => ?_
 refine sp hE (r_bin hE rfl rfl b_lss) rfl fun a hE => ?_
 refine knil ?_
 refine kcut (fun a w => slices_Repeat_Value_j1 p0 p1 = some r ∧ ∃ m', M.le m m' ∧ S W0 m' w (L) (TL) ∧ Env 48 a [(0, v0), (1, (.int .i64 p1))]) ?_ ?_
 {
 refine kif hE rfl (fun hd143 => ?_) (fun hd143 => ?_)
 {
 have h := ite_T hd143 h
 cases h
 }
 {
 have h := ite_F hd143 h
 refine kskip ?_
 exact ⟨h, _, (M.le.refl _), hS, hE.cut ⟨rfl, rfl, trivial⟩⟩
 }
 }
 {
 rintro a w ⟨h, m4, hm5, hS, hE⟩
 unfold slices_Repeat_Value_j1 at h
 refine kseq (kreg ?_)
 refine qm hE rfl rfl fun a hE => ?_
 refine sp hE (r_lenSl (k := kAp) hE rfl rfl Tryz.underlying22 (ha0.mono hm5)) rfl fun a hE => ?_
 refine sp hE (r_conv hE rfl Tryz.underlying3 Tryz.underlying94 rfl) rfl fun a hE => ?_
 refine qm hE rfl rfl fun a hE => ?_
 refine sp hE (r_conv hE rfl Tryz.underlying3 Tryz.underlying94 rfl) rfl fun a hE => ?_
 obtain ⟨r12, hr13, h⟩ := ob h
 refine st hE (st_call (vs := [(.int .u64 (IntKind.u64.wrap (p0.length : Int))), (.int .u64 (IntKind.u64.wrap p1))]) hE rfl Tryz.call184 (c_bits_Mul (hS := hS) (inR_wrap _ _) (inR_wrap _ _) hr13)) rfl ?_
 rintro _ a w ⟨m14, hm15, hS, v0_16, v1_17, rfl, hv0_18, hv1_19⟩ hE
 obtain ⟨rfl, hr21⟩ := RV_int hv0_18
 obtain ⟨rfl, hr22⟩ := RV_int hv1_19
 refine qm hE rfl rfl fun a hE => ?_
 refine sp hE (r_extract hE rfl rfl) rfl fun a hE => ?_
 refine sp hE (r_extract hE rfl rfl) rfl fun a hE => ?_
 refine qa hE rfl rfl fun a hE => ?_
 refine qa hE rfl rfl fun a hE => ?_
 refine knil (kseq (kseq ?_))
 refine kcut (fun a w => ∃ x30 : Bool, slices_Repeat_Value_j2 p0 r12 x30 = some r ∧ ∃ m', M.le m14 m' ∧ S W0 m' w (L) (TL) ∧ Env 48 a [(0, v0), (6, (.int .u64 r12.2)), (26, (.bool x30))]) ?_ ?_
 {
 refine kreg ?_
 refine qm hE rfl rfl fun a hE => ?_
 refine sp hE (r_bin hE rfl rfl b_gtr) rfl fun a hE => ?_
 refine qm hE rfl rfl fun a hE => ?_
 rcases Bool.eq_false_or_eq_true (decide (0 < r12.1)) with hd138 | hd138
 {
 have h := ite_T hd138 h
 refine sx hE rfl rfl rfl rfl hd138 rfl fun a hE => ?_
 refine sx hE rfl rfl rfl rfl hd138 rfl fun a hE => ?_
 refine sp hE (r_pickT hE rfl hd138 rfl) rfl fun a hE => ?_
 refine knil ?_
 exact ⟨true, h, _, (M.le.refl _), hS, hE.cut ⟨rfl, rfl, rfl, trivial⟩⟩
 }
 {
 have h := ite_F hd138 h
 refine spg hE rfl rfl rfl rfl hd138 (r_move hE rfl) rfl fun a hE => ?_
 refine spg hE rfl rfl rfl rfl hd138 (r_bin hE rfl rfl b_gtr) rfl fun a hE => ?_
 refine sp hE (r_pickF hE rfl hd138 rfl) rfl fun a hE => ?_
 refine knil ?_
 exact ⟨(decide (9223372036854775807 < r12.2)), h, _, (M.le.refl _), hS, hE.cut ⟨rfl, rfl, rfl, trivial⟩⟩
 }
 }
 {
 rintro a w ⟨x30, h, m28, hm29, hS, hE⟩
 unfold slices_Repeat_Value_j2 at h
 refine kcut (fun a w => slices_Repeat_Value_j3 p0 r12 = some r ∧ ∃ m', M.le m28 m' ∧ S W0 m' w (L) (TL) ∧ Env 48 a [(0, v0), (6, (.int .u64 r12.2))]) ?_ ?_
 {
 refine kif hE rfl (fun hd134 => ?_) (fun hd134 => ?_)
 {
 have h := ite_T hd134 h
 cases h
 }
 {
 have h := ite_F hd134 h
 refine kskip ?_
 exact ⟨h, _, (M.le.refl _), hS, hE.cut ⟨rfl, rfl, trivial⟩⟩
 }
 }
 {
 rintro a w ⟨h, m32, hm33, hS, hE⟩
 unfold slices_Repeat_Value_j3 at h
 refine kseq (kreg ?_)
 refine qm hE rfl rfl fun a hE => ?_
 refine sp hE (r_conv hE rfl Tryz.underlying94 Tryz.underlying3 rfl) rfl fun a hE => ?_
 obtain ⟨z37, hz38, h⟩ := ob h
 refine st hE (st_makeG (k := kAp) (m := m32) hE hS rfl rfl Tryz.underlying22 Tryz.type32 rfl rfl rfl (fun m => zr32 m) hz38 rfl rfl) rfl ?_
 rintro v42 a w ⟨b39, cs40, hc41, hS⟩ hE
 refine qa hE rfl rfl fun a hE => ?_
 refine knil (kseq (kreg ?_))
 refine qm hE rfl rfl fun a hE => ?_
 refine qm hE rfl rfl fun a hE => ?_
 refine st hE (st_copyG (k := kAp) hE hS rfl rfl Tryz.underlying22 Tryz.sizeOf32 (i := 0) rfl hc41 (ha0.mono (M.le.trans hm5 (M.le.trans hm15 (M.le.trans hm29 hm33))))) rfl ?_
 rintro v48 a _ ⟨rfl, cs46, hc47, hS⟩ hE
 refine qa hE rfl rfl fun a hE => ?_
 refine knil (kseq ?_)
 refine kcut (fun a w => ∃ x52 : (List Ap), slices_Repeat_Value_j4 x52 = some r ∧ ∃ m', M.le m32 m' ∧ ∃ (v53 : Value), RV (kSl kAp) m' v53 x52 ∧ S W0 m' w (L) (TL) ∧ Env 48 a [(7, v53)]) ?_ ?_
 {
 refine kblock ?_
 refine kloop h (fun (s : (Int × (List Ap))) a w => ∃ m', M.le m32 m' ∧ ∃ (cs63 : List Value), inR .i64 s.1 ∧ GS kAp m' b39 cs63 v42 s.2 ∧ S W0 m' w ((b39, cs63) :: L) (TL) ∧ Env 48 a [(7, v42), (8, (.int .i64 s.1))]) ?_ ?_
 {
 exact ⟨_, (M.le.refl _), cs46, (inR_len (Nat.le_trans (Nat.min_le_right _ _) (GS.len hc41))), hc47, hS, hE.cut ⟨rfl, rfl, trivial⟩⟩
 }
 {
 rintro ⟨x60, x62⟩ a w ⟨m58, hm59, cs63, hr61, hc64, hS, hE⟩ r65 h hb66
 have h : slices_Repeat_Value_b1 x60 x62 = some r65 := h
 unfold slices_Repeat_Value_b1 at h
 refine kseq (kseq (kreg ?_))
 refine qm hE rfl rfl fun a hE => ?_
 refine qm hE rfl rfl fun a hE => ?_
 refine sp hE (r_lenG (k := kAp) hE rfl rfl Tryz.underlying22 hc64) rfl fun a hE => ?_
 refine sp hE (r_bin hE rfl rfl b_lss) rfl fun a hE => ?_
 refine knil ?_
 refine kif hE rfl (fun hd71 => ?_) (fun hd71 => ?_)
 {
 have h := ite_T hd71 h
 refine kskip (kblock ?_)
 obtain ⟨q73, hq74, h⟩ := ob h
 obtain ⟨q76, hq77, h⟩ := ob h
 obtain ⟨u82, hu83, h⟩ := ob h
 obtain ⟨z80, hz81, h⟩ := ob h
 refine kchain (k := 8) (m := m58) (es := [7]) (Φ := (fun i m ws v => match i with | 0 => v = (.int .i64 x60) ∧ inR .i64 x60 | 1 => v = v42 | 2 => v = (.int .i64 x60) ∧ inR .i64 x60 | 3 => VS b39 4 v q73.1 q73.2 | 4 => v = v42 | 5 => v = (.int .i64 x60) ∧ inR .i64 x60 | 6 => VS b39 4 v q76.1 q76.2 | 7 => v = (.int .i64 ((min q76.2 q73.2 : Nat) : Int)) ∧ inR .i64 ((min q76.2 q73.2 : Nat) : Int) | _ => True)) (Q := (fun c m ws L' TL' => match c with | 0 => (b39, cs63) :: L = L' ∧ TL = TL' | 1 => (b39, (wi ws 0).c) :: L = L' ∧ TL = TL' ∧ GS kAp m b39 (wi ws 0).c v42 z80 | _ => False)) (cs := [⟨0, 1, false, [(8, (.int .i64 x60))]⟩, ⟨0, 0, false, [(7, v42)]⟩, ⟨0, 0, false, [(8, (.int .i64 x60))]⟩, ⟨0, 0, false, []⟩, ⟨0, 0, false, [(7, v42)]⟩, ⟨0, 0, false, [(8, (.int .i64 x60))]⟩, ⟨0, 0, false, []⟩, ⟨0, 0, true, []⟩]) mixed hE hS ⟨rfl, rfl⟩ rfl rfl ⟨⟨rfl, trivial⟩, ⟨rfl, trivial⟩, ⟨rfl, trivial⟩, trivial, ⟨rfl, trivial⟩, ⟨rfl, trivial⟩, trivial, trivial, trivial⟩ (by kernel_rfl) ?_ ?_ ?_ ?_
 {
 intro i m_ m2_ ws v hm_ hp_
 match i, hp_ with
 | 0, hp_ => exact hp_
 | 1, hp_ => exact hp_
 | 2, hp_ => exact hp_
 | 3, hp_ => exact hp_
 | 4, hp_ => exact hp_
 | 5, hp_ => exact hp_
 | 6, hp_ => exact hp_
 | 7, hp_ => exact hp_
 | _ + 8, hp_ => exact trivial
 }
 {
 intro c m_ m2_ ws L_ T_ hm_ hq_
 match c, hq_ with
 | 0, ⟨e1_, e2_⟩ => exact ⟨e1_, e2_⟩
 | 1, ⟨e1_, e2_, f0_⟩ => exact ⟨e1_, e2_, (GS.mono f0_ hm_)⟩
 | _ + 2, hq_ => exact hq_.elim
 }
 {
 refine ⟨?_, ?_, ?_, ?_, ?_, ?_, ?_, ?_, trivial⟩
 {
 refine cplain fun pre_ post_ L_ T_ m' a' w' hl' hp' hm' hq' hS' hE' hT' => ?_
 obtain rfl := len0 hl'
 refine Step.imp (Run1.pure (r_move hE' rfl)) ?_
 rintro _ _ ⟨rfl, rfl⟩
 exact ⟨_, M.le.refl _, hS', ⟨rfl, hr61⟩⟩
 }
 {
 refine cplain fun pre_ post_ L_ T_ m' a' w' hl' hp' hm' hq' hS' hE' hT' => ?_
 obtain rfl := len0 hl'
 refine Step.imp (Run1.pure (r_move hE' rfl)) ?_
 rintro _ _ ⟨rfl, rfl⟩
 exact ⟨_, M.le.refl _, hS', rfl⟩
 }
 {
 refine cplain fun pre_ post_ L_ T_ m' a' w' hl' hp' hm' hq' hS' hE' hT' => ?_
 obtain rfl := len0 hl'
 refine Step.imp (Run1.pure (r_move hE' rfl)) ?_
 rintro _ _ ⟨rfl, rfl⟩
 exact ⟨_, M.le.refl _, hS', ⟨rfl, hr61⟩⟩
 }
 {
 refine cplain fun pre_ post_ L_ T_ m' a' w' hl' hp' hm' hq' hS' hE' hT' => ?_
 obtain rfl := len0 hl'
 obtain rfl := len0 (lenz (a := 0) hp')
 obtain ⟨rfl, rfl⟩ := hq'
 obtain ⟨v88, e89, q90⟩ : ∃ v, a'.tmps.getD 39 undef = v ∧ (v = v42) := ⟨_, rfl, hT' 1 (by decide) 39 rfl⟩
 have hE := hE'.add (e89.trans q90)
 obtain ⟨v91, e92, q93⟩ : ∃ v, a'.tmps.getD 40 undef = v ∧ (v = (.int .i64 x60) ∧ inR .i64 x60) := ⟨_, rfl, hT' 2 (by decide) 40 rfl⟩
 obtain ⟨q93, hr94⟩ := q93
 have hE := hE.add (e92.trans q93)
 refine Step.imp (st_viewG (k := kAp) hE rfl Tryz.underlying22 Tryz.sizeOf32 (hc64.mono hm') ⟨_, rfl⟩ rfl hq74 (sz := 4) rfl (xl := (some (.tmp 40))) (xh := none)) ?_
 rintro v95 _ ⟨rfl, hc72⟩
 exact ⟨_, M.le.refl _, hS', hc72⟩
 }
 {
 refine cplain fun pre_ post_ L_ T_ m' a' w' hl' hp' hm' hq' hS' hE' hT' => ?_
 obtain rfl := len0 hl'
 refine Step.imp (Run1.pure (r_move hE' rfl)) ?_
 rintro _ _ ⟨rfl, rfl⟩
 exact ⟨_, M.le.refl _, hS', rfl⟩
 }
 {
 refine cplain fun pre_ post_ L_ T_ m' a' w' hl' hp' hm' hq' hS' hE' hT' => ?_
 obtain rfl := len0 hl'
 refine Step.imp (Run1.pure (r_move hE' rfl)) ?_
 rintro _ _ ⟨rfl, rfl⟩
 exact ⟨_, M.le.refl _, hS', ⟨rfl, hr61⟩⟩
 }
 {
 refine cplain fun pre_ post_ L_ T_ m' a' w' hl' hp' hm' hq' hS' hE' hT' => ?_
 obtain rfl := len0 hl'
 obtain rfl := len0 (lenz (a := 0) hp')
 obtain ⟨rfl, rfl⟩ := hq'
 obtain ⟨v98, e99, q100⟩ : ∃ v, a'.tmps.getD 42 undef = v ∧ (v = v42) := ⟨_, rfl, hT' 4 (by decide) 42 rfl⟩
 have hE := hE'.add (e99.trans q100)
 obtain ⟨v101, e102, q103⟩ : ∃ v, a'.tmps.getD 43 undef = v ∧ (v = (.int .i64 x60) ∧ inR .i64 x60) := ⟨_, rfl, hT' 5 (by decide) 43 rfl⟩
 obtain ⟨q103, hr104⟩ := q103
 have hE := hE.add (e102.trans q103)
 refine Step.imp (st_viewG (k := kAp) hE rfl Tryz.underlying22 Tryz.sizeOf32 (hc64.mono hm') rfl ⟨_, rfl⟩ hq77 (sz := 4) rfl (xl := none) (xh := (some (.tmp 43)))) ?_
 rintro v105 _ ⟨rfl, hc75⟩
 exact ⟨_, M.le.refl _, hS', hc75⟩
 }
 {
 refine cturn fun pre_ L_ T_ m' a' w' hl' hm' hq' hS' hE' hT' => ?_
 obtain rfl := len0 hl'
 obtain ⟨rfl, rfl⟩ := hq'
 obtain ⟨v106, e107, q108⟩ : ∃ v, a'.tmps.getD 41 undef = v ∧ (VS b39 4 v q73.1 q73.2) := ⟨_, rfl, hT' 3 (by decide) 41 rfl⟩
 have hE := hE'.add (e107)
 obtain ⟨v109, e110, q111⟩ : ∃ v, a'.tmps.getD 44 undef = v ∧ (VS b39 4 v q76.1 q76.2) := ⟨_, rfl, hT' 6 (by decide) 44 rfl⟩
 have hE := hE.add (e110)
 refine Step.imp (st_copyVV (k := kAp) hE hS' rfl rfl Tryz.underlying22 Tryz.sizeOf32 (i := 0) rfl (hc64.mono hm') q108 q111 hz81) ?_
 rintro _ w ⟨rfl, cs78, hc79, hS⟩
 exact ⟨_, ⟨0, undef, cs78, [], []⟩, _, _, M.le.refl _, hS, ⟨rfl, rfl, hc79⟩, ⟨rfl, (inR_len (Nat.le_of_ble_eq_true (chk_some hu83)))⟩⟩
 }
 }
 {
 intro ws_ L_ T_ m112 a w hl113 hm114 hq115 hS hd116 hn117 ho118 hT119
 obtain ⟨⟨_, _, cs78, _, _⟩, rfl⟩ := len1 hl113
 obtain ⟨rfl, rfl, hc120⟩ := hq115
 have hE := EnvD.of (k := 8) (l' := [(7, v42), (8, (.int .i64 x60)), (34, (.int .i64 x60)), (35, v42), (36, (.int .i64 (x62.length : Int))), (37, (.bool (decide (x60 < (x62.length : Int)))))]) hd116 hn117 ho118 ⟨rfl, rfl, rfl, rfl, rfl, rfl, trivial⟩ rfl
 obtain ⟨v121, e122, q123⟩ : ∃ v, a.tmps.getD 38 undef = v ∧ (v = (.int .i64 x60) ∧ inR .i64 x60) := ⟨_, rfl, hT119 0 (by decide) 38 rfl⟩
 obtain ⟨q123, hr124⟩ := q123
 have hE := hE.add (e122.trans q123)
 obtain ⟨v125, e126, q127⟩ : ∃ v, a.tmps.getD 45 undef = v ∧ (v = (.int .i64 ((min q76.2 q73.2 : Nat) : Int)) ∧ inR .i64 ((min q76.2 q73.2 : Nat) : Int)) := ⟨_, rfl, hT119 7 (by decide) 45 rfl⟩
 obtain ⟨q127, hr128⟩ := q127
 have hE := hE.add (e126.trans q127)
 refine sp hE (r_bin hE rfl rfl (b_add rfl)) rfl fun a hE => ?_
 refine qa hE rfl rfl fun a hE => ?_
 refine knil ?_
 exact ⟨(IntKind.i64.wrap (x60 + ((min q76.2 q73.2 : Nat) : Int)), z80), (Option.some.inj h).symm, _, (M.le.trans hm59 hm114), cs78, (inR_wrap _ _), hc120, hS, hE.cut ⟨rfl, rfl, trivial⟩⟩
 }
 }
 {
 have h := ite_F hd71 h
 obtain ⟨m131, hm132, hS, hv133⟩ := S.freeze hS hc64
 refine kexit rfl rfl ?_
 have h := unwrap h hb66
 exact ⟨x62, h, _, (M.le.trans hm59 hm132), v42, hv133, hS, hE.cut ⟨rfl, trivial⟩⟩
 }
 }
 }
 {
 rintro a w ⟨x52, h, m50, hm51, v53, hv54, hS, hE⟩
 unfold slices_Repeat_Value_j4 at h
 refine kseq (kreg ?_)
 refine qm hE rfl rfl fun a hE => ?_
 refine qa hE rfl rfl fun a hE => ?_
 refine knil (kret ?_)
 obtain rfl := oi h
 try dsimp only
 refine Fin.mk hE (rs := [.tmp 4]) rfl (ResL.tmp hE rfl ResL.nil) ?_
 exact ⟨_, (M.le.trans hm5 (M.le.trans hm15 (M.le.trans hm29 (M.le.trans hm33 hm51)))), hS, hv54⟩
 }
 }
 }
 }
theorem ct_166 : Ctr Sz Tryz.prog 166 [.rd (.sl (.st 32)), .rd (.int .i64)] [.rd (.sl (.st 32))] (fun x => slices_Repeat_Value x.1 x.2.1) := by
 intro W0 m w L TL vs x r Lp Tp hS hP h
 obtain ⟨v0, vs, rfl, a0, hP0⟩ := PR_rd hP
 obtain ⟨v1, vs, rfl, a1, hP1⟩ := PR_rd hP0
 obtain ⟨rfl, n1⟩ := RV_int a1
 obtain ⟨rfl, rfl, rfl⟩ := PR_nil hP1
 refine (c_slices_Repeat_Value (hS := hS) a0 n1 h).mono ?_
 intro e w' he
 cases e with
 | returned v =>
  obtain ⟨m', hm, hS', r0⟩ := he
  exact ⟨m', [v], [], [], [], hm, hS', rfl, ⟨r0, trivial⟩, trivial⟩
 | panicked ch => exact he.elim
 | outgrown => exact he.elim
noncomputable def cs_166 : CS Tryz.prog Sz := ⟨166, _, _, _, ct_166, Tryz.call166⟩
theorem ct_167 : Ctr Sz Tryz.prog 167 [.pt (.st 161)] [.rd (.int .u64)] (fun x => encode_reader_number x.1) :=
 Ctr.nc (Γ := Γ) (D := [cs_165]) (c := Tryz.f167.body.getD .skip) (res := [2]) (.s .o (.s .o (.s (.s .o (.b (.l ⟨[.v 3 1 (.dat (.int .u64) none), .v 9 1 (.dat (.int .i64) none)], [7, 8], 1, []⟩ .o))) .o))) rfl mixed Tryz.func167 rfl Tryz.ntmps167 rfl rfl (fun x => by kernel_rfl)
noncomputable def cs_167 : CS Tryz.prog Sz := ⟨167, _, _, _, ct_167, Tryz.call167⟩
theorem ct_168 : Ctr Sz Tryz.prog 168 [.pt (.st 161)] [.rd (.int .u64)] (fun x => encode_reader_short x.1) :=
 Ctr.nc (Γ := Γ) (D := [cs_165]) (c := Tryz.f168.body.getD .skip) (res := [2]) (.s .o (.s .o (.s (.s .o (.b (.l ⟨[.v 3 1 (.dat (.int .u64) none), .v 4 1 (.dat (.int .i64) none), .b 0 1 (.st 161)], [0], 1, []⟩ .o))) .o))) rfl mixed Tryz.func168 rfl Tryz.ntmps168 rfl rfl (fun x => by kernel_rfl)
noncomputable def cs_168 : CS Tryz.prog Sz := ⟨168, _, _, _, ct_168, Tryz.call168⟩
theorem c_encode_reader_unpacked {W0 : Bse} {m : M} {w : World} {L : List (Nat × List Value)} {TL : List (Nat × Value)} {b0_ : Nat} {c0_ : List Value} (hS : S W0 m w ((b0_, c0_) :: L) (TL)) {p0 : Encode_reader} (ha0 : kEncode_reader.R m c0_ p0) {p1 : Int} (ha1 : inR .i64 p1) {p2 : Int} (ha2 : inR .i64 p2) {r : ((List Int) × Encode_reader)} (h : encode_reader_unpacked p0 p1 p2 = some r) :
    Calls Tryz.prog 169 [(.pointer (some ⟨b0_, 0, none⟩)), (.int .i64 p1), (.int .i64 p2)].toArray w (Ret fun v w' => ∃ m', M.le m m' ∧ ∃ q0_ : List Value, S W0 m' w' ((b0_, q0_) :: L) (TL) ∧ kEncode_reader.R m' q0_ r.2 ∧ RV (kSl (kInt .u64)) m' v r.1) := by
 refine kcall Tryz.func169 rfl Tryz.ntmps169 (Nat.le_of_ble_eq_true rfl) fun a hE => ?_
 have hE : Env 63 a [(0, (.pointer (some ⟨b0_, 0, none⟩))), (1, (.int .i64 p1)), (2, (.int .i64 p2))] := hE
 unfold encode_reader_unpacked at h
 refine kseq (kreg ?_)
 refine qa hE rfl rfl fun a hE => ?_
 refine knil (kseq (kseq (kreg ?_)))
 refine qm hE rfl rfl fun a hE => ?_
 refine sp hE (r_bin hE rfl rfl b_gtr) rfl fun a hE => ?_
 refine knil ?_
 refine kif hE rfl (fun hd4 => ?_) (fun hd4 => ?_)
 {
 have h := ite_T hd4 h
 refine kseq (kreg ?_)
 refine qm hE rfl rfl fun a hE => ?_
 refine sp hE (r_nilCheck hE rfl) rfl fun a hE => ?_
 refine sp hE (r_fieldL hE fo161_1 rfl) rfl fun a hE => ?_
 refine st0 hE (st_storeF hE hS ty4 sf161_1 rfl rfl RV_of_bool (i := 0) rfl ha0) ?_
 rintro _ w ⟨cs8, hc9, hS⟩ hE
 refine knil (kseq (kreg ?_))
 refine qm hE rfl rfl fun a hE => ?_
 obtain ⟨z12, hz13, h⟩ := ob h
 refine st hE (st_makeG (k := (kInt .u64)) (m := m) hE hS rfl rfl Tryz.underlying189 Tryz.type54 rfl rfl rfl (fun m => zr54 m) hz13 rfl rfl) rfl ?_
 rintro v17 a w ⟨b14, cs15, hc16, hS⟩ hE
 refine qa hE rfl rfl fun a hE => ?_
 refine knil ?_
 obtain ⟨m19, hm20, hS, hv21⟩ := S.freeze hS hc16
 refine kret ?_
 obtain rfl := oi h
 try dsimp only
 refine Fin.mk hE (rs := [.tmp 6]) rfl (ResL.tmp hE rfl ResL.nil) ?_
 exact ⟨_, hm20, cs8, hS, (kEncode_reader.mono hm20 hc9), hv21⟩
 }
 {
 have h := ite_F hd4 h
 refine kskip (kseq (kreg ?_))
 refine qm hE rfl rfl fun a hE => ?_
 refine qm hE rfl rfl fun a hE => ?_
 refine qm hE rfl rfl fun a hE => ?_
 refine sp hE (r_bin hE rfl rfl (b_mul rfl)) rfl fun a hE => ?_
 refine sp hE (r_bin hE rfl rfl (b_add rfl)) rfl fun a hE => ?_
 refine sp hE (r_bin hE rfl rfl (b_quo rfl (by decide))) rfl fun a hE => ?_
 obtain ⟨r28, hr29, h⟩ := ob h
 refine st hE (st_call (vs := [(.pointer (some ⟨b0_, 0, none⟩)), (.int .i64 (IntKind.i64.wrap ((IntKind.i64.wrap ((IntKind.i64.wrap (p1 * p2)) + 7)).tdiv 8)))]) hE rfl Tryz.call165 (c_encode_reader_take (hS := hS) ha0 (inR_wrap _ _) hr29)) rfl ?_
 rintro v35 a w ⟨m30, hm31, c0_32, hS, hc0_33, hv34⟩ hE
 refine qa hE rfl rfl fun a hE => ?_
 refine knil (kseq (kreg ?_))
 refine qm hE rfl rfl fun a hE => ?_
 obtain ⟨z38, hz39, h⟩ := ob h
 refine st hE (st_makeG (k := (kInt .u64)) (m := m30) hE hS rfl rfl Tryz.underlying189 Tryz.type54 rfl rfl rfl (fun m => zr54 m) hz39 rfl rfl) rfl ?_
 rintro v43 a w ⟨b40, cs41, hc42, hS⟩ hE
 refine qa hE rfl rfl fun a hE => ?_
 refine knil (kseq (kseq (kreg ?_)))
 refine qm hE rfl rfl fun a hE => ?_
 refine sp hE (r_lenG (k := (kInt .u64)) hE rfl rfl Tryz.underlying189 hc42) rfl fun a hE => ?_
 refine qm hE rfl rfl fun a hE => ?_
 refine knil ?_
 refine kcut (fun a w => ∃ x50 : (List Int), encode_reader_unpacked_j1 r28 x50 = some r ∧ ∃ m', M.le m30 m' ∧ ∃ (v51 : Value), RV (kSl (kInt .u64)) m' v51 x50 ∧ S W0 m' w ((b0_, c0_32) :: L) (TL) ∧ Env 63 a [(8, v51)]) ?_ ?_
 {
 refine kblock ?_
 refine kloop h (fun (s : (Int × (List Int))) a w => ∃ m', M.le m30 m' ∧ ∃ (cs61 : List Value), inR .i64 s.1 ∧ GS (kInt .u64) m' b40 cs61 v43 s.2 ∧ S W0 m' w ((b40, cs61) :: (b0_, c0_32) :: L) (TL) ∧ Env 63 a [(2, (.int .i64 p2)), (7, v35), (8, v43), (29, (.int .i64 (z38.length : Int))), (30, (.int .i64 s.1))]) ?_ ?_
 {
 exact ⟨_, (M.le.refl _), cs41, (show inR .i64 0 from inR_lit (by decide)), hc42, hS, hE.cut ⟨rfl, rfl, rfl, rfl, rfl, trivial⟩⟩
 }
 {
 rintro ⟨x58, x60⟩ a w ⟨m56, hm57, cs61, hr59, hc62, hS, hE⟩ r63 h hb64
 have h : encode_reader_unpacked_b1 p2 r28 z38 x58 x60 = some r63 := h
 unfold encode_reader_unpacked_b1 at h
 refine kseq (kreg ?_)
 refine sp hE (r_bin hE rfl rfl b_lss) rfl fun a hE => ?_
 refine knil (kseq ?_)
 refine kif hE rfl (fun hd66 => ?_) (fun hd66 => ?_)
 {
 have h := ite_T hd66 h
 refine kskip (kseq ?_)
 refine kcut (fun a w => ∃ x69 : (List Int), encode_reader_unpacked_j2 x58 x69 = some r63 ∧ ∃ m', M.le m56 m' ∧ ∃ (cs70 : List Value), GS (kInt .u64) m' b40 cs70 v43 x69 ∧ S W0 m' w ((b40, cs70) :: (b0_, c0_32) :: L) (TL) ∧ Env 63 a [(2, (.int .i64 p2)), (7, v35), (8, v43), (29, (.int .i64 (z38.length : Int))), (30, (.int .i64 x58))]) ?_ ?_
 {
 refine kblock (kseq (kreg ?_))
 refine qm hE rfl rfl fun a hE => ?_
 refine qa hE rfl rfl fun a hE => ?_
 refine knil (kseq (kreg ?_))
 refine qm hE rfl rfl fun a hE => ?_
 refine qm hE rfl rfl fun a hE => ?_
 refine knil (kblock ?_)
 refine kloop h (fun (s : (Int × (List Int))) a w => ∃ m', M.le m56 m' ∧ ∃ (cs84 : List Value), inR .i64 s.1 ∧ GS (kInt .u64) m' b40 cs84 v43 s.2 ∧ S W0 m' w ((b40, cs84) :: (b0_, c0_32) :: L) (TL) ∧ Env 63 a [(2, (.int .i64 p2)), (7, v35), (8, v43), (9, (.int .i64 x58)), (29, (.int .i64 (z38.length : Int))), (30, (.int .i64 x58)), (33, (.int .i64 p2)), (34, (.int .i64 s.1))]) ?_ ?_
 {
 exact ⟨_, (M.le.refl _), cs61, (show inR .i64 0 from inR_lit (by decide)), hc62, hS, hE.cut ⟨rfl, rfl, rfl, rfl, rfl, rfl, rfl, rfl, trivial⟩⟩
 }
 {
 rintro ⟨x81, x83⟩ a w ⟨m79, hm80, cs84, hr82, hc85, hS, hE⟩ r86 h hb87
 have h : encode_reader_unpacked_b2 p2 r28 x58 x81 x83 = some r86 := h
 unfold encode_reader_unpacked_b2 at h
 refine kseq (kreg ?_)
 refine sp hE (r_bin hE rfl rfl b_lss) rfl fun a hE => ?_
 refine knil (kseq ?_)
 refine kif hE rfl (fun hd89 => ?_) (fun hd89 => ?_)
 {
 have h := ite_T hd89 h
 refine kskip (kseq (kblock (kseq (kreg ?_))))
 refine qm hE rfl rfl fun a hE => ?_
 refine qa hE rfl rfl fun a hE => ?_
 refine knil (kseq (kreg ?_))
 refine qm hE rfl rfl fun a hE => ?_
 refine qm hE rfl rfl fun a hE => ?_
 refine sp hE (r_bin hE rfl rfl (b_mul rfl)) rfl fun a hE => ?_
 refine qm hE rfl rfl fun a hE => ?_
 refine sp hE (r_bin hE rfl rfl (b_add rfl)) rfl fun a hE => ?_
 refine qa hE rfl rfl fun a hE => ?_
 refine knil ?_
 obtain ⟨j98, hj99, h⟩ := ob h
 obtain ⟨x101, hx102, h⟩ := ob h
 obtain ⟨x104, hx105, h⟩ := ob h
 obtain ⟨u109, hu110, h⟩ := ob h
 obtain ⟨u111, hu112, h⟩ := ob h
 refine kchain (k := 16) (m := m79) (es := []) (Φ := (fun i m ws v => match i with | 0 => v = v43 | 1 => v = (.int .i64 x58) ∧ inR .i64 x58 | 2 => v = (.pointer (some ⟨b40, j98 * 1, none⟩)) | 3 => v = (.int .u64 x101) ∧ inR .u64 x101 | 4 => v = v35 | 5 => v = (.int .i64 (IntKind.i64.wrap ((IntKind.i64.wrap (x58 * p2)) + x81))) ∧ inR .i64 (IntKind.i64.wrap ((IntKind.i64.wrap (x58 * p2)) + x81)) | 6 => v = (.int .i64 (IntKind.i64.wrap ((IntKind.i64.wrap ((IntKind.i64.wrap (x58 * p2)) + x81)).tdiv 8))) ∧ inR .i64 (IntKind.i64.wrap ((IntKind.i64.wrap ((IntKind.i64.wrap (x58 * p2)) + x81)).tdiv 8)) | 7 => PR (kInt .u8) m v x104 | 8 => v = (.int .u8 x104) ∧ inR .u8 x104 | 9 => v = (.int .i64 (IntKind.i64.wrap ((IntKind.i64.wrap (x58 * p2)) + x81))) ∧ inR .i64 (IntKind.i64.wrap ((IntKind.i64.wrap (x58 * p2)) + x81)) | 10 => v = (.int .i64 ((IntKind.i64.wrap ((IntKind.i64.wrap (x58 * p2)) + x81)).tmod 8)) ∧ inR .i64 ((IntKind.i64.wrap ((IntKind.i64.wrap (x58 * p2)) + x81)).tmod 8) | 11 => v = (.int .u8 (iShr .u8 x104 ((IntKind.i64.wrap ((IntKind.i64.wrap (x58 * p2)) + x81)).tmod 8))) ∧ inR .u8 (iShr .u8 x104 ((IntKind.i64.wrap ((IntKind.i64.wrap (x58 * p2)) + x81)).tmod 8)) | 12 => v = (.int .u8 (bAnd .u8 (iShr .u8 x104 ((IntKind.i64.wrap ((IntKind.i64.wrap (x58 * p2)) + x81)).tmod 8)) 1)) ∧ inR .u8 (bAnd .u8 (iShr .u8 x104 ((IntKind.i64.wrap ((IntKind.i64.wrap (x58 * p2)) + x81)).tmod 8)) 1) | 13 => v = (.int .u64 (IntKind.u64.wrap (bAnd .u8 (iShr .u8 x104 ((IntKind.i64.wrap ((IntKind.i64.wrap (x58 * p2)) + x81)).tmod 8)) 1))) ∧ inR .u64 (IntKind.u64.wrap (bAnd .u8 (iShr .u8 x104 ((IntKind.i64.wrap ((IntKind.i64.wrap (x58 * p2)) + x81)).tmod 8)) 1)) | 14 => v = (.int .i64 x81) ∧ inR .i64 x81 | 15 => v = (.int .u64 (iShl .u64 (IntKind.u64.wrap (bAnd .u8 (iShr .u8 x104 ((IntKind.i64.wrap ((IntKind.i64.wrap (x58 * p2)) + x81)).tmod 8)) 1)) x81)) ∧ inR .u64 (iShl .u64 (IntKind.u64.wrap (bAnd .u8 (iShr .u8 x104 ((IntKind.i64.wrap ((IntKind.i64.wrap (x58 * p2)) + x81)).tmod 8)) 1)) x81) | _ => True)) (Q := (fun c m ws L' TL' => match c with | 0 => (b40, cs84) :: (b0_, c0_32) :: L = L' ∧ TL = TL' | _ => False)) (cs := [⟨0, 0, false, [(8, v43)]⟩, ⟨0, 0, false, [(9, (.int .i64 x58))]⟩, ⟨0, 0, false, []⟩, ⟨0, 0, false, []⟩, ⟨0, 0, false, [(7, v35)]⟩, ⟨0, 0, false, [(11, (.int .i64 (IntKind.i64.wrap ((IntKind.i64.wrap (x58 * p2)) + x81))))]⟩, ⟨0, 0, false, []⟩, ⟨0, 0, false, []⟩, ⟨0, 0, false, []⟩, ⟨0, 0, false, [(11, (.int .i64 (IntKind.i64.wrap ((IntKind.i64.wrap (x58 * p2)) + x81))))]⟩, ⟨0, 0, false, []⟩, ⟨0, 0, false, []⟩, ⟨0, 0, false, []⟩, ⟨0, 0, false, []⟩, ⟨0, 0, false, [(10, (.int .i64 x81))]⟩, ⟨0, 0, false, []⟩]) mixed hE hS ⟨rfl, rfl⟩ rfl rfl ⟨⟨rfl, trivial⟩, ⟨rfl, trivial⟩, trivial, trivial, ⟨rfl, trivial⟩, ⟨rfl, trivial⟩, trivial, trivial, trivial, ⟨rfl, trivial⟩, trivial, trivial, trivial, trivial, ⟨rfl, trivial⟩, trivial, trivial⟩ (by kernel_rfl) ?_ ?_ ?_ ?_
 {
 intro i m_ m2_ ws v hm_ hp_
 match i, hp_ with
 | 0, hp_ => exact hp_
 | 1, hp_ => exact hp_
 | 2, hp_ => exact hp_
 | 3, hp_ => exact hp_
 | 4, hp_ => exact hp_
 | 5, hp_ => exact hp_
 | 6, hp_ => exact hp_
 | 7, hp_ => exact PR.mono hp_ hm_
 | 8, hp_ => exact hp_
 | 9, hp_ => exact hp_
 | 10, hp_ => exact hp_
 | 11, hp_ => exact hp_
 | 12, hp_ => exact hp_
 | 13, hp_ => exact hp_
 | 14, hp_ => exact hp_
 | 15, hp_ => exact hp_
 | _ + 16, hp_ => exact trivial
 }
 {
 intro c m_ m2_ ws L_ T_ hm_ hq_
 match c, hq_ with
 | 0, ⟨e1_, e2_⟩ => exact ⟨e1_, e2_⟩
 | _ + 1, hq_ => exact hq_.elim
 }
 {
 refine ⟨?_, ?_, ?_, ?_, ?_, ?_, ?_, ?_, ?_, ?_, ?_, ?_, ?_, ?_, ?_, ?_, trivial⟩
 {
 refine cplain fun pre_ post_ L_ T_ m' a' w' hl' hp' hm' hq' hS' hE' hT' => ?_
 obtain rfl := len0 hl'
 refine Step.imp (Run1.pure (r_move hE' rfl)) ?_
 rintro _ _ ⟨rfl, rfl⟩
 exact ⟨_, M.le.refl _, hS', rfl⟩
 }
 {
 refine cplain fun pre_ post_ L_ T_ m' a' w' hl' hp' hm' hq' hS' hE' hT' => ?_
 obtain rfl := len0 hl'
 refine Step.imp (Run1.pure (r_move hE' rfl)) ?_
 rintro _ _ ⟨rfl, rfl⟩
 exact ⟨_, M.le.refl _, hS', ⟨rfl, hr59⟩⟩
 }
 {
 refine cplain fun pre_ post_ L_ T_ m' a' w' hl' hp' hm' hq' hS' hE' hT' => ?_
 obtain rfl := len0 hl'
 obtain rfl := len0 (lenz (a := 0) hp')
 obtain ⟨rfl, rfl⟩ := hq'
 obtain ⟨v115, e116, q117⟩ : ∃ v, a'.tmps.getD 42 undef = v ∧ (v = v43) := ⟨_, rfl, hT' 0 (by decide) 42 rfl⟩
 have hE := hE'.add (e116.trans q117)
 obtain ⟨v118, e119, q120⟩ : ∃ v, a'.tmps.getD 43 undef = v ∧ (v = (.int .i64 x58) ∧ inR .i64 x58) := ⟨_, rfl, hT' 1 (by decide) 43 rfl⟩
 obtain ⟨q120, hr121⟩ := q120
 have hE := hE.add (e119.trans q120)
 refine Step.imp (Run1.pure (r_indexG (k := (kInt .u64)) hE rfl rfl Tryz.underlying189 Tryz.sizeOf54 (hc85.mono hm') hj99 rfl)) ?_
 rintro _ _ ⟨rfl, rfl⟩
 exact ⟨_, M.le.refl _, hS', rfl⟩
 }
 {
 refine cplain fun pre_ post_ L_ T_ m' a' w' hl' hp' hm' hq' hS' hE' hT' => ?_
 obtain rfl := len0 hl'
 obtain rfl := len0 (lenz (a := 0) hp')
 obtain ⟨rfl, rfl⟩ := hq'
 obtain ⟨v123, e124, q125⟩ : ∃ v, a'.tmps.getD 44 undef = v ∧ (v = (.pointer (some ⟨b40, j98 * 1, none⟩))) := ⟨_, rfl, hT' 2 (by decide) 44 rfl⟩
 have hE := hE'.add (e124.trans q125)
 refine Step.imp (st_loadL hE hS' ty54 rfl (i := 0) rfl (GS.elem (hc85.mono hm') hx102)) ?_
 rintro v126 _ ⟨rfl, hv100⟩
 obtain ⟨rfl, hr127⟩ := RV_int hv100
 exact ⟨_, M.le.refl _, hS', ⟨rfl, hr127⟩⟩
 }
 {
 refine cplain fun pre_ post_ L_ T_ m' a' w' hl' hp' hm' hq' hS' hE' hT' => ?_
 obtain rfl := len0 hl'
 refine Step.imp (Run1.pure (r_move hE' rfl)) ?_
 rintro _ _ ⟨rfl, rfl⟩
 exact ⟨_, M.le.refl _, hS', rfl⟩
 }
 {
 refine cplain fun pre_ post_ L_ T_ m' a' w' hl' hp' hm' hq' hS' hE' hT' => ?_
 obtain rfl := len0 hl'
 refine Step.imp (Run1.pure (r_move hE' rfl)) ?_
 rintro _ _ ⟨rfl, rfl⟩
 exact ⟨_, M.le.refl _, hS', ⟨rfl, (inR_wrap _ _)⟩⟩
 }
 {
 refine cplain fun pre_ post_ L_ T_ m' a' w' hl' hp' hm' hq' hS' hE' hT' => ?_
 obtain rfl := len0 hl'
 obtain ⟨v130, e131, q132⟩ : ∃ v, a'.tmps.getD 47 undef = v ∧ (v = (.int .i64 (IntKind.i64.wrap ((IntKind.i64.wrap (x58 * p2)) + x81))) ∧ inR .i64 (IntKind.i64.wrap ((IntKind.i64.wrap (x58 * p2)) + x81))) := ⟨_, rfl, hT' 5 (by decide) 47 rfl⟩
 obtain ⟨q132, hr133⟩ := q132
 have hE := hE'.add (e131.trans q132)
 refine Step.imp (Run1.pure (r_bin hE rfl rfl (b_quo rfl (by decide)))) ?_
 rintro _ _ ⟨rfl, rfl⟩
 exact ⟨_, M.le.refl _, hS', ⟨rfl, (inR_wrap _ _)⟩⟩
 }
 {
 refine cplain fun pre_ post_ L_ T_ m' a' w' hl' hp' hm' hq' hS' hE' hT' => ?_
 obtain rfl := len0 hl'
 obtain ⟨v135, e136, q137⟩ : ∃ v, a'.tmps.getD 46 undef = v ∧ (v = v35) := ⟨_, rfl, hT' 4 (by decide) 46 rfl⟩
 have hE := hE'.add (e136.trans q137)
 obtain ⟨v138, e139, q140⟩ : ∃ v, a'.tmps.getD 48 undef = v ∧ (v = (.int .i64 (IntKind.i64.wrap ((IntKind.i64.wrap ((IntKind.i64.wrap (x58 * p2)) + x81)).tdiv 8))) ∧ inR .i64 (IntKind.i64.wrap ((IntKind.i64.wrap ((IntKind.i64.wrap (x58 * p2)) + x81)).tdiv 8))) := ⟨_, rfl, hT' 6 (by decide) 48 rfl⟩
 obtain ⟨q140, hr141⟩ := q140
 have hE := hE.add (e139.trans q140)
 refine Step.imp (st_index (k := (kInt .u8)) hE rfl rfl Tryz.underlying24 Tryz.sizeOf5 (hv34.mono (M.le.trans hm57 (M.le.trans hm80 hm'))) hx105) ?_
 rintro v142 _ ⟨rfl, hp106⟩
 exact ⟨_, M.le.refl _, hS', hp106⟩
 }
 {
 refine cplain fun pre_ post_ L_ T_ m' a' w' hl' hp' hm' hq' hS' hE' hT' => ?_
 obtain rfl := len0 hl'
 obtain ⟨v143, e144, q145⟩ : ∃ v, a'.tmps.getD 49 undef = v ∧ (PR (kInt .u8) m' v x104) := ⟨_, rfl, hT' 7 (by decide) 49 rfl⟩
 have hE := hE'.add (e144)
 refine Step.imp (st_loadM hE hS' ty5 rfl q145) ?_
 rintro v146 _ ⟨rfl, hv107⟩
 obtain ⟨rfl, hr147⟩ := RV_int hv107
 exact ⟨_, M.le.refl _, hS', ⟨rfl, hr147⟩⟩
 }
 {
 refine cplain fun pre_ post_ L_ T_ m' a' w' hl' hp' hm' hq' hS' hE' hT' => ?_
 obtain rfl := len0 hl'
 refine Step.imp (Run1.pure (r_move hE' rfl)) ?_
 rintro _ _ ⟨rfl, rfl⟩
 exact ⟨_, M.le.refl _, hS', ⟨rfl, (inR_wrap _ _)⟩⟩
 }
 {
 refine cplain fun pre_ post_ L_ T_ m' a' w' hl' hp' hm' hq' hS' hE' hT' => ?_
 obtain rfl := len0 hl'
 obtain ⟨v149, e150, q151⟩ : ∃ v, a'.tmps.getD 51 undef = v ∧ (v = (.int .i64 (IntKind.i64.wrap ((IntKind.i64.wrap (x58 * p2)) + x81))) ∧ inR .i64 (IntKind.i64.wrap ((IntKind.i64.wrap (x58 * p2)) + x81))) := ⟨_, rfl, hT' 9 (by decide) 51 rfl⟩
 obtain ⟨q151, hr152⟩ := q151
 have hE := hE'.add (e150.trans q151)
 refine Step.imp (Run1.pure (r_bin hE rfl rfl (b_rem rfl (by decide)))) ?_
 rintro _ _ ⟨rfl, rfl⟩
 exact ⟨_, M.le.refl _, hS', ⟨rfl, (inR_mod hr152)⟩⟩
 }
 {
 refine cplain fun pre_ post_ L_ T_ m' a' w' hl' hp' hm' hq' hS' hE' hT' => ?_
 obtain rfl := len0 hl'
 obtain ⟨v154, e155, q156⟩ : ∃ v, a'.tmps.getD 50 undef = v ∧ (v = (.int .u8 x104) ∧ inR .u8 x104) := ⟨_, rfl, hT' 8 (by decide) 50 rfl⟩
 obtain ⟨q156, hr157⟩ := q156
 have hE := hE'.add (e155.trans q156)
 obtain ⟨v158, e159, q160⟩ : ∃ v, a'.tmps.getD 52 undef = v ∧ (v = (.int .i64 ((IntKind.i64.wrap ((IntKind.i64.wrap (x58 * p2)) + x81)).tmod 8)) ∧ inR .i64 ((IntKind.i64.wrap ((IntKind.i64.wrap (x58 * p2)) + x81)).tmod 8)) := ⟨_, rfl, hT' 10 (by decide) 52 rfl⟩
 obtain ⟨q160, hr161⟩ := q160
 have hE := hE.add (e159.trans q160)
 refine Step.imp (Run1.pure (r_bin hE rfl rfl (b_shr rfl (of_decide_eq_true (chk_some hu110))))) ?_
 rintro _ _ ⟨rfl, rfl⟩
 exact ⟨_, M.le.refl _, hS', ⟨rfl, (inR_shr hr157 _)⟩⟩
 }
 {
 refine cplain fun pre_ post_ L_ T_ m' a' w' hl' hp' hm' hq' hS' hE' hT' => ?_
 obtain rfl := len0 hl'
 obtain ⟨v163, e164, q165⟩ : ∃ v, a'.tmps.getD 53 undef = v ∧ (v = (.int .u8 (iShr .u8 x104 ((IntKind.i64.wrap ((IntKind.i64.wrap (x58 * p2)) + x81)).tmod 8))) ∧ inR .u8 (iShr .u8 x104 ((IntKind.i64.wrap ((IntKind.i64.wrap (x58 * p2)) + x81)).tmod 8))) := ⟨_, rfl, hT' 11 (by decide) 53 rfl⟩
 obtain ⟨q165, hr166⟩ := q165
 have hE := hE'.add (e164.trans q165)
 refine Step.imp (Run1.pure (r_bin hE rfl rfl (b_and rfl))) ?_
 rintro _ _ ⟨rfl, rfl⟩
 exact ⟨_, M.le.refl _, hS', ⟨rfl, (inR_and _ _ _)⟩⟩
 }
 {
 refine cplain fun pre_ post_ L_ T_ m' a' w' hl' hp' hm' hq' hS' hE' hT' => ?_
 obtain rfl := len0 hl'
 obtain ⟨v168, e169, q170⟩ : ∃ v, a'.tmps.getD 54 undef = v ∧ (v = (.int .u8 (bAnd .u8 (iShr .u8 x104 ((IntKind.i64.wrap ((IntKind.i64.wrap (x58 * p2)) + x81)).tmod 8)) 1)) ∧ inR .u8 (bAnd .u8 (iShr .u8 x104 ((IntKind.i64.wrap ((IntKind.i64.wrap (x58 * p2)) + x81)).tmod 8)) 1)) := ⟨_, rfl, hT' 12 (by decide) 54 rfl⟩
 obtain ⟨q170, hr171⟩ := q170
 have hE := hE'.add (e169.trans q170)
 refine Step.imp (Run1.pure (r_conv hE rfl Tryz.underlying5 Tryz.underlying54 rfl)) ?_
 rintro _ _ ⟨rfl, rfl⟩
 exact ⟨_, M.le.refl _, hS', ⟨rfl, (inR_wrap _ _)⟩⟩
 }
 {
 refine cplain fun pre_ post_ L_ T_ m' a' w' hl' hp' hm' hq' hS' hE' hT' => ?_
 obtain rfl := len0 hl'
 refine Step.imp (Run1.pure (r_move hE' rfl)) ?_
 rintro _ _ ⟨rfl, rfl⟩
 exact ⟨_, M.le.refl _, hS', ⟨rfl, hr82⟩⟩
 }
 {
 refine cplain fun pre_ post_ L_ T_ m' a' w' hl' hp' hm' hq' hS' hE' hT' => ?_
 obtain rfl := len0 hl'
 obtain ⟨v174, e175, q176⟩ : ∃ v, a'.tmps.getD 55 undef = v ∧ (v = (.int .u64 (IntKind.u64.wrap (bAnd .u8 (iShr .u8 x104 ((IntKind.i64.wrap ((IntKind.i64.wrap (x58 * p2)) + x81)).tmod 8)) 1))) ∧ inR .u64 (IntKind.u64.wrap (bAnd .u8 (iShr .u8 x104 ((IntKind.i64.wrap ((IntKind.i64.wrap (x58 * p2)) + x81)).tmod 8)) 1))) := ⟨_, rfl, hT' 13 (by decide) 55 rfl⟩
 obtain ⟨q176, hr177⟩ := q176
 have hE := hE'.add (e175.trans q176)
 obtain ⟨v178, e179, q180⟩ : ∃ v, a'.tmps.getD 56 undef = v ∧ (v = (.int .i64 x81) ∧ inR .i64 x81) := ⟨_, rfl, hT' 14 (by decide) 56 rfl⟩
 obtain ⟨q180, hr181⟩ := q180
 have hE := hE.add (e179.trans q180)
 refine Step.imp (Run1.pure (r_bin hE rfl rfl (b_shl rfl (of_decide_eq_true (chk_some hu112))))) ?_
 rintro _ _ ⟨rfl, rfl⟩
 exact ⟨_, M.le.refl _, hS', ⟨rfl, (inR_shl _ _ _)⟩⟩
 }
 }
 {
 intro ws_ L_ T_ m183 a w hl184 hm185 hq186 hS hd187 hn188 ho189 hT190
 obtain rfl := len0 hl184
 obtain ⟨rfl, rfl⟩ := hq186
 have hE := EnvD.of (k := 16) (l' := [(2, (.int .i64 p2)), (7, v35), (8, v43), (9, (.int .i64 x58)), (10, (.int .i64 x81)), (11, (.int .i64 (IntKind.i64.wrap ((IntKind.i64.wrap (x58 * p2)) + x81)))), (29, (.int .i64 (z38.length : Int))), (30, (.int .i64 x58)), (33, (.int .i64 p2)), (34, (.int .i64 x81)), (35, (.bool (decide (x81 < p2)))), (36, (.int .i64 x81)), (37, (.int .i64 x58)), (38, (.int .i64 p2)), (39, (.int .i64 (IntKind.i64.wrap (x58 * p2)))), (40, (.int .i64 x81)), (41, (.int .i64 (IntKind.i64.wrap ((IntKind.i64.wrap (x58 * p2)) + x81))))]) hd187 hn188 ho189 ⟨rfl, rfl, rfl, rfl, rfl, rfl, rfl, rfl, rfl, rfl, rfl, rfl, rfl, rfl, rfl, rfl, rfl, trivial⟩ rfl
 obtain ⟨v191, e192, q193⟩ : ∃ v, a.tmps.getD 42 undef = v ∧ (v = v43) := ⟨_, rfl, hT190 0 (by decide) 42 rfl⟩
 have hE := hE.add (e192.trans q193)
 obtain ⟨v194, e195, q196⟩ : ∃ v, a.tmps.getD 43 undef = v ∧ (v = (.int .i64 x58) ∧ inR .i64 x58) := ⟨_, rfl, hT190 1 (by decide) 43 rfl⟩
 obtain ⟨q196, hr197⟩ := q196
 have hE := hE.add (e195.trans q196)
 obtain ⟨v198, e199, q200⟩ : ∃ v, a.tmps.getD 45 undef = v ∧ (v = (.int .u64 x101) ∧ inR .u64 x101) := ⟨_, rfl, hT190 3 (by decide) 45 rfl⟩
 obtain ⟨q200, hr201⟩ := q200
 have hE := hE.add (e199.trans q200)
 obtain ⟨v202, e203, q204⟩ : ∃ v, a.tmps.getD 57 undef = v ∧ (v = (.int .u64 (iShl .u64 (IntKind.u64.wrap (bAnd .u8 (iShr .u8 x104 ((IntKind.i64.wrap ((IntKind.i64.wrap (x58 * p2)) + x81)).tmod 8)) 1)) x81)) ∧ inR .u64 (iShl .u64 (IntKind.u64.wrap (bAnd .u8 (iShr .u8 x104 ((IntKind.i64.wrap ((IntKind.i64.wrap (x58 * p2)) + x81)).tmod 8)) 1)) x81)) := ⟨_, rfl, hT190 15 (by decide) 57 rfl⟩
 obtain ⟨q204, hr205⟩ := q204
 have hE := hE.add (e203.trans q204)
 refine sp hE (r_bin hE rfl rfl (b_or rfl)) rfl fun a hE => ?_
 obtain ⟨j207, hj208, h⟩ := ob h
 refine sp hE (r_indexG (k := (kInt .u64)) hE rfl rfl Tryz.underlying189 Tryz.sizeOf54 (hc85.mono hm185) hj208 rfl) rfl fun a hE => ?_
 obtain ⟨x212, hx213, h⟩ := ob h
 refine st0 hE (st_storeG (k := (kInt .u64)) hE hS ty54 StF_self (hc85.mono hm185) hx213 rfl rfl (RV_of_int (inR_or _ _ _)) (i := 0) rfl) ?_
 rintro _ w ⟨cs210, hc211, hS⟩ hE
 refine knil (kreg ?_)
 refine sp hE (r_bin hE rfl rfl (b_add rfl)) rfl fun a hE => ?_
 refine qm hE rfl rfl fun a hE => ?_
 refine knil ?_
 exact ⟨(IntKind.i64.wrap (x81 + 1), (x83.set j207 (bOr .u64 x101 (iShl .u64 (IntKind.u64.wrap (bAnd .u8 (iShr .u8 x104 ((IntKind.i64.wrap ((IntKind.i64.wrap (x58 * p2)) + x81)).tmod 8)) 1)) x81)))), (Option.some.inj h).symm, _, (M.le.trans hm80 hm185), cs210, (inR_wrap _ _), hc211, hS, hE.cut ⟨rfl, rfl, rfl, rfl, rfl, rfl, rfl, rfl, trivial⟩⟩
 }
 }
 {
 have h := ite_F hd89 h
 refine kexit rfl rfl ?_
 have h := unwrap h hb87
 exact ⟨x83, h, _, hm80, cs84, hc85, hS, hE.cut ⟨rfl, rfl, rfl, rfl, rfl, trivial⟩⟩
 }
 }
 }
 {
 rintro a w ⟨x69, h, m67, hm68, cs70, hc71, hS, hE⟩
 unfold encode_reader_unpacked_j2 at h
 refine kreg ?_
 refine sp hE (r_bin hE rfl rfl (b_add rfl)) rfl fun a hE => ?_
 refine qm hE rfl rfl fun a hE => ?_
 refine knil ?_
 exact ⟨(IntKind.i64.wrap (x58 + 1), x69), (Option.some.inj h).symm, _, (M.le.trans hm57 hm68), cs70, (inR_wrap _ _), hc71, hS, hE.cut ⟨rfl, rfl, rfl, rfl, rfl, trivial⟩⟩
 }
 }
 {
 have h := ite_F hd66 h
 obtain ⟨m217, hm218, hS, hv219⟩ := S.freeze hS hc62
 refine kexit rfl rfl ?_
 have h := unwrap h hb64
 exact ⟨x60, h, _, (M.le.trans hm57 hm218), v43, hv219, hS, hE.cut ⟨rfl, trivial⟩⟩
 }
 }
 }
 {
 rintro a w ⟨x50, h, m48, hm49, v51, hv52, hS, hE⟩
 unfold encode_reader_unpacked_j1 at h
 refine kseq (kreg ?_)
 refine qm hE rfl rfl fun a hE => ?_
 refine qa hE rfl rfl fun a hE => ?_
 refine knil (kret ?_)
 obtain rfl := oi h
 try dsimp only
 refine Fin.mk hE (rs := [.tmp 6]) rfl (ResL.tmp hE rfl ResL.nil) ?_
 exact ⟨_, (M.le.trans hm31 hm49), c0_32, hS, (kEncode_reader.mono hm49 hc0_33), hv52⟩
 }
 }
theorem ct_169 : Ctr Sz Tryz.prog 169 [.pt (.st 161), .rd (.int .i64), .rd (.int .i64)] [.rd (.sl (.int .u64))] (fun x => encode_reader_unpacked x.1 x.2.1 x.2.2.1) := by
 intro W0 m w L TL vs x r Lp Tp hS hP h
 obtain ⟨b0, c0, vs, Lp, rfl, rfl, a0, hP0⟩ := PR_pt hP
 obtain ⟨v1, vs, rfl, a1, hP1⟩ := PR_rd hP0
 obtain ⟨rfl, n1⟩ := RV_int a1
 obtain ⟨v2, vs, rfl, a2, hP2⟩ := PR_rd hP1
 obtain ⟨rfl, n2⟩ := RV_int a2
 obtain ⟨rfl, rfl, rfl⟩ := PR_nil hP2
 refine (c_encode_reader_unpacked (hS := hS) a0 n1 n2 h).mono ?_
 intro e w' he
 cases e with
 | returned v =>
  obtain ⟨m', hm, q0, hS', o0, r0⟩ := he
  exact ⟨m', [v], [], [(b0, q0)], [], hm, hS', rfl, ⟨r0, trivial⟩, ⟨rfl, o0, trivial⟩⟩
 | panicked ch => exact he.elim
 | outgrown => exact he.elim
noncomputable def cs_169 : CS Tryz.prog Sz := ⟨169, _, _, _, ct_169, Tryz.call169⟩
theorem ct_120 : Ctr Sz Tryz.prog 120 [.pt (.st 161), .rd (.int .i64), .rd (.int .i64)] [.ap (.st 32)] (fun x => encode_reader_guess x.1 x.2.1 x.2.2.1) :=
 Ctr.nc (Γ := Γ) (D := [cs_136, cs_152, cs_164, cs_165, cs_166, cs_167, cs_168, cs_169]) (c := Tryz.f120.body.getD .skip) (res := [6]) (.s .o (.s .o (.s (.s .o (.b (.s .o (.i (.b (.l ⟨[.v 7 1 (.dat (.sl (.st 32)) (some 0)), .b 0 1 (.st 161)], [0, 2], 1, [4]⟩ .o)) (.s .o (.i (.b (.l ⟨[.v 7 1 (.dat (.sl (.st 32)) (some 0)), .b 0 1 (.st 161)], [0, 2], 1, [4]⟩ .o)) (.s .o (.i (.s .o (.s .o (.b (.l ⟨[.v 7 1 (.dat (.sl (.st 32)) (some 1)), .v 9 1 (.dat (.int .i64) none), .b 0 1 (.st 161)], [0, 2], 1, [4, 4]⟩ .o)))) (.s .o (.i (.s .o (.s (.s .o (.b (.l ⟨[.v 11 1 (.dat (.sl (.st 32)) (some 0)), .v 131 1 (.dat (.int .u8) none), .b 0 1 (.st 161)], [0, 2, 7, 130], 1, [4]⟩ .o))) (.s .o (.b (.l ⟨[.v 7 1 (.dat (.sl (.st 32)) (some 1)), .v 149 1 (.dat (.int .i64) none)], [11, 147, 148], 1, [4, 4]⟩ .o))))) (.s .o (.s .o (.b (.l ⟨[.v 7 1 (.dat (.sl (.st 32)) (some 0)), .v 29 1 (.dat (.int .i64) none)], [14, 27, 28], 1, [4]⟩ .o)))))))))))))) .o))) rfl mixed Tryz.func120 rfl Tryz.ntmps120 rfl rfl (fun x => by kernel_rfl)
noncomputable def cs_120 : CS Tryz.prog Sz := ⟨120, _, _, _, ct_120, Tryz.call120⟩
theorem ct_62 : Ctr Sz Tryz.prog 62 [.rd (.int .i64), .rd (.sl (.int .u8)), .rd (.int .i64)] [.rd (.sl (.st 32)), .rd (.int .i64)] (fun x => encode_Decode x.1 x.2.1 x.2.2.1) :=
 Ctr.nc (Γ := Γ) (D := [cs_47, cs_61, cs_120]) (c := Tryz.f62.body.getD .skip) (res := [6, 7]) .o rfl mixed Tryz.func62 rfl Tryz.ntmps62 rfl rfl (fun x => by kernel_rfl)
theorem c_encode_Decode {W0 : Bse} {m : M} {w : World} {L : List (Nat × List Value)} {TL : List (Nat × Value)} (hS : S W0 m w (L) (TL)) {p0 : Int} (ha0 : inR .i64 p0) {v1 : Value} {p1 : (List Int)} (ha1 : RV (kSl (kInt .u8)) m v1 p1) {p2 : Int} (ha2 : inR .i64 p2) {r : ((List Ap) × Int)} (h : encode_Decode p0 p1 p2 = some r) :
    Calls Tryz.prog 62 [(.int .i64 p0), v1, (.int .i64 p2)].toArray w (Ret fun v w' => ∃ m', M.le m m' ∧ S W0 m' w' (L) (TL) ∧ ∃ v0_ v1_ : Value, v = .tuple #[v0_, v1_] ∧ RV (kSl kAp) m' v0_ r.1 ∧ RV (kInt .i64) m' v1_ r.2) := by
 refine (ct_62 W0 m w L TL [(.int .i64 p0), v1, (.int .i64 p2)] (p0, p1, p2, ()) r [] [] hS ⟨RV_of_int ha0, ⟨ha1, ⟨RV_of_int ha2, trivial⟩⟩⟩ h).mono ?_
 intro e w' he
 cases e with
 | returned v =>
  obtain ⟨m', us, Lr, Lq, Tr, hm, hS', rfl, hR, hO⟩ := he
  obtain ⟨u0, us, rfl, r0, hR0⟩ := RR_rd hR
  obtain ⟨u1, us, rfl, r1, hR1⟩ := RR_rd hR0
  obtain ⟨rfl, rfl, rfl⟩ := RR_nil hR1
  have hO0 := OR_rd hO
  have hO1 := OR_rd hO0
  have hO2 := OR_rd hO1
  obtain rfl := OR_nil hO2
  exact ⟨m', hm, hS', u0, u1, rfl, r0, r1⟩
 | panicked ch => exact he.elim
 | outgrown => exact he.elim
theorem c_block_Read {W0 : Bse} {m : M} {w : World} {L : List (Nat × List Value)} {TL : List (Nat × Value)} (hS : S W0 m w (L) (TL)) {v0 : Value} {p0 : (List Int)} (ha0 : RV (kSl (kInt .u8)) m v0 p0) {r : ((List Ap) × Int × Int)} (h : block_Read p0 = some r) :
    Calls Tryz.prog 21 [v0].toArray w (Ret fun v w' => ∃ m', M.le m m' ∧ S W0 m' w' (L) (TL) ∧ ∃ v0_ v1_ v2_ : Value, v = .tuple #[v0_, v1_, v2_] ∧ RV (kSl kAp) m' v0_ r.1 ∧ RV (kInt .i64) m' v1_ r.2.1 ∧ RV (kInt .i64) m' v2_ r.2.2) := by
 refine kcall Tryz.func21 rfl Tryz.ntmps21 (Nat.le_of_ble_eq_true rfl) fun a hE => ?_
 have hE : Env 71 a [(0, v0)] := hE
 unfold block_Read at h
 refine kseq (kreg ?_)
 refine qa hE rfl rfl fun a hE => ?_
 refine qa hE rfl rfl fun a hE => ?_
 refine qa hE rfl rfl fun a hE => ?_
 refine knil (kseq (kreg ?_))
 refine qm hE rfl rfl fun a hE => ?_
 obtain ⟨r5, hr6, h⟩ := ob h
 refine st hE (st_call (vs := [v0]) hE rfl Tryz.call57 (c_block_read (hS := hS) ha0 hr6)) rfl ?_
 rintro _ a w ⟨m7, hm8, hS, v0_9, v1_10, v2_11, rfl, hv0_12, hv1_13, hv2_14⟩ hE
 obtain rfl := RV_bool hv2_14
 refine qm hE rfl rfl fun a hE => ?_
 refine sp hE (r_extract hE rfl rfl) rfl fun a hE => ?_
 refine sp hE (r_extract hE rfl rfl) rfl fun a hE => ?_
 refine sp hE (r_extract hE rfl rfl) rfl fun a hE => ?_
 refine st hE (st_alloc hS Tryz.zeroValue34 rfl (cs := zc34)) rfl ?_
 rintro _ a w ⟨b20, rfl, hS⟩ hE
 refine st0 hE (st_storeF hE hS ty34 StF_self rfl rfl hv0_12 (i := 0) rfl (zr34 _)) ?_
 rintro _ w ⟨cs22, hc23, hS⟩ hE
 refine qa hE rfl rfl fun a hE => ?_
 refine qa hE rfl rfl fun a hE => ?_
 refine knil (kseq (kseq (kreg ?_)))
 refine qm hE rfl rfl fun a hE => ?_
 refine sp hE (r_not hE rfl) rfl fun a hE => ?_
 refine knil ?_
 refine kif hE rfl (fun hd29 => ?_) (fun hd29 => ?_)
 {
 have h := ite_T hd29 h
 refine kseq (kreg ?_)
 refine qa hE rfl rfl fun a hE => ?_
 refine qa hE rfl rfl fun a hE => ?_
 refine qa hE rfl rfl fun a hE => ?_
 refine knil (kret ?_)
 obtain rfl := oi h
 try dsimp only
 refine Fin.mk hE (rs := [.tmp 2, .tmp 3, .tmp 4]) rfl (ResL.tmp hE rfl (ResL.tmp hE rfl (ResL.tmp hE rfl ResL.nil))) ?_
 exact ⟨_, hm8, (hS.dropL 1), _, _, _, rfl, RV_nil, (RV_of_int (show inR .i64 0 from inR_lit (by decide))), (RV_of_int (show inR .i64 70 from inR_lit (by decide)))⟩
 }
 {
 have h := ite_F hd29 h
 refine kskip (kseq (kreg ?_))
 refine qm hE rfl rfl fun a hE => ?_
 refine sp hE (r_fieldL hE fo34_5 rfl) rfl fun a hE => ?_
 refine st hE (st_loadL hE hS ty3 rfl (i := 0) rfl (fl34_5.R_drop (R_whole hc23))) rfl ?_
 rintro v36 a _ ⟨rfl, hv35⟩ hE
 obtain ⟨rfl, hr37⟩ := RV_int hv35
 refine sp hE (r_bin hE rfl rfl (b_sub rfl)) rfl fun a hE => ?_
 obtain ⟨x39, hx40, h⟩ := ob h
 refine st hE (st_slice (k := (kInt .u8)) hE rfl Tryz.underlying24 Tryz.sizeOf5 (ha0.mono hm8) rfl ⟨_, rfl⟩ hx40 (xl := none) (xh := (some (.tmp 23)))) rfl ?_
 rintro v42 a _ ⟨rfl, hv41⟩ hE
 obtain ⟨r43, hr44, h⟩ := ob h
 refine st hE (st_call (vs := [v42]) hE rfl Tryz.call60 (c_slices_Clone_byte (hS := hS) hv41 hr44)) rfl ?_
 rintro v48 a w ⟨m45, hm46, hS, hv47⟩ hE
 refine qa hE rfl rfl fun a hE => ?_
 refine knil (kseq (kseq ?_))
 obtain ⟨r50, hr51, h⟩ := ob h
 obtain ⟨x58, hx59, h⟩ := ob h
 refine kchain (k := 6) (m := m45) (es := [1]) (Φ := (fun i m ws v => match i with | 0 => v = v48 | 1 => v = (wi ws 0).v ∧ RV (kSl (kInt .u8)) m v r50 | 2 => v = v0 | 3 => v = (.pointer (some ⟨b20, 11, none⟩)) | 4 => v = (.int .i64 r5.1.fBytes) ∧ inR .i64 r5.1.fBytes | 5 => RV (kSl (kInt .u8)) m v x58 | _ => True)) (Q := (fun c m ws L' TL' => match c with | 0 => (b20, cs22) :: L = L' ∧ (1, v48) :: TL = TL' | 1 => (b20, cs22) :: L = L' ∧ (1, (wi ws 0).v) :: TL = TL' | _ => False)) (cs := [⟨0, 0, false, [(8, v48)]⟩, ⟨0, 0, true, []⟩, ⟨0, 1, false, [(0, v0)]⟩, ⟨0, 1, false, [(5, (.pointer (some ⟨b20, 0, none⟩)))]⟩, ⟨0, 1, false, []⟩, ⟨0, 1, false, []⟩]) mixed hE hS ⟨rfl, rfl⟩ rfl rfl ⟨⟨rfl, trivial⟩, trivial, ⟨rfl, trivial⟩, ⟨rfl, trivial⟩, trivial, trivial, trivial⟩ (by kernel_rfl) ?_ ?_ ?_ ?_
 {
 intro i m_ m2_ ws v hm_ hp_
 match i, hp_ with
 | 0, hp_ => exact hp_
 | 1, hp_ => exact ⟨hp_.1, RV.mono hp_.2 hm_⟩
 | 2, hp_ => exact hp_
 | 3, hp_ => exact hp_
 | 4, hp_ => exact hp_
 | 5, hp_ => exact RV.mono hp_ hm_
 | _ + 6, hp_ => exact trivial
 }
 {
 intro c m_ m2_ ws L_ T_ hm_ hq_
 match c, hq_ with
 | 0, ⟨e1_, e2_⟩ => exact ⟨e1_, e2_⟩
 | 1, ⟨e1_, e2_⟩ => exact ⟨e1_, e2_⟩
 | _ + 2, hq_ => exact hq_.elim
 }
 {
 refine ⟨?_, ?_, ?_, ?_, ?_, ?_, trivial⟩
 {
 refine cplain fun pre_ post_ L_ T_ m' a' w' hl' hp' hm' hq' hS' hE' hT' => ?_
 obtain rfl := len0 hl'
 refine Step.imp (Run1.pure (r_move hE' rfl)) ?_
 rintro _ _ ⟨rfl, rfl⟩
 exact ⟨_, M.le.refl _, hS', rfl⟩
 }
 {
 refine cturn fun pre_ L_ T_ m' a' w' hl' hm' hq' hS' hE' hT' => ?_
 obtain rfl := len0 hl'
 obtain ⟨rfl, rfl⟩ := hq'
 obtain ⟨v62, e63, q64⟩ : ∃ v, a'.tmps.getD 26 undef = v ∧ (v = v48) := ⟨_, rfl, hT' 0 (by decide) 26 rfl⟩
 have hE := hE'.add (e63.trans q64)
 refine Step.imp (st_call (vs := [v48]) hE rfl Tryz.call50 (c_block_sealed (hS := hS') (hv47.mono hm') hr51)) ?_
 rintro vv55 w ⟨m52, hm53, hS, hv54⟩
 exact ⟨_, ⟨0, vv55, [], [], []⟩, _, _, hm53, hS, ⟨rfl, rfl⟩, ⟨rfl, hv54⟩⟩
 }
 {
 refine cplain fun pre_ post_ L_ T_ m' a' w' hl' hp' hm' hq' hS' hE' hT' => ?_
 obtain rfl := len0 hl'
 refine Step.imp (Run1.pure (r_move hE' rfl)) ?_
 rintro _ _ ⟨rfl, rfl⟩
 exact ⟨_, M.le.refl _, hS', rfl⟩
 }
 {
 refine cplain fun pre_ post_ L_ T_ m' a' w' hl' hp' hm' hq' hS' hE' hT' => ?_
 obtain rfl := len0 hl'
 refine Step.imp (Run1.pure (r_fieldL hE' fo34_5 rfl)) ?_
 rintro _ _ ⟨rfl, rfl⟩
 exact ⟨_, M.le.refl _, hS', rfl⟩
 }
 {
 refine cplain fun pre_ post_ L_ T_ m' a' w' hl' hp' hm' hq' hS' hE' hT' => ?_
 obtain rfl := len0 hl'
 rcases lenle (a := 0) (n := 0) hp' with h0_ | h0_
 {
 obtain rfl := len0 h0_
 obtain ⟨rfl, rfl⟩ := hq'
 obtain ⟨v67, e68, q69⟩ : ∃ v, a'.tmps.getD 29 undef = v ∧ (v = (.pointer (some ⟨b20, 11, none⟩))) := ⟨_, rfl, hT' 3 (by decide) 29 rfl⟩
 have hE := hE'.add (e68.trans q69)
 refine Step.imp (st_loadL hE hS' ty3 rfl (i := 0) rfl (fl34_5.R_drop (R_whole (kBlock_Info.mono (M.le.trans hm46 hm') hc23)))) ?_
 rintro v70 _ ⟨rfl, hv56⟩
 obtain ⟨rfl, hr71⟩ := RV_int hv56
 exact ⟨_, M.le.refl _, hS', ⟨rfl, hr71⟩⟩
 }
 {
 obtain ⟨⟨_, vv55, _, _, _⟩, post_', rfl, hp1_⟩ := h0_
 obtain rfl := len0 (lenz (a := 0) hp1_)
 obtain ⟨rfl, rfl⟩ := hq'
 obtain ⟨v72, e73, q74⟩ : ∃ v, a'.tmps.getD 29 undef = v ∧ (v = (.pointer (some ⟨b20, 11, none⟩))) := ⟨_, rfl, hT' 3 (by decide) 29 rfl⟩
 have hE := hE'.add (e73.trans q74)
 refine Step.imp (st_loadL hE hS' ty3 rfl (i := 0) rfl (fl34_5.R_drop (R_whole (kBlock_Info.mono (M.le.trans hm46 hm') hc23)))) ?_
 rintro v75 _ ⟨rfl, hv56⟩
 obtain ⟨rfl, hr76⟩ := RV_int hv56
 exact ⟨_, M.le.refl _, hS', ⟨rfl, hr76⟩⟩
 }
 }
 {
 refine cplain fun pre_ post_ L_ T_ m' a' w' hl' hp' hm' hq' hS' hE' hT' => ?_
 obtain rfl := len0 hl'
 obtain ⟨v77, e78, q79⟩ : ∃ v, a'.tmps.getD 28 undef = v ∧ (v = v0) := ⟨_, rfl, hT' 2 (by decide) 28 rfl⟩
 have hE := hE'.add (e78.trans q79)
 obtain ⟨v80, e81, q82⟩ : ∃ v, a'.tmps.getD 30 undef = v ∧ (v = (.int .i64 r5.1.fBytes) ∧ inR .i64 r5.1.fBytes) := ⟨_, rfl, hT' 4 (by decide) 30 rfl⟩
 obtain ⟨q82, hr83⟩ := q82
 have hE := hE.add (e81.trans q82)
 refine Step.imp (st_slice (k := (kInt .u8)) hE rfl Tryz.underlying24 Tryz.sizeOf5 (ha0.mono (M.le.trans hm8 (M.le.trans hm46 hm'))) rfl ⟨_, rfl⟩ hx59 (xl := none) (xh := (some (.tmp 30)))) ?_
 rintro v84 _ ⟨rfl, hv60⟩
 exact ⟨_, M.le.refl _, hS', hv60⟩
 }
 }
 {
 intro ws_ L_ T_ m85 a w hl86 hm87 hq88 hS hd89 hn90 ho91 hT92
 obtain ⟨⟨_, vv55, _, _, _⟩, rfl⟩ := len1 hl86
 obtain ⟨rfl, rfl⟩ := hq88
 have hE := EnvD.of (k := 6) (l' := [(0, v0), (2, (.slice none 0 0)), (3, (.int .i64 0)), (4, (.int .i64 0)), (5, (.pointer (some ⟨b20, 0, none⟩))), (6, v1_10), (7, (.bool r5.2.2)), (8, v48), (12, (.tuple #[v0_9, v1_10, (.bool r5.2.2)])), (13, v0), (14, (.tuple #[v0_9, v1_10, (.bool r5.2.2)])), (15, v0_9), (16, v1_10), (17, (.bool r5.2.2)), (18, (.bool r5.2.2)), (19, (.bool (!r5.2.2))), (20, v0), (21, (.pointer (some ⟨b20, 11, none⟩))), (22, (.int .i64 r5.1.fBytes)), (23, (.int .i64 (IntKind.i64.wrap (r5.1.fBytes - 4)))), (24, v42), (25, v48)]) hd89 hn90 ho91 ⟨rfl, rfl, rfl, rfl, rfl, rfl, rfl, rfl, rfl, rfl, rfl, rfl, rfl, rfl, rfl, rfl, rfl, rfl, rfl, rfl, rfl, rfl, trivial⟩ rfl
 obtain ⟨v93, e94, q95⟩ : ∃ v, a.tmps.getD 27 undef = v ∧ (v = vv55 ∧ RV (kSl (kInt .u8)) m85 v r50) := ⟨_, rfl, hT92 1 (by decide) 27 rfl⟩
 obtain ⟨q96, q95⟩ := q95
 rw [q96] at q95
 have hE := hE.add (e94.trans q96)
 obtain ⟨v97, e98, q99⟩ : ∃ v, a.tmps.getD 31 undef = v ∧ (RV (kSl (kInt .u8)) m85 v x58) := ⟨_, rfl, hT92 5 (by decide) 31 rfl⟩
 have hE := hE.add (e98)
 obtain ⟨r100, hr101, h⟩ := ob h
 refine st hE (st_call (vs := [vv55, v97]) hE rfl Tryz.call61 (c_slices_Equal_byte (hS := hS) q95 q99 hr101)) rfl ?_
 rintro v105 a w ⟨m102, hm103, hS, hv104⟩ hE
 obtain rfl := RV_bool hv104
 refine sp hE (r_not hE rfl) rfl fun a hE => ?_
 refine knil ?_
 refine kif hE rfl (fun hd107 => ?_) (fun hd107 => ?_)
 {
 have h := ite_T hd107 h
 refine kseq (kreg ?_)
 refine qa hE rfl rfl fun a hE => ?_
 refine qa hE rfl rfl fun a hE => ?_
 refine qa hE rfl rfl fun a hE => ?_
 refine knil (kret ?_)
 obtain rfl := oi h
 try dsimp only
 refine Fin.mk hE (rs := [.tmp 2, .tmp 3, .tmp 4]) rfl (ResL.tmp hE rfl (ResL.tmp hE rfl (ResL.tmp hE rfl ResL.nil))) ?_
 exact ⟨_, (M.le.trans hm8 (M.le.trans hm46 (M.le.trans hm87 hm103))), ((hS.dropL 1).dropT 1), _, _, _, rfl, RV_nil, (RV_of_int (show inR .i64 0 from inR_lit (by decide))), (RV_of_int (show inR .i64 71 from inR_lit (by decide)))⟩
 }
 {
 have h := ite_F hd107 h
 refine kskip (kseq (kreg ?_))
 refine sp hE (r_fieldL hE fo34_0 rfl) rfl fun a hE => ?_
 refine st hE (st_loadL hE hS ty3 rfl (i := 0) rfl (fl34_0.R_drop (R_whole (kBlock_Info.mono (M.le.trans hm46 (M.le.trans hm87 hm103)) hc23)))) rfl ?_
 rintro v113 a _ ⟨rfl, hv112⟩ hE
 obtain ⟨rfl, hr114⟩ := RV_int hv112
 refine qm hE rfl rfl fun a hE => ?_
 refine sp hE (r_fieldL hE fo34_1 rfl) rfl fun a hE => ?_
 refine st hE (st_loadL hE hS ty3 rfl (i := 0) rfl (fl34_1.R_drop (R_whole (kBlock_Info.mono (M.le.trans hm46 (M.le.trans hm87 hm103)) hc23)))) rfl ?_
 rintro v118 a _ ⟨rfl, hv117⟩ hE
 obtain ⟨rfl, hr119⟩ := RV_int hv117
 obtain ⟨r120, hr121, h⟩ := ob h
 refine st hE (st_call (vs := [(.int .i64 r5.1.fKind), v1_10, (.int .i64 r5.1.fMany)]) hE rfl Tryz.call62 (c_encode_Decode (hS := hS) hr114 (hv1_13.mono (M.le.trans hm46 (M.le.trans hm87 hm103))) hr119 hr121)) rfl ?_
 rintro _ a w ⟨m122, hm123, hS, v0_124, v1_125, rfl, hv0_126, hv1_127⟩ hE
 obtain ⟨rfl, hr129⟩ := RV_int hv1_127
 refine qm hE rfl rfl fun a hE => ?_
 refine sp hE (r_extract hE rfl rfl) rfl fun a hE => ?_
 refine sp hE (r_extract hE rfl rfl) rfl fun a hE => ?_
 refine qa hE rfl rfl fun a hE => ?_
 refine qa hE rfl rfl fun a hE => ?_
 refine knil (kseq (kseq (kreg ?_)))
 refine qm hE rfl rfl fun a hE => ?_
 refine sp hE (r_bin hE rfl rfl b_neq) rfl fun a hE => ?_
 refine knil ?_
 refine kif hE rfl (fun hd137 => ?_) (fun hd137 => ?_)
 {
 have h := ite_T hd137 h
 refine kseq (kreg ?_)
 refine qa hE rfl rfl fun a hE => ?_
 refine qa hE rfl rfl fun a hE => ?_
 refine qa hE rfl rfl fun a hE => ?_
 refine knil (kret ?_)
 obtain rfl := oi h
 try dsimp only
 refine Fin.mk hE (rs := [.tmp 2, .tmp 3, .tmp 4]) rfl (ResL.tmp hE rfl (ResL.tmp hE rfl (ResL.tmp hE rfl ResL.nil))) ?_
 exact ⟨_, (M.le.trans hm8 (M.le.trans hm46 (M.le.trans hm87 (M.le.trans hm103 hm123)))), ((hS.dropL 1).dropT 1), _, _, _, rfl, RV_nil, (RV_of_int (show inR .i64 0 from inR_lit (by decide))), (RV_of_int (show inR .i64 70 from inR_lit (by decide)))⟩
 }
 {
 have h := ite_F hd137 h
 refine kskip (kseq (kreg ?_))
 refine sp hE (r_fieldL hE fo34_0 rfl) rfl fun a hE => ?_
 refine st hE (st_loadL hE hS ty3 rfl (i := 0) rfl (fl34_0.R_drop (R_whole (kBlock_Info.mono (M.le.trans hm46 (M.le.trans hm87 (M.le.trans hm103 hm123))) hc23)))) rfl ?_
 rintro v143 a _ ⟨rfl, hv142⟩ hE
 obtain ⟨rfl, hr144⟩ := RV_int hv142
 refine qm hE rfl rfl fun a hE => ?_
 obtain ⟨r146, hr147, h⟩ := ob h
 refine st hE (st_call (vs := [(.int .i64 r5.1.fKind), v0_124]) hE rfl Tryz.call48 (c_block_head (hS := hS) hr144 hv0_126 hr147)) rfl ?_
 rintro v151 a w ⟨m148, hm149, hS, hv150⟩ hE
 refine st hE (st_alloc hS Tryz.zeroValue34 rfl (cs := zc34)) rfl ?_
 rintro _ a w ⟨b152, rfl, hS⟩ hE
 refine st0 hE (st_storeF hE hS ty34 StF_self rfl rfl hv150 (i := 0) rfl (zr34 _)) ?_
 rintro _ w ⟨cs154, hc155, hS⟩ hE
 refine knil (kseq (kseq ?_))
 refine kcut (fun a w => ∃ x159 : Bool, block_Read_j1 r5 r120 x159 = some r ∧ ∃ m', M.le m148 m' ∧ S W0 m' w ((b152, cs154) :: (b20, cs22) :: L) (TL) ∧ Env 71 a [(5, (.pointer (some ⟨b20, 0, none⟩))), (9, v0_124), (67, (.bool x159))]) ?_ ?_
 {
 refine kreg ?_
 refine sp hE (r_fieldL hE fo34_4 rfl) rfl fun a hE => ?_
 refine st hE (st_loadL hE hS ty3 rfl (i := 0) rfl (fl34_4.R_drop (R_whole hc155))) rfl ?_
 rintro v197 a _ ⟨rfl, hv196⟩ hE
 obtain ⟨rfl, hr198⟩ := RV_int hv196
 refine sp hE (r_fieldL hE fo34_4 rfl) rfl fun a hE => ?_
 refine st hE (st_loadL hE hS ty3 rfl (i := 1) rfl (fl34_4.R_drop (R_whole (kBlock_Info.mono (M.le.trans hm46 (M.le.trans hm87 (M.le.trans hm103 (M.le.trans hm123 hm149)))) hc23)))) rfl ?_
 rintro v201 a _ ⟨rfl, hv200⟩ hE
 obtain ⟨rfl, hr202⟩ := RV_int hv200
 refine sp hE (r_bin hE rfl rfl b_neq) rfl fun a hE => ?_
 refine qm hE rfl rfl fun a hE => ?_
 rcases Bool.eq_false_or_eq_true (r146.fNulls != r5.1.fNulls) with hd205 | hd205
 {
 have h := ite_T hd205 h
 refine sx hE rfl rfl rfl rfl hd205 rfl fun a hE => ?_
 refine sx hE rfl rfl rfl rfl hd205 rfl fun a hE => ?_
 refine sx hE rfl rfl rfl rfl hd205 rfl fun a hE => ?_
 refine sx hE rfl rfl rfl rfl hd205 rfl fun a hE => ?_
 refine sx hE rfl rfl rfl rfl hd205 rfl fun a hE => ?_
 refine sp hE (r_pickT hE rfl hd205 rfl) rfl fun a hE => ?_
 refine qm hE rfl rfl fun a hE => ?_
 refine sx hE rfl rfl rfl rfl rfl rfl fun a hE => ?_
 refine sx hE rfl rfl rfl rfl rfl rfl fun a hE => ?_
 refine sx hE rfl rfl rfl rfl rfl rfl fun a hE => ?_
 refine sx hE rfl rfl rfl rfl rfl rfl fun a hE => ?_
 refine sx hE rfl rfl rfl rfl rfl rfl fun a hE => ?_
 refine sp hE (r_pickT hE rfl rfl rfl) rfl fun a hE => ?_
 refine knil ?_
 exact ⟨true, h, _, (M.le.refl _), (hS.pickT 1 [] rfl rfl rfl), hE.cut ⟨rfl, rfl, rfl, trivial⟩⟩
 }
 {
 have h := ite_F hd205 h
 refine spg hE rfl rfl rfl rfl hd205 (r_fieldL hE fo34_2 rfl) rfl fun a hE => ?_
 refine stg hE rfl rfl rfl rfl hd205 (st_loadL hE hS ty32 rfl (i := 0) rfl (fl34_2.R_drop (R_whole hc155))) rfl ?_
 rintro v211 a _ ⟨rfl, hv210⟩ hE
 refine spg hE rfl rfl rfl rfl hd205 (r_fieldL hE fo34_2 rfl) rfl fun a hE => ?_
 refine stg hE rfl rfl rfl rfl hd205 (st_loadL hE hS ty32 rfl (i := 1) rfl (fl34_2.R_drop (R_whole (kBlock_Info.mono (M.le.trans hm46 (M.le.trans hm87 (M.le.trans hm103 (M.le.trans hm123 hm149)))) hc23)))) rfl ?_
 rintro v214 a _ ⟨rfl, hv213⟩ hE
 refine spg hE rfl rfl rfl rfl hd205 (r_neqK hE eq32 rfl rfl hv210 hv213 rfl) rfl fun a hE => ?_
 refine sp hE (r_pickF hE rfl hd205 rfl) rfl fun a hE => ?_
 refine qm hE rfl rfl fun a hE => ?_
 rcases Bool.eq_false_or_eq_true (!decide (r146.fMin = r5.1.fMin)) with hd218 | hd218
 {
 have h := ite_T hd218 h
 refine sx hE rfl rfl rfl rfl hd218 rfl fun a hE => ?_
 refine sx hE rfl rfl rfl rfl hd218 rfl fun a hE => ?_
 refine sx hE rfl rfl rfl rfl hd218 rfl fun a hE => ?_
 refine sx hE rfl rfl rfl rfl hd218 rfl fun a hE => ?_
 refine sx hE rfl rfl rfl rfl hd218 rfl fun a hE => ?_
 refine sp hE (r_pickT hE rfl hd218 rfl) rfl fun a hE => ?_
 refine knil ?_
 exact ⟨true, h, _, (M.le.refl _), (hS.pickT 1 [] rfl rfl rfl), hE.cut ⟨rfl, rfl, rfl, trivial⟩⟩
 }
 {
 have h := ite_F hd218 h
 refine spg hE rfl rfl rfl rfl hd218 (r_fieldL hE fo34_3 rfl) rfl fun a hE => ?_
 refine stg hE rfl rfl rfl rfl hd218 (st_loadL hE hS ty32 rfl (i := 0) rfl (fl34_3.R_drop (R_whole hc155))) rfl ?_
 rintro v222 a _ ⟨rfl, hv221⟩ hE
 refine spg hE rfl rfl rfl rfl hd218 (r_fieldL hE fo34_3 rfl) rfl fun a hE => ?_
 refine stg hE rfl rfl rfl rfl hd218 (st_loadL hE hS ty32 rfl (i := 1) rfl (fl34_3.R_drop (R_whole (kBlock_Info.mono (M.le.trans hm46 (M.le.trans hm87 (M.le.trans hm103 (M.le.trans hm123 hm149)))) hc23)))) rfl ?_
 rintro v225 a _ ⟨rfl, hv224⟩ hE
 refine spg hE rfl rfl rfl rfl hd218 (r_neqK hE eq32 rfl rfl hv221 hv224 rfl) rfl fun a hE => ?_
 refine sp hE (r_pickF hE rfl hd218 rfl) rfl fun a hE => ?_
 refine knil ?_
 exact ⟨(!decide (r146.fMax = r5.1.fMax)), h, _, (M.le.refl _), (hS.pickT 1 [] rfl rfl rfl), hE.cut ⟨rfl, rfl, rfl, trivial⟩⟩
 }
 }
 }
 {
 rintro a w ⟨x159, h, m157, hm158, hS, hE⟩
 unfold block_Read_j1 at h
 refine kif hE rfl (fun hd161 => ?_) (fun hd161 => ?_)
 {
 have h := ite_T hd161 h
 refine kseq (kreg ?_)
 refine qa hE rfl rfl fun a hE => ?_
 refine qa hE rfl rfl fun a hE => ?_
 refine qa hE rfl rfl fun a hE => ?_
 refine knil (kret ?_)
 obtain rfl := oi h
 try dsimp only
 refine Fin.mk hE (rs := [.tmp 2, .tmp 3, .tmp 4]) rfl (ResL.tmp hE rfl (ResL.tmp hE rfl (ResL.tmp hE rfl ResL.nil))) ?_
 exact ⟨_, (M.le.trans hm8 (M.le.trans hm46 (M.le.trans hm87 (M.le.trans hm103 (M.le.trans hm123 (M.le.trans hm149 hm158)))))), (hS.dropL 2), _, _, _, rfl, RV_nil, (RV_of_int (show inR .i64 0 from inR_lit (by decide))), (RV_of_int (show inR .i64 70 from inR_lit (by decide)))⟩
 }
 {
 have h := ite_F hd161 h
 refine kskip (kseq ?_)
 refine kchain (k := 4) (m := m157) (es := []) (Φ := (fun i m ws v => match i with | 0 => v = v0_124 | 1 => v = (.pointer (some ⟨b20, 11, none⟩)) | 2 => v = (.int .i64 r5.1.fBytes) ∧ inR .i64 r5.1.fBytes | 3 => v = v0_124 | _ => True)) (Q := (fun c m ws L' TL' => match c with | 0 => (b152, cs154) :: (b20, cs22) :: L = L' ∧ TL = TL' | _ => False)) (cs := [⟨0, 0, false, [(9, v0_124)]⟩, ⟨0, 0, false, [(5, (.pointer (some ⟨b20, 0, none⟩)))]⟩, ⟨0, 0, false, []⟩, ⟨0, 0, false, []⟩]) mixed hE hS ⟨rfl, rfl⟩ rfl rfl ⟨⟨rfl, trivial⟩, ⟨rfl, trivial⟩, trivial, trivial, trivial⟩ (by kernel_rfl) ?_ ?_ ?_ ?_
 {
 intro i m_ m2_ ws v hm_ hp_
 match i, hp_ with
 | 0, hp_ => exact hp_
 | 1, hp_ => exact hp_
 | 2, hp_ => exact hp_
 | 3, hp_ => exact hp_
 | _ + 4, hp_ => exact trivial
 }
 {
 intro c m_ m2_ ws L_ T_ hm_ hq_
 match c, hq_ with
 | 0, ⟨e1_, e2_⟩ => exact ⟨e1_, e2_⟩
 | _ + 1, hq_ => exact hq_.elim
 }
 {
 refine ⟨?_, ?_, ?_, ?_, trivial⟩
 {
 refine cplain fun pre_ post_ L_ T_ m' a' w' hl' hp' hm' hq' hS' hE' hT' => ?_
 obtain rfl := len0 hl'
 refine Step.imp (Run1.pure (r_move hE' rfl)) ?_
 rintro _ _ ⟨rfl, rfl⟩
 exact ⟨_, M.le.refl _, hS', rfl⟩
 }
 {
 refine cplain fun pre_ post_ L_ T_ m' a' w' hl' hp' hm' hq' hS' hE' hT' => ?_
 obtain rfl := len0 hl'
 refine Step.imp (Run1.pure (r_fieldL hE' fo34_5 rfl)) ?_
 rintro _ _ ⟨rfl, rfl⟩
 exact ⟨_, M.le.refl _, hS', rfl⟩
 }
 {
 refine cplain fun pre_ post_ L_ T_ m' a' w' hl' hp' hm' hq' hS' hE' hT' => ?_
 obtain rfl := len0 hl'
 obtain rfl := len0 (lenz (a := 0) hp')
 obtain ⟨rfl, rfl⟩ := hq'
 obtain ⟨v169, e170, q171⟩ : ∃ v, a'.tmps.getD 69 undef = v ∧ (v = (.pointer (some ⟨b20, 11, none⟩))) := ⟨_, rfl, hT' 1 (by decide) 69 rfl⟩
 have hE := hE'.add (e170.trans q171)
 refine Step.imp (st_loadL hE hS' ty3 rfl (i := 1) rfl (fl34_5.R_drop (R_whole (kBlock_Info.mono (M.le.trans hm46 (M.le.trans hm87 (M.le.trans hm103 (M.le.trans hm123 (M.le.trans hm149 (M.le.trans hm158 hm')))))) hc23)))) ?_
 rintro v172 _ ⟨rfl, hv165⟩
 obtain ⟨rfl, hr173⟩ := RV_int hv165
 exact ⟨_, M.le.refl _, hS', ⟨rfl, hr173⟩⟩
 }
 {
 refine cplain fun pre_ post_ L_ T_ m' a' w' hl' hp' hm' hq' hS' hE' hT' => ?_
 obtain rfl := len0 hl'
 obtain ⟨v174, e175, q176⟩ : ∃ v, a'.tmps.getD 68 undef = v ∧ (v = v0_124) := ⟨_, rfl, hT' 0 (by decide) 68 rfl⟩
 have hE := hE'.add (e175.trans q176)
 refine Step.imp (Run1.pure (r_assign hE rfl)) ?_
 rintro _ _ ⟨rfl, rfl⟩
 exact ⟨_, M.le.refl _, hS', rfl⟩
 }
 }
 {
 intro ws_ L_ T_ m178 a w hl179 hm180 hq181 hS hd182 hn183 ho184 hT185
 obtain rfl := len0 hl179
 obtain ⟨rfl, rfl⟩ := hq181
 have hE := EnvD.of (k := 4) (l' := [(5, (.pointer (some ⟨b20, 0, none⟩))), (9, v0_124), (67, (.bool x159))]) hd182 hn183 ho184 ⟨rfl, rfl, rfl, trivial⟩ rfl
 obtain ⟨v186, e187, q188⟩ : ∃ v, a.tmps.getD 70 undef = v ∧ (v = (.int .i64 r5.1.fBytes) ∧ inR .i64 r5.1.fBytes) := ⟨_, rfl, hT185 2 (by decide) 70 rfl⟩
 obtain ⟨q188, hr189⟩ := q188
 have hE := hE.add (e187.trans q188)
 obtain ⟨v190, e191, q192⟩ : ∃ v, a.tmps.getD 2 undef = v ∧ (v = v0_124) := ⟨_, rfl, hT185 3 (by decide) 2 rfl⟩
 have hE := hE.add (e191.trans q192)
 refine qa hE rfl rfl fun a hE => ?_
 refine qa hE rfl rfl fun a hE => ?_
 refine knil (kret ?_)
 obtain rfl := oi h
 try dsimp only
 refine Fin.mk hE (rs := [.tmp 2, .tmp 3, .tmp 4]) rfl (ResL.tmp hE rfl (ResL.tmp hE rfl (ResL.tmp hE rfl ResL.nil))) ?_
 exact ⟨_, (M.le.trans hm8 (M.le.trans hm46 (M.le.trans hm87 (M.le.trans hm103 (M.le.trans hm123 (M.le.trans hm149 (M.le.trans hm158 hm180))))))), (hS.dropL 2), _, _, _, rfl, (hv0_126.mono (M.le.trans hm149 (M.le.trans hm158 hm180))), (RV_of_int hr189), (RV_of_int (show inR .i64 0 from inR_lit (by decide)))⟩
 }
 }
 }
 }
 }
 }
 }
theorem ct_21 : Ctr Sz Tryz.prog 21 [.rd (.sl (.int .u8))] [.rd (.sl (.st 32)), .rd (.int .i64), .rd (.int .i64)] (fun x => block_Read x.1) := by
 intro W0 m w L TL vs x r Lp Tp hS hP h
 obtain ⟨v0, vs, rfl, a0, hP0⟩ := PR_rd hP
 obtain ⟨rfl, rfl, rfl⟩ := PR_nil hP0
 refine (c_block_Read (hS := hS) a0 h).mono ?_
 intro e w' he
 cases e with
 | returned v =>
  obtain ⟨m', hm, hS', u0, u1, u2, rfl, r0, r1, r2⟩ := he
  exact ⟨m', [u0, u1, u2], [], [], [], hm, hS', rfl, ⟨r0, ⟨r1, ⟨r2, trivial⟩⟩⟩, trivial⟩
 | panicked ch => exact he.elim
 | outgrown => exact he.elim
noncomputable def cs_21 : CS Tryz.prog Sz := ⟨21, _, _, _, ct_21, Tryz.call21⟩
theorem ct_17 : Ctr Sz Tryz.prog 17 [] [.rd .bool] (fun x => hayloftlaw07_alive ) :=
 Ctr.nc (Γ := Γ) (D := [cs_15, cs_19, cs_21]) (c := Tryz.f17.body.getD .skip) (res := [0]) .o rfl mixed Tryz.func17 rfl Tryz.ntmps17 rfl rfl (fun x => by kernel_rfl)
noncomputable def cs_17 : CS Tryz.prog Sz := ⟨17, _, _, _, ct_17, Tryz.call17⟩
theorem ct_18 : Ctr Sz Tryz.prog 18 [.rd (.sl (.st 32)), .rd (.sl (.st 32))] [.rd .bool] (fun x => hayloftref02_SameRow x.1 x.2.1) :=
 Ctr.nc (Γ := Γ) (D := []) (c := Tryz.f18.body.getD .skip) (res := [4]) (.s .o (.s .o (.s (.s .o (.b (.l ⟨[.v 5 1 (.dat (.int .i64) none)], [0, 1], 0, []⟩ .o))) .o))) rfl mixed Tryz.func18 rfl Tryz.ntmps18 rfl rfl (fun x => by kernel_rfl)
noncomputable def cs_18 : CS Tryz.prog Sz := ⟨18, _, _, _, ct_18, Tryz.call18⟩
theorem ct_3 : Ctr Sz Tryz.prog 3 [.rd (.int .i64), .rd (.sl (.st 32))] [.rd .bool] (fun x => hayloftlaw07_BlockWrites x.1 x.2.1) :=
 Ctr.nc (Γ := Γ) (D := [cs_14, cs_15, cs_16, cs_17, cs_18]) (c := Tryz.f3.body.getD .skip) (res := [4]) .o rfl mixed Tryz.func3 rfl Tryz.ntmps3 rfl rfl (fun x => by kernel_rfl)
theorem c_hayloftlaw07_BlockWrites {W0 : Bse} {m : M} {w : World} {L : List (Nat × List Value)} {TL : List (Nat × Value)} (hS : S W0 m w (L) (TL)) {p0 : Int} (ha0 : inR .i64 p0) {v1 : Value} {p1 : (List Ap)} (ha1 : RV (kSl kAp) m v1 p1) {r : Bool} (h : hayloftlaw07_BlockWrites p0 p1 = some r) :
    Calls Tryz.prog 3 [(.int .i64 p0), v1].toArray w (Ret fun v w' => ∃ m', M.le m m' ∧ S W0 m' w' (L) (TL) ∧ RV kBool m' v r) := by
 refine (ct_3 W0 m w L TL [(.int .i64 p0), v1] (p0, p1, ()) r [] [] hS ⟨RV_of_int ha0, ⟨ha1, trivial⟩⟩ h).mono ?_
 intro e w' he
 cases e with
 | returned v =>
  obtain ⟨m', us, Lr, Lq, Tr, hm, hS', rfl, hR, hO⟩ := he
  obtain ⟨u0, us, rfl, r0, hR0⟩ := RR_rd hR
  obtain ⟨rfl, rfl, rfl⟩ := RR_nil hR0
  have hO0 := OR_rd hO
  have hO1 := OR_rd hO0
  obtain rfl := OR_nil hO1
  exact ⟨m', hm, hS', r0⟩
 | panicked ch => exact he.elim
 | outgrown => exact he.elim
end Go.Proofs.YthbonoagbeilkaaGreat.Hay
set_option maxRecDepth 100000
set_option maxHeartbeats 4000000
set_option linter.unusedVariables false
namespace Go.Proofs.YthbonoagbeilkaaGreat.Hay
open Go.Proofs
end Go.Proofs.YthbonoagbeilkaaGreat.Hay
