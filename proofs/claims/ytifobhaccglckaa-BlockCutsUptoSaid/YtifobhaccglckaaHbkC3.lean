import Derived.Test.YtifobhaccglckaaHbkC2
set_option maxRecDepth 100000
set_option maxHeartbeats 4000000
set_option linter.unusedVariables false
namespace Go.Proofs.Ytifobhaccglckaa.Hay
open Go.Proofs
/- 109 -/
/- 61 -/
/- 28 -/
/- 110 -/
/- 62 -/
/- 63 -/
/- 121 -/
/- 75 -/
/- 111 -/
/- 112 -/
/- 64 -/
/- 65 -/
/- 29 -/
/- 21 -/
/- 25 -/
theorem c_encode_Best {W0 : Bse} {m : M} {w : World} {L : List (Nat × List Value)} {TL : List (Nat × Value)} (hS : S W0 m w (L) (TL)) {v0 : Value} {p0 : (List Api_Value)} (ha0 : RV (kSl kApi_Value) m v0 p0) {r : Int} (h : encode_Best p0 = some r) :
    Calls Try.prog 25 [v0].toArray w (Ret fun v w' => ∃ m', M.le m m' ∧ S W0 m' w' (L) (TL) ∧ RV (kInt .i64) m' v r) := by
 refine kcall Try.func25 rfl Try.ntmps25 (Nat.le_of_ble_eq_true rfl) fun a hE => ?_
 have hE : Env 34 a [(0, v0)] := hE
 unfold encode_Best at h
 refine kseq ?_
 refine kreg ?_
 refine sp hE (r_assign hE rfl) rfl fun a hE => ?_
 refine knil ?_
 refine kseq ?_
 refine kreg ?_
 refine sp hE (r_assign hE rfl) rfl fun a hE => ?_
 refine sp hE (r_assign hE rfl) rfl fun a hE => ?_
 refine knil ?_
 refine kseq ?_
 refine kseq ?_
 refine kreg ?_
 refine sp hE (r_assign hE rfl) rfl fun a hE => ?_
 refine knil ?_
 refine kcut (fun a w => ∃ x7 : Int, encode_Best_j1 x7 = some r ∧ ∃ m', M.le m m' ∧ inR .i64 x7 ∧ S W0 m' w (L) (TL) ∧ Env 34 a [(3, (.int .i64 x7))]) ?_ ?_
 {
 refine kblock ?_
 refine kloop h (fun (s : (Int × Int × Int)) a w => ∃ m', M.le m m' ∧ inR .i64 s.1 ∧ inR .i64 s.2.1 ∧ inR .i64 s.2.2 ∧ S W0 m' w (L) (TL) ∧ Env 34 a [(0, v0), (3, (.int .i64 s.1)), (4, (.int .i64 s.2.1)), (5, (.int .i64 s.2.2))]) ?_ ?_
 {
 exact ⟨_, (M.le.refl _), (show inR .i64 0 from inR_lit (by decide)), (show inR .i64 (-1) from inR_lit (by decide)), (show inR .i64 0 from inR_lit (by decide)), hS, hE.cut ⟨rfl, rfl, rfl, rfl, trivial⟩⟩
 }
 {
 rintro ⟨x14, x16, x18⟩ a w ⟨m12, hm13, hr15, hr17, hr19, hS, hE⟩ r20 h hb21
 have h : encode_Best_b1 p0 x14 x16 x18 = some r20 := h
 unfold encode_Best_b1 at h
 refine kseq ?_
 refine kseq ?_
 refine kreg ?_
 refine sp hE (r_move hE rfl) rfl fun a hE => ?_
 refine sp hE (r_bin hE rfl rfl b_leq) rfl fun a hE => ?_
 refine knil ?_
 refine kif hE rfl (fun hd24 => ?_) (fun hd24 => ?_)
 {
 have h := ite_T hd24 h
 refine kskip ?_
 refine kseq ?_
 refine kblock ?_
 refine kseq ?_
 refine kreg ?_
 refine sp hE (r_move hE rfl) rfl fun a hE => ?_
 refine sp hE (r_move hE rfl) rfl fun a hE => ?_
 obtain ⟨r27, hr28, h⟩ := ob h
 refine st hE (st_call (vs := [(.int .i64 x18), v0]) hE rfl Try.call24 (c_encode_Encode (hS := hS) hr19 (ha0.mono hm13) hr28)) rfl ?_
 rintro _ a w ⟨m29, hm30, hS, v0_31, v1_32, rfl, hv0_33, hv1_34⟩ hE
 obtain ⟨rfl, hr36⟩ := RV_int hv1_34
 refine sp hE (r_move hE rfl) rfl fun a hE => ?_
 refine sp hE (r_extract hE rfl rfl) rfl fun a hE => ?_
 refine sp hE (r_extract hE rfl rfl) rfl fun a hE => ?_
 refine sp hE (r_assign hE rfl) rfl fun a hE => ?_
 refine sp hE (r_assign hE rfl) rfl fun a hE => ?_
 refine knil ?_
 refine kseq ?_
 refine kcut (fun a w => ∃ x44 : Bool, encode_Best_j2 x14 x16 x18 r27 x44 = some r20 ∧ ∃ m', M.le m29 m' ∧ S W0 m' w (L) (TL) ∧ Env 34 a [(0, v0), (3, (.int .i64 x14)), (4, (.int .i64 x16)), (5, (.int .i64 x18)), (6, v0_31), (29, (.bool x44))]) ?_ ?_
 {
 refine kreg ?_
 refine sp hE (r_move hE rfl) rfl fun a hE => ?_
 refine sp hE (r_bin hE rfl rfl b_eql) rfl fun a hE => ?_
 refine sp hE (r_move hE rfl) rfl fun a hE => ?_
 rcases Bool.eq_false_or_eq_true (r27.2 == 0) with hd65 | hd65
 {
 have h := ite_T hd65 h
 refine spg hE rfl rfl rfl rfl hd65 (r_move hE rfl) rfl fun a hE => ?_
 refine spg hE rfl rfl rfl rfl hd65 (r_bin hE rfl rfl b_lss) rfl fun a hE => ?_
 refine spg hE rfl rfl rfl rfl hd65 (r_move hE rfl) rfl fun a hE => ?_
 rcases Bool.eq_false_or_eq_true (decide (x16 < 0)) with hd69 | hd69
 {
 have h := ite_T hd69 h
 refine sx hE rfl rfl rfl rfl hd69 rfl fun a hE => ?_
 refine sx hE rfl rfl rfl rfl hd69 rfl fun a hE => ?_
 refine sx hE rfl rfl rfl rfl hd69 rfl fun a hE => ?_
 refine sx hE rfl rfl rfl rfl hd69 rfl fun a hE => ?_
 refine spg hE rfl rfl rfl rfl hd65 (r_pickT hE rfl hd69 rfl) rfl fun a hE => ?_
 refine sp hE (r_pickT hE rfl hd65 rfl) rfl fun a hE => ?_
 refine knil ?_
 exact ⟨true, h, _, (M.le.refl _), hS, hE.cut ⟨rfl, rfl, rfl, rfl, rfl, rfl, trivial⟩⟩
 }
 {
 have h := ite_F hd69 h
 refine spg hE rfl rfl rfl rfl hd69 (r_move hE rfl) rfl fun a hE => ?_
 refine spg hE rfl rfl rfl rfl hd69 (r_lenSl (k := (kInt .u8)) hE rfl rfl Try.underlying37 hv0_33) rfl fun a hE => ?_
 refine spg hE rfl rfl rfl rfl hd69 (r_move hE rfl) rfl fun a hE => ?_
 refine spg hE rfl rfl rfl rfl hd69 (r_bin hE rfl rfl b_lss) rfl fun a hE => ?_
 refine spg hE rfl rfl rfl rfl hd65 (r_pickF hE rfl hd69 rfl) rfl fun a hE => ?_
 refine sp hE (r_pickT hE rfl hd65 rfl) rfl fun a hE => ?_
 refine knil ?_
 exact ⟨(decide ((r27.1.length : Int) < x16)), h, _, (M.le.refl _), hS, hE.cut ⟨rfl, rfl, rfl, rfl, rfl, rfl, trivial⟩⟩
 }
 }
 {
 have h := ite_F hd65 h
 refine sx hE rfl rfl rfl rfl hd65 rfl fun a hE => ?_
 refine sx hE rfl rfl rfl rfl hd65 rfl fun a hE => ?_
 refine sx hE rfl rfl rfl rfl hd65 rfl fun a hE => ?_
 refine sxu hE rfl rfl rfl rfl fun a hE => ?_
 refine sxu hE rfl rfl rfl rfl fun a hE => ?_
 refine sxu hE rfl rfl rfl rfl fun a hE => ?_
 refine sxu hE rfl rfl rfl rfl fun a hE => ?_
 refine sx hE rfl rfl rfl rfl hd65 rfl fun a hE => ?_
 refine sp hE (r_pickF hE rfl hd65 rfl) rfl fun a hE => ?_
 refine knil ?_
 exact ⟨false, h, _, (M.le.refl _), hS, hE.cut ⟨rfl, rfl, rfl, rfl, rfl, rfl, trivial⟩⟩
 }
 }
 {
 rintro a w ⟨x44, h, m42, hm43, hS, hE⟩
 unfold encode_Best_j2 at h
 refine kcut (fun a w => ∃ x48 : Int, ∃ x50 : Int, encode_Best_j3 x18 x48 x50 = some r20 ∧ ∃ m', M.le m42 m' ∧ inR .i64 x48 ∧ inR .i64 x50 ∧ S W0 m' w (L) (TL) ∧ Env 34 a [(0, v0), (3, (.int .i64 x48)), (4, (.int .i64 x50)), (5, (.int .i64 x18))]) ?_ ?_
 {
 refine kif hE rfl (fun hd56 => ?_) (fun hd56 => ?_)
 {
 have h := ite_T hd56 h
 refine kreg ?_
 refine sp hE (r_move hE rfl) rfl fun a hE => ?_
 refine sp hE (r_move hE rfl) rfl fun a hE => ?_
 refine sp hE (r_lenSl (k := (kInt .u8)) hE rfl rfl Try.underlying37 (hv0_33.mono hm43)) rfl fun a hE => ?_
 refine sp hE (r_assign hE rfl) rfl fun a hE => ?_
 refine sp hE (r_assign hE rfl) rfl fun a hE => ?_
 refine knil ?_
 exact ⟨x18, (r27.1.length : Int), h, _, (M.le.refl _), hr19, (inR_len (RV_len (hv0_33.mono hm43))), hS, hE.cut ⟨rfl, rfl, rfl, rfl, trivial⟩⟩
 }
 {
 have h := ite_F hd56 h
 refine kskip ?_
 exact ⟨x14, x16, h, _, (M.le.refl _), hr15, hr17, hS, hE.cut ⟨rfl, rfl, rfl, rfl, trivial⟩⟩
 }
 }
 {
 rintro a w ⟨x48, x50, h, m46, hm47, hr49, hr51, hS, hE⟩
 unfold encode_Best_j3 at h
 refine kreg ?_
 refine sp hE (r_move hE rfl) rfl fun a hE => ?_
 refine sp hE (r_bin hE rfl rfl (b_add rfl)) rfl fun a hE => ?_
 refine sp hE (r_assign hE rfl) rfl fun a hE => ?_
 refine knil ?_
 exact ⟨(x48, x50, IntKind.i64.wrap (x18 + 1)), (Option.some.inj h).symm, _, (M.le.trans hm13 (M.le.trans hm30 (M.le.trans hm43 hm47))), hr49, hr51, (inR_wrap _ _), hS, hE.cut ⟨rfl, rfl, rfl, rfl, trivial⟩⟩
 }
 }
 }
 {
 have h := ite_F hd24 h
 refine kexit rfl rfl ?_
 have h := unwrap h hb21
 exact ⟨x14, h, _, hm13, hr15, hS, hE.cut ⟨rfl, trivial⟩⟩
 }
 }
 }
 {
 rintro a w ⟨x7, h, m5, hm6, hr8, hS, hE⟩
 unfold encode_Best_j1 at h
 refine kseq ?_
 refine kreg ?_
 refine sp hE (r_move hE rfl) rfl fun a hE => ?_
 refine sp hE (r_assign hE rfl) rfl fun a hE => ?_
 refine knil ?_
 refine kret ?_
 obtain rfl := Option.some.inj h
 try dsimp only
 refine Fin.mk (fn := Try.f25) hE (rs := [.tmp 2]) rfl (ResL.tmp hE rfl ResL.nil) ?_
 exact ⟨_, hm6, hS, (RV_of_int hr8)⟩
 }
/- 22 -/
/- 23 -/
theorem c_hayloftref02_SameRow {W0 : Bse} {m : M} {w : World} {L : List (Nat × List Value)} {TL : List (Nat × Value)} (hS : S W0 m w (L) (TL)) {v0 : Value} {p0 : (List Api_Value)} (ha0 : RV (kSl kApi_Value) m v0 p0) {v1 : Value} {p1 : (List Api_Value)} (ha1 : RV (kSl kApi_Value) m v1 p1) {r : Bool} (h : hayloftref02_SameRow p0 p1 = some r) :
    Calls Try.prog 23 [v0, v1].toArray w (Ret fun v w' => ∃ m', M.le m m' ∧ S W0 m' w' (L) (TL) ∧ RV kBool m' v r) := by
 refine kcall Try.func23 rfl Try.ntmps23 (Nat.le_of_ble_eq_true rfl) fun a hE => ?_
 have hE : Env 26 a [(0, v0), (1, v1)] := hE
 unfold hayloftref02_SameRow at h
 refine kseq ?_
 refine kreg ?_
 refine sp hE (r_assign hE rfl) rfl fun a hE => ?_
 refine knil ?_
 refine kseq ?_
 refine kseq ?_
 refine kreg ?_
 refine sp hE (r_move hE rfl) rfl fun a hE => ?_
 refine sp hE (r_lenSl (k := kApi_Value) hE rfl rfl Try.underlying29 ha0) rfl fun a hE => ?_
 refine sp hE (r_move hE rfl) rfl fun a hE => ?_
 refine sp hE (r_lenSl (k := kApi_Value) hE rfl rfl Try.underlying29 ha1) rfl fun a hE => ?_
 refine sp hE (r_bin hE rfl rfl b_neq) rfl fun a hE => ?_
 refine knil ?_
 refine kif hE rfl (fun hd7 => ?_) (fun hd7 => ?_)
 {
 have h := ite_T hd7 h
 refine kseq ?_
 refine kreg ?_
 refine sp hE (r_assign hE rfl) rfl fun a hE => ?_
 refine knil ?_
 refine kret ?_
 obtain rfl := Option.some.inj h
 try dsimp only
 refine Fin.mk (fn := Try.f23) hE (rs := [.tmp 4]) rfl (ResL.tmp hE rfl ResL.nil) ?_
 exact ⟨_, (M.le.refl _), hS, RV_of_bool⟩
 }
 {
 have h := ite_F hd7 h
 refine kskip ?_
 refine kseq ?_
 refine kseq ?_
 refine kreg ?_
 refine sp hE (r_assign hE rfl) rfl fun a hE => ?_
 refine knil ?_
 refine kcut (fun a w => hayloftref02_SameRow_j1 = some r ∧ ∃ m', M.le m m' ∧ S W0 m' w (L) (TL) ∧ Env 26 a []) ?_ ?_
 {
 refine kblock ?_
 refine kloop h (fun (s : Int) a w => ∃ m', M.le m m' ∧ inR .i64 s ∧ S W0 m' w (L) (TL) ∧ Env 26 a [(0, v0), (1, v1), (5, (.int .i64 s))]) ?_ ?_
 {
 exact ⟨_, (M.le.refl _), (show inR .i64 0 from inR_lit (by decide)), hS, hE.cut ⟨rfl, rfl, rfl, trivial⟩⟩
 }
 {
 rintro x16 a w ⟨m14, hm15, hr17, hS, hE⟩ r18 h hb19
 have h : hayloftref02_SameRow_b1 p0 p1 x16 = some r18 := h
 unfold hayloftref02_SameRow_b1 at h
 refine kseq ?_
 refine kseq ?_
 refine kreg ?_
 refine sp hE (r_move hE rfl) rfl fun a hE => ?_
 refine sp hE (r_move hE rfl) rfl fun a hE => ?_
 refine sp hE (r_lenSl (k := kApi_Value) hE rfl rfl Try.underlying29 (ha0.mono hm15)) rfl fun a hE => ?_
 refine sp hE (r_bin hE rfl rfl b_lss) rfl fun a hE => ?_
 refine knil ?_
 refine kif hE rfl (fun hd24 => ?_) (fun hd24 => ?_)
 {
 have h := ite_T hd24 h
 refine kskip ?_
 refine kseq ?_
 refine kblock ?_
 refine kseq ?_
 obtain ⟨x25, hx26, h⟩ := ob h
 obtain ⟨x29, hx30, h⟩ := ob h
 refine kchain (k := 8) (m := m14) (es := []) (Φ := (fun i m ws v => match i with | 0 => v = v0 | 1 => v = (.int .i64 x16) ∧ inR .i64 x16 | 2 => PR kApi_Value m v x25 | 3 => RV kApi_Value m v x25 | 4 => v = v1 | 5 => v = (.int .i64 x16) ∧ inR .i64 x16 | 6 => PR kApi_Value m v x29 | 7 => RV kApi_Value m v x29 | _ => True)) (Q := (fun c m ws L' TL' => match c with | 0 => L = L' ∧ TL = TL' | _ => False)) (cs := [⟨0, 0, false, [(0, v0)]⟩, ⟨0, 0, false, [(5, (.int .i64 x16))]⟩, ⟨0, 0, false, []⟩, ⟨0, 0, false, []⟩, ⟨0, 0, false, [(1, v1)]⟩, ⟨0, 0, false, [(5, (.int .i64 x16))]⟩, ⟨0, 0, false, []⟩, ⟨0, 0, false, []⟩]) mixed hE hS ⟨rfl, rfl⟩ rfl rfl ⟨⟨rfl, trivial⟩, ⟨rfl, trivial⟩, trivial, trivial, ⟨rfl, trivial⟩, ⟨rfl, trivial⟩, trivial, trivial, trivial⟩ (by kernel_rfl) ?_ ?_ ?_ ?_
 {
 intro i m_ m2_ ws v hm_ hp_
 match i, hp_ with
 | 0, hp_ => exact hp_
 | 1, hp_ => exact hp_
 | 2, hp_ => exact PR.mono hp_ hm_
 | 3, hp_ => exact RV.mono hp_ hm_
 | 4, hp_ => exact hp_
 | 5, hp_ => exact hp_
 | 6, hp_ => exact PR.mono hp_ hm_
 | 7, hp_ => exact RV.mono hp_ hm_
 | _ + 8, hp_ => exact trivial
 }
 {
 intro c m_ m2_ ws L_ T_ hm_ hq_
 match c, hq_ with
 | 0, ⟨e1_, e2_⟩ => exact ⟨e1_, e2_⟩
 | _ + 1, hq_ => exact hq_.elim
 }
 {
 refine ⟨?_, ?_, ?_, ?_, ?_, ?_, ?_, ?_, trivial⟩
 {
 refine cplain fun pre_ post_ L_ T_ m' a' w' hl' hp' hm' hq' hS' hE' hT' => ?_
 obtain rfl := len0 hl'
 refine Step.imp (Run1.pure (r_move hE' rfl)) ?_
 rintro _ _ ⟨rfl, rfl⟩
 exact ⟨_, M.le.refl _, hS', rfl⟩
 }
 {
 refine cplain fun pre_ post_ L_ T_ m' a' w' hl' hp' hm' hq' hS' hE' hT' => ?_
 obtain rfl := len0 hl'
 refine Step.imp (Run1.pure (r_move hE' rfl)) ?_
 rintro _ _ ⟨rfl, rfl⟩
 exact ⟨_, M.le.refl _, hS', ⟨rfl, hr17⟩⟩
 }
 {
 refine cplain fun pre_ post_ L_ T_ m' a' w' hl' hp' hm' hq' hS' hE' hT' => ?_
 obtain rfl := len0 hl'
 obtain ⟨v35, e36, q37⟩ : ∃ v, a'.tmps.getD 17 undef = v ∧ (v = v0) := ⟨_, rfl, hT' 0 (by decide) 17 rfl⟩
 have hE := hE'.add (e36.trans q37)
 obtain ⟨v38, e39, q40⟩ : ∃ v, a'.tmps.getD 18 undef = v ∧ (v = (.int .i64 x16) ∧ inR .i64 x16) := ⟨_, rfl, hT' 1 (by decide) 18 rfl⟩
 obtain ⟨q40, hr41⟩ := q40
 have hE := hE.add (e39.trans q40)
 refine Step.imp (st_index (k := kApi_Value) hE rfl rfl Try.underlying29 Try.sizeOf53 (ha0.mono (M.le.trans hm15 hm')) hx26) ?_
 rintro v42 _ ⟨rfl, hp27⟩
 exact ⟨_, M.le.refl _, hS', hp27⟩
 }
 {
 refine cplain fun pre_ post_ L_ T_ m' a' w' hl' hp' hm' hq' hS' hE' hT' => ?_
 obtain rfl := len0 hl'
 obtain ⟨v43, e44, q45⟩ : ∃ v, a'.tmps.getD 19 undef = v ∧ (PR kApi_Value m' v x25) := ⟨_, rfl, hT' 2 (by decide) 19 rfl⟩
 have hE := hE'.add (e44)
 refine Step.imp (st_loadM hE hS' ty53 rfl q45) ?_
 rintro v46 _ ⟨rfl, hv28⟩
 exact ⟨_, M.le.refl _, hS', hv28⟩
 }
 {
 refine cplain fun pre_ post_ L_ T_ m' a' w' hl' hp' hm' hq' hS' hE' hT' => ?_
 obtain rfl := len0 hl'
 refine Step.imp (Run1.pure (r_move hE' rfl)) ?_
 rintro _ _ ⟨rfl, rfl⟩
 exact ⟨_, M.le.refl _, hS', rfl⟩
 }
 {
 refine cplain fun pre_ post_ L_ T_ m' a' w' hl' hp' hm' hq' hS' hE' hT' => ?_
 obtain rfl := len0 hl'
 refine Step.imp (Run1.pure (r_move hE' rfl)) ?_
 rintro _ _ ⟨rfl, rfl⟩
 exact ⟨_, M.le.refl _, hS', ⟨rfl, hr17⟩⟩
 }
 {
 refine cplain fun pre_ post_ L_ T_ m' a' w' hl' hp' hm' hq' hS' hE' hT' => ?_
 obtain rfl := len0 hl'
 obtain ⟨v49, e50, q51⟩ : ∃ v, a'.tmps.getD 21 undef = v ∧ (v = v1) := ⟨_, rfl, hT' 4 (by decide) 21 rfl⟩
 have hE := hE'.add (e50.trans q51)
 obtain ⟨v52, e53, q54⟩ : ∃ v, a'.tmps.getD 22 undef = v ∧ (v = (.int .i64 x16) ∧ inR .i64 x16) := ⟨_, rfl, hT' 5 (by decide) 22 rfl⟩
 obtain ⟨q54, hr55⟩ := q54
 have hE := hE.add (e53.trans q54)
 refine Step.imp (st_index (k := kApi_Value) hE rfl rfl Try.underlying29 Try.sizeOf53 (ha1.mono (M.le.trans hm15 hm')) hx30) ?_
 rintro v56 _ ⟨rfl, hp31⟩
 exact ⟨_, M.le.refl _, hS', hp31⟩
 }
 {
 refine cplain fun pre_ post_ L_ T_ m' a' w' hl' hp' hm' hq' hS' hE' hT' => ?_
 obtain rfl := len0 hl'
 obtain ⟨v57, e58, q59⟩ : ∃ v, a'.tmps.getD 23 undef = v ∧ (PR kApi_Value m' v x29) := ⟨_, rfl, hT' 6 (by decide) 23 rfl⟩
 have hE := hE'.add (e58)
 refine Step.imp (st_loadM hE hS' ty53 rfl q59) ?_
 rintro v60 _ ⟨rfl, hv32⟩
 exact ⟨_, M.le.refl _, hS', hv32⟩
 }
 }
 {
 intro ws_ L_ T_ m61 a w hl62 hm63 hq64 hS hd65 hn66 ho67 hT68
 obtain rfl := len0 hl62
 obtain ⟨rfl, rfl⟩ := hq64
 have hE := EnvD.of (k := 8) (l' := [(0, v0), (1, v1), (5, (.int .i64 x16)), (11, (.int .i64 x16)), (12, v0), (13, (.int .i64 (p0.length : Int))), (14, (.bool (decide (x16 < (p0.length : Int)))))]) hd65 hn66 ho67 ⟨rfl, rfl, rfl, rfl, rfl, rfl, rfl, trivial⟩ rfl
 obtain ⟨v69, e70, q71⟩ : ∃ v, a.tmps.getD 20 undef = v ∧ (RV kApi_Value m61 v x25) := ⟨_, rfl, hT68 3 (by decide) 20 rfl⟩
 have hE := hE.add (e70)
 obtain ⟨v72, e73, q74⟩ : ∃ v, a.tmps.getD 24 undef = v ∧ (RV kApi_Value m61 v x29) := ⟨_, rfl, hT68 7 (by decide) 24 rfl⟩
 have hE := hE.add (e73)
 refine sp hE (r_neqK hE eq53 rfl rfl q71 q74 rfl) rfl fun a hE => ?_
 refine knil ?_
 refine kif hE rfl (fun hd76 => ?_) (fun hd76 => ?_)
 {
 have h := ite_T hd76 h
 refine kseq ?_
 refine kreg ?_
 refine sp hE (r_assign hE rfl) rfl fun a hE => ?_
 refine knil ?_
 refine kret ?_
 have h := unwrap h hb19
 obtain rfl := Option.some.inj h
 try dsimp only
 refine Fin.mk (fn := Try.f23) hE (rs := [.tmp 4]) rfl (ResL.tmp hE rfl ResL.nil) ?_
 exact ⟨_, (M.le.trans hm15 hm63), hS, RV_of_bool⟩
 }
 {
 have h := ite_F hd76 h
 refine kskip ?_
 refine kreg ?_
 refine sp hE (r_move hE rfl) rfl fun a hE => ?_
 refine sp hE (r_bin hE rfl rfl (b_add rfl)) rfl fun a hE => ?_
 refine sp hE (r_assign hE rfl) rfl fun a hE => ?_
 refine knil ?_
 exact ⟨IntKind.i64.wrap (x16 + 1), (Option.some.inj h).symm, _, (M.le.trans hm15 hm63), (inR_wrap _ _), hS, hE.cut ⟨rfl, rfl, rfl, trivial⟩⟩
 }
 }
 }
 {
 have h := ite_F hd24 h
 refine kexit rfl rfl ?_
 have h := unwrap h hb19
 exact ⟨h, _, hm15, hS, hE.cut trivial⟩
 }
 }
 }
 {
 rintro a w ⟨h, m10, hm11, hS, hE⟩
 unfold hayloftref02_SameRow_j1 at h
 refine kseq ?_
 refine kreg ?_
 refine sp hE (r_assign hE rfl) rfl fun a hE => ?_
 refine knil ?_
 refine kret ?_
 obtain rfl := Option.some.inj h
 try dsimp only
 refine Fin.mk (fn := Try.f23) hE (rs := [.tmp 4]) rfl (ResL.tmp hE rfl ResL.nil) ?_
 exact ⟨_, hm11, hS, RV_of_bool⟩
 }
 }
/- 4 -/
/- 5 -/
/- 26 -/
/- 6 -/
end Go.Proofs.Ytifobhaccglckaa.Hay
