import Derived.Test.YtifobhaccglckaaHbkT
import Derived.Test.YtifobhaccglckaaHbkY
import Derived.Test.YtifobhaccglckaaHbO
import Derived.Test.YtifobhaccglckaaHbkL
set_option maxRecDepth 100000
set_option maxHeartbeats 4000000
set_option linter.unusedVariables false
namespace Go.Proofs.Ytifobhaccglckaa.Hay
open Go.Proofs
theorem c_value_Null {W0 : Bse} {m : M} {w : World} {L : List (Nat × List Value)} {TL : List (Nat × Value)} (hS : S W0 m w (L) (TL))  {r : AV} (h : value_Null = some r) :
    Calls Try.prog 97 [].toArray w (Ret fun v w' => ∃ m', M.le m m' ∧ S W0 m' w' (L) (TL) ∧ RV kAV m' v r) := by
 refine kcall Try.func97 rfl Try.ntmps97 (Nat.le_of_ble_eq_true rfl) fun a hE => ?_
 have hE : Env 2 a [] := hE
 unfold value_Null at h
 refine kseq (kreg ?_)
 refine st hE (st_alloc hS Try.zeroValue53 rfl (cs := zc53)) rfl ?_
 rintro _ a w ⟨b1, rfl, hS⟩ hE
 refine knil (kseq (kreg ?_))
 refine st hE (st_build (m := m) (k := kAV) (x0 := AV.zero) (xx := (⟨0, false, 0, []⟩ : AV)) (pl := [(0, 1), (1, 1), (2, 1), (3, 1)]) (pv := []) hE rfl Try.underlying53 rfl Try.zeroValue53 zr53 rfl .nil) rfl ?_
 rintro v4 a _ ⟨rfl, hv3⟩ hE
 refine st0 hE (st_storeF hE hS ty53 StF_self rfl rfl hv3 (i := 0) rfl (zr53 _)) ?_
 rintro _ w ⟨cs5, hc6, hS⟩ hE
 refine knil (kret ?_)
 obtain rfl := oi h
 try dsimp only
 refine Fin.mk hE (rs := [.cell 0 53]) rfl (ResL.cell hE hS ty53 rfl (i := 0) rfl (R_whole hc6) ResL.nil) ?_
 exact ⟨_, (M.le.refl _), (hS.dropL 1), (RV_of_R (R_whole hc6))⟩
theorem c_value_Bool {W0 : Bse} {m : M} {w : World} {L : List (Nat × List Value)} {TL : List (Nat × Value)} (hS : S W0 m w (L) (TL)) {p0 : Bool} {r : AV} (h : value_Bool p0 = some r) :
    Calls Try.prog 98 [(.bool p0)].toArray w (Ret fun v w' => ∃ m', M.le m m' ∧ S W0 m' w' (L) (TL) ∧ RV kAV m' v r) := by
 refine kcall Try.func98 rfl Try.ntmps98 (Nat.le_of_ble_eq_true rfl) fun a hE => ?_
 have hE : Env 5 a [(0, (.bool p0))] := hE
 unfold value_Bool at h
 refine kseq (kreg ?_)
 refine st hE (st_alloc hS Try.zeroValue53 rfl (cs := zc53)) rfl ?_
 rintro _ a w ⟨b1, rfl, hS⟩ hE
 refine knil (kseq (kreg ?_))
 refine qm hE rfl rfl fun a hE => ?_
 refine st hE (st_build (m := m) (k := kAV) (x0 := AV.zero) (xx := (⟨1, p0, 0, []⟩ : AV)) (pl := [(0, 1), (1, 1), (2, 1), (3, 1)]) (pv := [(0, (.int .i64 1)), (1, (.bool p0))]) hE rfl Try.underlying53 rfl Try.zeroValue53 zr53 rfl (.cons rfl sf53_0 (RV_of_int (show inR .i64 1 from inR_lit (by decide))) (.cons rfl sf53_1 RV_of_bool .nil))) rfl ?_
 rintro v5 a _ ⟨rfl, hv4⟩ hE
 refine st0 hE (st_storeF hE hS ty53 StF_self rfl rfl hv4 (i := 0) rfl (zr53 _)) ?_
 rintro _ w ⟨cs6, hc7, hS⟩ hE
 refine knil (kret ?_)
 obtain rfl := oi h
 try dsimp only
 refine Fin.mk hE (rs := [.cell 2 53]) rfl (ResL.cell hE hS ty53 rfl (i := 0) rfl (R_whole hc7) ResL.nil) ?_
 exact ⟨_, (M.le.refl _), (hS.dropL 1), (RV_of_R (R_whole hc7))⟩
theorem c_rows_number {W0 : Bse} {m : M} {w : World} {L : List (Nat × List Value)} {TL : List (Nat × Value)} (hS : S W0 m w (L) (TL)) {v0 : Value} {p0 : (List Int)} (ha0 : RV (kSl (kInt .u8)) m v0 p0) {r : Int} (h : rows_number p0 = some r) :
    Calls Try.prog 156 [v0].toArray w (Ret fun v w' => ∃ m', M.le m m' ∧ S W0 m' w' (L) (TL) ∧ RV (kInt .u64) m' v r) := by
 refine kcall Try.func156 rfl Try.ntmps156 (Nat.le_of_ble_eq_true rfl) fun a hE => ?_
 have hE : Env 18 a [(0, v0)] := hE
 unfold rows_number at h
 refine kseq (kreg ?_)
 refine qa hE rfl rfl fun a hE => ?_
 refine knil (kseq (kreg ?_))
 refine qa hE rfl rfl fun a hE => ?_
 refine knil (kseq (kseq (kreg ?_)))
 refine qm hE rfl rfl fun a hE => ?_
 refine knil ?_
 refine kcut (fun a w => ∃ x6 : Int, rows_number_j1 x6 = some r ∧ ∃ m', M.le m m' ∧ inR .u64 x6 ∧ S W0 m' w (L) (TL) ∧ Env 18 a [(3, (.int .u64 x6))]) ?_ ?_
 {
 refine kblock ?_
 refine kloop h (fun (s : (Int × Int)) a w => ∃ m', M.le m m' ∧ inR .u64 s.1 ∧ inR .i64 s.2 ∧ S W0 m' w (L) (TL) ∧ Env 18 a [(0, v0), (3, (.int .u64 s.1)), (5, (.int .i64 s.2))]) ?_ ?_
 {
 exact ⟨_, (M.le.refl _), (show inR .u64 0 from inR_lit (by decide)), (show inR .i64 0 from inR_lit (by decide)), hS, hE.cut ⟨rfl, rfl, rfl, trivial⟩⟩
 }
 {
 rintro ⟨x13, x15⟩ a w ⟨m11, hm12, hr14, hr16, hS, hE⟩ r17 h hb18
 have h : rows_number_b1 p0 x13 x15 = some r17 := h
 unfold rows_number_b1 at h
 refine kseq (kreg ?_)
 refine sp hE (r_bin hE rfl rfl b_lss) rfl fun a hE => ?_
 refine knil (kseq ?_)
 refine kif hE rfl (fun hd20 => ?_) (fun hd20 => ?_)
 {
 have h := ite_T hd20 h
 refine kskip (kseq (kblock (kseq (kreg ?_))))
 refine qm hE rfl rfl fun a hE => ?_
 refine qa hE rfl rfl fun a hE => ?_
 refine knil (kreg ?_)
 refine qm hE rfl rfl fun a hE => ?_
 refine sp hE (r_bin hE rfl rfl (b_shl rfl (by decide))) rfl fun a hE => ?_
 refine qm hE rfl rfl fun a hE => ?_
 refine qm hE rfl rfl fun a hE => ?_
 obtain ⟨x27, hx28, h⟩ := ob h
 refine st hE (st_index (k := (kInt .u8)) hE rfl rfl Try.underlying37 Try.sizeOf5 (ha0.mono hm12) hx28) rfl ?_
 rintro v30 a _ ⟨rfl, hp29⟩ hE
 refine st hE (st_loadM hE hS ty5 rfl hp29) rfl ?_
 rintro v32 a _ ⟨rfl, hv31⟩ hE
 obtain ⟨rfl, hr33⟩ := RV_int hv31
 refine sp hE (r_conv hE rfl Try.underlying5 Try.underlying24 rfl) rfl fun a hE => ?_
 refine sp hE (r_bin hE rfl rfl (b_or rfl)) rfl fun a hE => ?_
 refine qa hE rfl rfl fun a hE => ?_
 refine knil (kreg ?_)
 refine sp hE (r_bin hE rfl rfl (b_add rfl)) rfl fun a hE => ?_
 refine qm hE rfl rfl fun a hE => ?_
 refine knil ?_
 exact ⟨(bOr .u64 (iShl .u64 x13 8) (IntKind.u64.wrap x27), IntKind.i64.wrap (x15 + 1)), (Option.some.inj h).symm, _, hm12, (inR_or _ _ _), (inR_wrap _ _), hS, hE.cut ⟨rfl, rfl, rfl, trivial⟩⟩
 }
 {
 have h := ite_F hd20 h
 refine kexit rfl rfl ?_
 have h := unwrap h hb18
 exact ⟨x13, h, _, hm12, hr14, hS, hE.cut ⟨rfl, trivial⟩⟩
 }
 }
 }
 {
 rintro a w ⟨x6, h, m4, hm5, hr7, hS, hE⟩
 unfold rows_number_j1 at h
 refine kseq (kreg ?_)
 refine qm hE rfl rfl fun a hE => ?_
 refine qa hE rfl rfl fun a hE => ?_
 refine knil (kret ?_)
 obtain rfl := oi h
 try dsimp only
 refine Fin.mk hE (rs := [.tmp 2]) rfl (ResL.tmp hE rfl ResL.nil) ?_
 exact ⟨_, hm5, hS, (RV_of_int hr7)⟩
 }
theorem c_value_Int {W0 : Bse} {m : M} {w : World} {L : List (Nat × List Value)} {TL : List (Nat × Value)} (hS : S W0 m w (L) (TL)) {p0 : Int} (ha0 : inR .i64 p0) {r : AV} (h : value_Int p0 = some r) :
    Calls Try.prog 90 [(.int .i64 p0)].toArray w (Ret fun v w' => ∃ m', M.le m m' ∧ S W0 m' w' (L) (TL) ∧ RV kAV m' v r) := by
 refine kcall Try.func90 rfl Try.ntmps90 (Nat.le_of_ble_eq_true rfl) fun a hE => ?_
 have hE : Env 5 a [(0, (.int .i64 p0))] := hE
 unfold value_Int at h
 refine kseq (kreg ?_)
 refine st hE (st_alloc hS Try.zeroValue53 rfl (cs := zc53)) rfl ?_
 rintro _ a w ⟨b1, rfl, hS⟩ hE
 refine knil (kseq (kreg ?_))
 refine qm hE rfl rfl fun a hE => ?_
 refine st hE (st_build (m := m) (k := kAV) (x0 := AV.zero) (xx := (⟨2, false, p0, []⟩ : AV)) (pl := [(0, 1), (1, 1), (2, 1), (3, 1)]) (pv := [(0, (.int .i64 2)), (2, (.int .i64 p0))]) hE rfl Try.underlying53 rfl Try.zeroValue53 zr53 rfl (.cons rfl sf53_0 (RV_of_int (show inR .i64 2 from inR_lit (by decide))) (.cons rfl sf53_2 (RV_of_int ha0) .nil))) rfl ?_
 rintro v5 a _ ⟨rfl, hv4⟩ hE
 refine st0 hE (st_storeF hE hS ty53 StF_self rfl rfl hv4 (i := 0) rfl (zr53 _)) ?_
 rintro _ w ⟨cs6, hc7, hS⟩ hE
 refine knil (kret ?_)
 obtain rfl := oi h
 try dsimp only
 refine Fin.mk hE (rs := [.cell 2 53]) rfl (ResL.cell hE hS ty53 rfl (i := 0) rfl (R_whole hc7) ResL.nil) ?_
 exact ⟨_, (M.le.refl _), (hS.dropL 1), (RV_of_R (R_whole hc7))⟩
theorem c_value_Text {W0 : Bse} {m : M} {w : World} {L : List (Nat × List Value)} {TL : List (Nat × Value)} (hS : S W0 m w (L) (TL)) {p0 : List Int} (ha0 : ∀ n ∈ p0, 0 ≤ n ∧ n < 256) (hl0_ : p0.length ≤ maxSz) {r : AV} (h : value_Text p0 = some r) :
    Calls Try.prog 99 [(.string (bts p0))].toArray w (Ret fun v w' => ∃ m', M.le m m' ∧ S W0 m' w' (L) (TL) ∧ RV kAV m' v r) := by
 refine kcall Try.func99 rfl Try.ntmps99 (Nat.le_of_ble_eq_true rfl) fun a hE => ?_
 have hE : Env 5 a [(0, (.string (bts p0)))] := hE
 unfold value_Text at h
 refine kseq (kreg ?_)
 refine st hE (st_alloc hS Try.zeroValue53 rfl (cs := zc53)) rfl ?_
 rintro _ a w ⟨b1, rfl, hS⟩ hE
 refine knil (kseq (kreg ?_))
 refine qm hE rfl rfl fun a hE => ?_
 refine st hE (st_build (m := m) (k := kAV) (x0 := AV.zero) (xx := (⟨3, false, 0, p0⟩ : AV)) (pl := [(0, 1), (1, 1), (2, 1), (3, 1)]) (pv := [(0, (.int .i64 3)), (3, (.string (bts p0)))]) hE rfl Try.underlying53 rfl Try.zeroValue53 zr53 rfl (.cons rfl sf53_0 (RV_of_int (show inR .i64 3 from inR_lit (by decide))) (.cons rfl sf53_3 (RV_of_str ha0 hl0_) .nil))) rfl ?_
 rintro v5 a _ ⟨rfl, hv4⟩ hE
 refine st0 hE (st_storeF hE hS ty53 StF_self rfl rfl hv4 (i := 0) rfl (zr53 _)) ?_
 rintro _ w ⟨cs6, hc7, hS⟩ hE
 refine knil (kret ?_)
 obtain rfl := oi h
 try dsimp only
 refine Fin.mk hE (rs := [.cell 2 53]) rfl (ResL.cell hE hS ty53 rfl (i := 0) rfl (R_whole hc7) ResL.nil) ?_
 exact ⟨_, (M.le.refl _), (hS.dropL 1), (RV_of_R (R_whole hc7))⟩
theorem c_rows_read {W0 : Bse} {m : M} {w : World} {L : List (Nat × List Value)} {TL : List (Nat × Value)} (hS : S W0 m w (L) (TL)) {v0 : Value} {p0 : (List Int)} (ha0 : RV (kSl (kInt .u8)) m v0 p0) {r : (AV × (List Int) × Bool)} (h : rows_read p0 = some r) :
    Calls Try.prog 142 [v0].toArray w (Ret fun v w' => ∃ m', M.le m m' ∧ S W0 m' w' (L) (TL) ∧ ∃ v0_ v1_ v2_ : Value, v = .tuple #[v0_, v1_, v2_] ∧ RV kAV m' v0_ r.1 ∧ RV (kSl (kInt .u8)) m' v1_ r.2.1 ∧ RV kBool m' v2_ r.2.2) := by
 refine kcall Try.func142 rfl Try.ntmps142 (Nat.le_of_ble_eq_true rfl) fun a hE => ?_
 have hE : Env 94 a [(0, v0)] := hE
 unfold rows_read at h
 refine kseq (kreg ?_)
 refine st hE (st_alloc hS Try.zeroValue53 rfl (cs := zc53)) rfl ?_
 rintro _ a w ⟨b1, rfl, hS⟩ hE
 refine qa hE rfl rfl fun a hE => ?_
 refine qa hE rfl rfl fun a hE => ?_
 refine knil (kseq (kseq (kreg ?_)))
 refine qm hE rfl rfl fun a hE => ?_
 refine sp hE (r_lenSl (k := (kInt .u8)) hE rfl rfl Try.underlying37 ha0) rfl fun a hE => ?_
 refine sp hE (r_bin hE rfl rfl b_eql) rfl fun a hE => ?_
 refine knil ?_
 refine kif hE rfl (fun hd8 => ?_) (fun hd8 => ?_)
 {
 have h := ite_T hd8 h
 refine kseq (kreg ?_)
 refine st hE (st_build (m := m) (k := kAV) (x0 := AV.zero) (xx := (⟨0, false, 0, []⟩ : AV)) (pl := [(0, 1), (1, 1), (2, 1), (3, 1)]) (pv := []) hE rfl Try.underlying53 rfl Try.zeroValue53 zr53 rfl .nil) rfl ?_
 rintro v10 a _ ⟨rfl, hv9⟩ hE
 refine st0 hE (st_storeF hE hS ty53 StF_self rfl rfl hv9 (i := 0) rfl (zr53 _)) ?_
 rintro _ w ⟨cs11, hc12, hS⟩ hE
 refine qa hE rfl rfl fun a hE => ?_
 refine qa hE rfl rfl fun a hE => ?_
 refine knil (kret ?_)
 obtain rfl := oi h
 try dsimp only
 refine Fin.mk hE (rs := [.cell 2 53, .tmp 3, .tmp 4]) rfl (ResL.cell hE hS ty53 rfl (i := 0) rfl (R_whole hc12) (ResL.tmp hE rfl (ResL.tmp hE rfl ResL.nil))) ?_
 exact ⟨_, (M.le.refl _), (hS.dropL 1), _, _, _, rfl, (RV_of_R (R_whole hc12)), RV_nil, RV_of_bool⟩
 }
 {
 have h := ite_F hd8 h
 refine kskip (kseq ?_)
 obtain ⟨x16, hx17, h⟩ := ob h
 obtain ⟨x21, hx22, h⟩ := ob h
 refine kchain (k := 7) (m := m) (es := []) (Φ := (fun i m ws v => match i with | 0 => v = v0 | 1 => PR (kInt .u8) m v x16 | 2 => v = (.int .u8 x16) ∧ inR .u8 x16 | 3 => v = (.int .i64 (IntKind.i64.wrap x16)) ∧ inR .i64 (IntKind.i64.wrap x16) | 4 => v = v0 | 5 => RV (kSl (kInt .u8)) m v x21 | 6 => v = (.int .i64 (IntKind.i64.wrap x16)) ∧ inR .i64 (IntKind.i64.wrap x16) | _ => True)) (Q := (fun c m ws L' TL' => match c with | 0 => (b1, zc53) :: L = L' ∧ TL = TL' | _ => False)) (cs := [⟨0, 0, false, [(0, v0)]⟩, ⟨0, 0, false, []⟩, ⟨0, 0, false, []⟩, ⟨0, 0, false, []⟩, ⟨0, 0, false, [(0, v0)]⟩, ⟨0, 0, false, []⟩, ⟨0, 0, false, []⟩]) mixed hE hS ⟨rfl, rfl⟩ rfl rfl ⟨⟨rfl, trivial⟩, trivial, trivial, trivial, ⟨rfl, trivial⟩, trivial, trivial, trivial⟩ (by kernel_rfl) ?_ ?_ ?_ ?_
 {
 intro i m_ m2_ ws v hm_ hp_
 match i, hp_ with
 | 0, hp_ => exact hp_
 | 1, hp_ => exact PR.mono hp_ hm_
 | 2, hp_ => exact hp_
 | 3, hp_ => exact hp_
 | 4, hp_ => exact hp_
 | 5, hp_ => exact RV.mono hp_ hm_
 | 6, hp_ => exact hp_
 | _ + 7, hp_ => exact trivial
 }
 {
 intro c m_ m2_ ws L_ T_ hm_ hq_
 match c, hq_ with
 | 0, ⟨e1_, e2_⟩ => exact ⟨e1_, e2_⟩
 | _ + 1, hq_ => exact hq_.elim
 }
 {
 refine ⟨?_, ?_, ?_, ?_, ?_, ?_, ?_, trivial⟩
 {
 refine cplain fun pre_ post_ L_ T_ m' a' w' hl' hp' hm' hq' hS' hE' hT' => ?_
 obtain rfl := len0 hl'
 refine Step.imp (Run1.pure (r_move hE' rfl)) ?_
 rintro _ _ ⟨rfl, rfl⟩
 exact ⟨_, M.le.refl _, hS', rfl⟩
 }
 {
 refine cplain fun pre_ post_ L_ T_ m' a' w' hl' hp' hm' hq' hS' hE' hT' => ?_
 obtain rfl := len0 hl'
 obtain ⟨v25, e26, q27⟩ : ∃ v, a'.tmps.getD 10 undef = v ∧ (v = v0) := ⟨_, rfl, hT' 0 (by decide) 10 rfl⟩
 have hE := hE'.add (e26.trans q27)
 refine Step.imp (st_index (k := (kInt .u8)) hE rfl rfl Try.underlying37 Try.sizeOf5 (ha0.mono hm') hx17) ?_
 rintro v28 _ ⟨rfl, hp18⟩
 exact ⟨_, M.le.refl _, hS', hp18⟩
 }
 {
 refine cplain fun pre_ post_ L_ T_ m' a' w' hl' hp' hm' hq' hS' hE' hT' => ?_
 obtain rfl := len0 hl'
 obtain ⟨v29, e30, q31⟩ : ∃ v, a'.tmps.getD 11 undef = v ∧ (PR (kInt .u8) m' v x16) := ⟨_, rfl, hT' 1 (by decide) 11 rfl⟩
 have hE := hE'.add (e30)
 refine Step.imp (st_loadM hE hS' ty5 rfl q31) ?_
 rintro v32 _ ⟨rfl, hv19⟩
 obtain ⟨rfl, hr33⟩ := RV_int hv19
 exact ⟨_, M.le.refl _, hS', ⟨rfl, hr33⟩⟩
 }
 {
 refine cplain fun pre_ post_ L_ T_ m' a' w' hl' hp' hm' hq' hS' hE' hT' => ?_
 obtain rfl := len0 hl'
 obtain ⟨v34, e35, q36⟩ : ∃ v, a'.tmps.getD 12 undef = v ∧ (v = (.int .u8 x16) ∧ inR .u8 x16) := ⟨_, rfl, hT' 2 (by decide) 12 rfl⟩
 obtain ⟨q36, hr37⟩ := q36
 have hE := hE'.add (e35.trans q36)
 refine Step.imp (Run1.pure (r_conv hE rfl Try.underlying5 Try.underlying3 rfl)) ?_
 rintro _ _ ⟨rfl, rfl⟩
 exact ⟨_, M.le.refl _, hS', ⟨rfl, (inR_wrap _ _)⟩⟩
 }
 {
 refine cplain fun pre_ post_ L_ T_ m' a' w' hl' hp' hm' hq' hS' hE' hT' => ?_
 obtain rfl := len0 hl'
 refine Step.imp (Run1.pure (r_move hE' rfl)) ?_
 rintro _ _ ⟨rfl, rfl⟩
 exact ⟨_, M.le.refl _, hS', rfl⟩
 }
 {
 refine cplain fun pre_ post_ L_ T_ m' a' w' hl' hp' hm' hq' hS' hE' hT' => ?_
 obtain rfl := len0 hl'
 obtain ⟨v40, e41, q42⟩ : ∃ v, a'.tmps.getD 14 undef = v ∧ (v = v0) := ⟨_, rfl, hT' 4 (by decide) 14 rfl⟩
 have hE := hE'.add (e41.trans q42)
 refine Step.imp (st_slice (k := (kInt .u8)) hE rfl Try.underlying37 Try.sizeOf5 (ha0.mono hm') ⟨_, rfl⟩ rfl hx22 (xl := (some (.const (.int .i64 1)))) (xh := none)) ?_
 rintro v43 _ ⟨rfl, hv23⟩
 exact ⟨_, M.le.refl _, hS', hv23⟩
 }
 {
 refine cplain fun pre_ post_ L_ T_ m' a' w' hl' hp' hm' hq' hS' hE' hT' => ?_
 obtain rfl := len0 hl'
 obtain ⟨v44, e45, q46⟩ : ∃ v, a'.tmps.getD 13 undef = v ∧ (v = (.int .i64 (IntKind.i64.wrap x16)) ∧ inR .i64 (IntKind.i64.wrap x16)) := ⟨_, rfl, hT' 3 (by decide) 13 rfl⟩
 obtain ⟨q46, hr47⟩ := q46
 have hE := hE'.add (e45.trans q46)
 refine Step.imp (Run1.pure (r_assign hE rfl)) ?_
 rintro _ _ ⟨rfl, rfl⟩
 exact ⟨_, M.le.refl _, hS', ⟨rfl, hr47⟩⟩
 }
 }
 {
 intro ws_ L_ T_ m49 a w hl50 hm51 hq52 hS hd53 hn54 ho55 hT56
 obtain rfl := len0 hl50
 obtain ⟨rfl, rfl⟩ := hq52
 have hE := EnvD.of (k := 7) (l' := [(0, v0), (2, (.pointer (some ⟨b1, 0, none⟩))), (3, (.slice none 0 0)), (4, (.bool false)), (6, v0), (7, (.int .i64 (p0.length : Int))), (8, (.bool ((p0.length : Int) == 0)))]) hd53 hn54 ho55 ⟨rfl, rfl, rfl, rfl, rfl, rfl, rfl, trivial⟩ rfl
 obtain ⟨v57, e58, q59⟩ : ∃ v, a.tmps.getD 15 undef = v ∧ (RV (kSl (kInt .u8)) m49 v x21) := ⟨_, rfl, hT56 5 (by decide) 15 rfl⟩
 have hE := hE.add (e58)
 obtain ⟨v60, e61, q62⟩ : ∃ v, a.tmps.getD 5 undef = v ∧ (v = (.int .i64 (IntKind.i64.wrap x16)) ∧ inR .i64 (IntKind.i64.wrap x16)) := ⟨_, rfl, hT56 6 (by decide) 5 rfl⟩
 obtain ⟨q62, hr63⟩ := q62
 have hE := hE.add (e61.trans q62)
 refine qa hE rfl rfl fun a hE => ?_
 refine knil (kseq (kblock (kseq (kreg ?_))))
 refine qm hE rfl rfl fun a hE => ?_
 refine sp hE (r_bin hE rfl rfl b_eql) rfl fun a hE => ?_
 refine qa hE rfl rfl fun a hE => ?_
 refine knil ?_
 refine kif hE rfl (fun hd68 => ?_) (fun hd68 => ?_)
 {
 have h := ite_T hd68 h
 refine kseq (kreg ?_)
 obtain ⟨r69, hr70, h⟩ := ob h
 refine st hE (st_call (vs := []) hE rfl Try.call97 (c_value_Null (hS := hS) hr70)) rfl ?_
 rintro v74 a w ⟨m71, hm72, hS, hv73⟩ hE
 refine qm hE rfl rfl fun a hE => ?_
 refine st0 hE (st_storeF hE hS ty53 StF_self rfl rfl hv73 (i := 0) rfl (zr53 _)) ?_
 rintro _ w ⟨cs76, hc77, hS⟩ hE
 refine qa hE rfl rfl fun a hE => ?_
 refine qa hE rfl rfl fun a hE => ?_
 refine knil (kret ?_)
 obtain rfl := oi h
 try dsimp only
 refine Fin.mk hE (rs := [.cell 2 53, .tmp 3, .tmp 4]) rfl (ResL.cell hE hS ty53 rfl (i := 0) rfl (R_whole hc77) (ResL.tmp hE rfl (ResL.tmp hE rfl ResL.nil))) ?_
 exact ⟨_, (M.le.trans hm51 hm72), (hS.dropL 1), _, _, _, rfl, (RV_of_R (R_whole hc77)), (q59.mono hm72), RV_of_bool⟩
 }
 {
 have h := ite_F hd68 h
 refine kseq ?_
 refine kcut (fun a w => ∃ x83 : Bool, rows_read_j1 x16 x21 x83 = some r ∧ ∃ m', M.le m49 m' ∧ S W0 m' w ((b1, zc53) :: L) (TL) ∧ Env 94 a [(0, v57), (2, (.pointer (some ⟨b1, 0, none⟩))), (5, (.int .i64 (IntKind.i64.wrap x16))), (21, (.bool x83))]) ?_ ?_
 {
 refine kreg ?_
 refine qm hE rfl rfl fun a hE => ?_
 refine sp hE (r_bin hE rfl rfl b_eql) rfl fun a hE => ?_
 refine qm hE rfl rfl fun a hE => ?_
 rcases Bool.eq_false_or_eq_true ((IntKind.i64.wrap x16) == 1) with hd376 | hd376
 {
 have h := ite_T hd376 h
 refine spg hE rfl rfl rfl rfl hd376 (r_move hE rfl) rfl fun a hE => ?_
 refine spg hE rfl rfl rfl rfl hd376 (r_lenSl (k := (kInt .u8)) hE rfl rfl Try.underlying37 q59) rfl fun a hE => ?_
 refine spg hE rfl rfl rfl rfl hd376 (r_bin hE rfl rfl b_geq) rfl fun a hE => ?_
 refine sp hE (r_pickT hE rfl hd376 rfl) rfl fun a hE => ?_
 refine qm hE rfl rfl fun a hE => ?_
 rcases Bool.eq_false_or_eq_true (decide (1 ≤ (x21.length : Int))) with hd382 | hd382
 {
 have h := ite_T hd382 h
 refine spg hE rfl rfl rfl rfl hd382 (r_move hE rfl) rfl fun a hE => ?_
 obtain ⟨x384, hx385, h⟩ := ob h
 refine stg hE rfl rfl rfl rfl hd382 (st_index (k := (kInt .u8)) hE rfl rfl Try.underlying37 Try.sizeOf5 q59 hx385) rfl ?_
 rintro v387 a _ ⟨rfl, hp386⟩ hE
 refine stg hE rfl rfl rfl rfl hd382 (st_loadM hE hS ty5 rfl hp386) rfl ?_
 rintro v389 a _ ⟨rfl, hv388⟩ hE
 obtain ⟨rfl, hr390⟩ := RV_int hv388
 refine spg hE rfl rfl rfl rfl hd382 (r_bin hE rfl rfl b_leq) rfl fun a hE => ?_
 refine sp hE (r_pickT hE rfl hd382 rfl) rfl fun a hE => ?_
 refine qa hE rfl rfl fun a hE => ?_
 refine knil ?_
 exact ⟨(decide (x384 ≤ 1)), h, _, (M.le.refl _), hS, hE.cut ⟨rfl, rfl, rfl, rfl, trivial⟩⟩
 }
 {
 have h := ite_F hd382 h
 refine sx hE rfl rfl rfl rfl hd382 rfl fun a hE => ?_
 refine sx hE rfl rfl rfl rfl hd382 rfl fun a hE => ?_
 refine sx hE rfl rfl rfl rfl hd382 rfl fun a hE => ?_
 refine sx hE rfl rfl rfl rfl hd382 rfl fun a hE => ?_
 refine sp hE (r_pickF hE rfl hd382 rfl) rfl fun a hE => ?_
 refine qa hE rfl rfl fun a hE => ?_
 refine knil ?_
 exact ⟨false, h, _, (M.le.refl _), hS, hE.cut ⟨rfl, rfl, rfl, rfl, trivial⟩⟩
 }
 }
 {
 have h := ite_F hd376 h
 refine sx hE rfl rfl rfl rfl hd376 rfl fun a hE => ?_
 refine sx hE rfl rfl rfl rfl hd376 rfl fun a hE => ?_
 refine sx hE rfl rfl rfl rfl hd376 rfl fun a hE => ?_
 refine sp hE (r_pickF hE rfl hd376 rfl) rfl fun a hE => ?_
 refine qm hE rfl rfl fun a hE => ?_
 refine sx hE rfl rfl rfl rfl rfl rfl fun a hE => ?_
 refine sx hE rfl rfl rfl rfl rfl rfl fun a hE => ?_
 refine sx hE rfl rfl rfl rfl rfl rfl fun a hE => ?_
 refine sx hE rfl rfl rfl rfl rfl rfl fun a hE => ?_
 refine sp hE (r_pickF hE rfl rfl rfl) rfl fun a hE => ?_
 refine qa hE rfl rfl fun a hE => ?_
 refine knil ?_
 exact ⟨false, h, _, (M.le.refl _), hS, hE.cut ⟨rfl, rfl, rfl, rfl, trivial⟩⟩
 }
 }
 {
 rintro a w ⟨x83, h, m81, hm82, hS, hE⟩
 unfold rows_read_j1 at h
 refine kif hE rfl (fun hd85 => ?_) (fun hd85 => ?_)
 {
 have h := ite_T hd85 h
 refine kseq ?_
 obtain ⟨x86, hx87, h⟩ := ob h
 obtain ⟨r91, hr92, h⟩ := ob h
 obtain ⟨x96, hx97, h⟩ := ob h
 refine kchain (k := 8) (m := m81) (es := [7]) (Φ := (fun i m ws v => match i with | 0 => v = v57 | 1 => PR (kInt .u8) m v x86 | 2 => v = (.int .u8 x86) ∧ inR .u8 x86 | 3 => v = (.bool (x86 == 1)) | 4 => RV kAV m v r91 | 5 => v = v57 | 6 => RV (kSl (kInt .u8)) m v x96 | 7 => True | _ => True)) (Q := (fun c m ws L' TL' => match c with | 0 => (b1, zc53) :: L = L' ∧ TL = TL' | 1 => (b1, (wi ws 0).c) :: L = L' ∧ TL = TL' ∧ kAV.R m (wi ws 0).c r91 | _ => False)) (cs := [⟨0, 0, false, [(0, v57)]⟩, ⟨0, 0, false, []⟩, ⟨0, 0, false, []⟩, ⟨0, 0, false, []⟩, ⟨0, 0, false, []⟩, ⟨0, 1, false, [(0, v57)]⟩, ⟨0, 1, false, []⟩, ⟨0, 0, true, [(2, (.pointer (some ⟨b1, 0, none⟩)))]⟩]) mixed hE hS ⟨rfl, rfl⟩ rfl rfl ⟨⟨rfl, trivial⟩, trivial, trivial, trivial, trivial, ⟨rfl, trivial⟩, trivial, ⟨rfl, trivial⟩, trivial⟩ (by kernel_rfl) ?_ ?_ ?_ ?_
 {
 intro i m_ m2_ ws v hm_ hp_
 match i, hp_ with
 | 0, hp_ => exact hp_
 | 1, hp_ => exact PR.mono hp_ hm_
 | 2, hp_ => exact hp_
 | 3, hp_ => exact hp_
 | 4, hp_ => exact RV.mono hp_ hm_
 | 5, hp_ => exact hp_
 | 6, hp_ => exact RV.mono hp_ hm_
 | 7, hp_ => exact hp_
 | _ + 8, hp_ => exact trivial
 }
 {
 intro c m_ m2_ ws L_ T_ hm_ hq_
 match c, hq_ with
 | 0, ⟨e1_, e2_⟩ => exact ⟨e1_, e2_⟩
 | 1, ⟨e1_, e2_, f0_⟩ => exact ⟨e1_, e2_, (kAV.mono hm_ f0_)⟩
 | _ + 2, hq_ => exact hq_.elim
 }
 {
 refine ⟨?_, ?_, ?_, ?_, ?_, ?_, ?_, ?_, trivial⟩
 {
 refine cplain fun pre_ post_ L_ T_ m' a' w' hl' hp' hm' hq' hS' hE' hT' => ?_
 obtain rfl := len0 hl'
 refine Step.imp (Run1.pure (r_move hE' rfl)) ?_
 rintro _ _ ⟨rfl, rfl⟩
 exact ⟨_, M.le.refl _, hS', rfl⟩
 }
 {
 refine cplain fun pre_ post_ L_ T_ m' a' w' hl' hp' hm' hq' hS' hE' hT' => ?_
 obtain rfl := len0 hl'
 obtain ⟨v103, e104, q105⟩ : ∃ v, a'.tmps.getD 35 undef = v ∧ (v = v57) := ⟨_, rfl, hT' 0 (by decide) 35 rfl⟩
 have hE := hE'.add (e104.trans q105)
 refine Step.imp (st_index (k := (kInt .u8)) hE rfl rfl Try.underlying37 Try.sizeOf5 (q59.mono (M.le.trans hm82 hm')) hx87) ?_
 rintro v106 _ ⟨rfl, hp88⟩
 exact ⟨_, M.le.refl _, hS', hp88⟩
 }
 {
 refine cplain fun pre_ post_ L_ T_ m' a' w' hl' hp' hm' hq' hS' hE' hT' => ?_
 obtain rfl := len0 hl'
 obtain ⟨v107, e108, q109⟩ : ∃ v, a'.tmps.getD 36 undef = v ∧ (PR (kInt .u8) m' v x86) := ⟨_, rfl, hT' 1 (by decide) 36 rfl⟩
 have hE := hE'.add (e108)
 refine Step.imp (st_loadM hE hS' ty5 rfl q109) ?_
 rintro v110 _ ⟨rfl, hv89⟩
 obtain ⟨rfl, hr111⟩ := RV_int hv89
 exact ⟨_, M.le.refl _, hS', ⟨rfl, hr111⟩⟩
 }
 {
 refine cplain fun pre_ post_ L_ T_ m' a' w' hl' hp' hm' hq' hS' hE' hT' => ?_
 obtain rfl := len0 hl'
 obtain ⟨v112, e113, q114⟩ : ∃ v, a'.tmps.getD 37 undef = v ∧ (v = (.int .u8 x86) ∧ inR .u8 x86) := ⟨_, rfl, hT' 2 (by decide) 37 rfl⟩
 obtain ⟨q114, hr115⟩ := q114
 have hE := hE'.add (e113.trans q114)
 refine Step.imp (Run1.pure (r_bin hE rfl rfl b_eql)) ?_
 rintro _ _ ⟨rfl, rfl⟩
 exact ⟨_, M.le.refl _, hS', rfl⟩
 }
 {
 refine cplain fun pre_ post_ L_ T_ m' a' w' hl' hp' hm' hq' hS' hE' hT' => ?_
 obtain rfl := len0 hl'
 obtain ⟨v117, e118, q119⟩ : ∃ v, a'.tmps.getD 38 undef = v ∧ (v = (.bool (x86 == 1))) := ⟨_, rfl, hT' 3 (by decide) 38 rfl⟩
 have hE := hE'.add (e118.trans q119)
 refine Step.imp (st_call (vs := [(.bool (x86 == 1))]) hE rfl Try.call98 (c_value_Bool (hS := hS') hr92)) ?_
 rintro v120 w ⟨m93, hm94, hS, hv95⟩
 exact ⟨_, hm94, hS, hv95⟩
 }
 {
 refine cplain fun pre_ post_ L_ T_ m' a' w' hl' hp' hm' hq' hS' hE' hT' => ?_
 obtain rfl := len0 hl'
 refine Step.imp (Run1.pure (r_move hE' rfl)) ?_
 rintro _ _ ⟨rfl, rfl⟩
 exact ⟨_, M.le.refl _, hS', rfl⟩
 }
 {
 refine cplain fun pre_ post_ L_ T_ m' a' w' hl' hp' hm' hq' hS' hE' hT' => ?_
 obtain rfl := len0 hl'
 obtain ⟨v122, e123, q124⟩ : ∃ v, a'.tmps.getD 40 undef = v ∧ (v = v57) := ⟨_, rfl, hT' 5 (by decide) 40 rfl⟩
 have hE := hE'.add (e123.trans q124)
 refine Step.imp (st_slice (k := (kInt .u8)) hE rfl Try.underlying37 Try.sizeOf5 (q59.mono (M.le.trans hm82 hm')) ⟨_, rfl⟩ rfl hx97 (xl := (some (.const (.int .i64 1)))) (xh := none)) ?_
 rintro v125 _ ⟨rfl, hv98⟩
 exact ⟨_, M.le.refl _, hS', hv98⟩
 }
 {
 refine cturn fun pre_ L_ T_ m' a' w' hl' hm' hq' hS' hE' hT' => ?_
 obtain rfl := len0 hl'
 obtain ⟨rfl, rfl⟩ := hq'
 obtain ⟨v126, e127, q128⟩ : ∃ v, a'.tmps.getD 39 undef = v ∧ (RV kAV m' v r91) := ⟨_, rfl, hT' 4 (by decide) 39 rfl⟩
 have hE := hE'.add (e127)
 refine Step.imp (st_storeF hE hS' ty53 StF_self rfl rfl q128 (i := 0) rfl (zr53 _)) ?_
 rintro vv101 w ⟨cs99, hc100, hS⟩
 exact ⟨_, ⟨0, undef, cs99, [], []⟩, _, _, M.le.refl _, hS, ⟨rfl, rfl, hc100⟩, trivial⟩
 }
 }
 {
 intro ws_ L_ T_ m129 a w hl130 hm131 hq132 hS hd133 hn134 ho135 hT136
 obtain ⟨⟨_, _, cs99, _, _⟩, rfl⟩ := len1 hl130
 obtain ⟨rfl, rfl, hc137⟩ := hq132
 have hE := EnvD.of (k := 8) (l' := [(0, v57), (2, (.pointer (some ⟨b1, 0, none⟩))), (5, (.int .i64 (IntKind.i64.wrap x16))), (21, (.bool x83))]) hd133 hn134 ho135 ⟨rfl, rfl, rfl, rfl, trivial⟩ rfl
 obtain ⟨v138, e139, q140⟩ : ∃ v, a.tmps.getD 41 undef = v ∧ (RV (kSl (kInt .u8)) m129 v x96) := ⟨_, rfl, hT136 6 (by decide) 41 rfl⟩
 have hE := hE.add (e139)
 refine qa hE rfl rfl fun a hE => ?_
 refine qa hE rfl rfl fun a hE => ?_
 refine knil (kret ?_)
 obtain rfl := oi h
 try dsimp only
 refine Fin.mk hE (rs := [.cell 2 53, .tmp 3, .tmp 4]) rfl (ResL.cell hE hS ty53 rfl (i := 0) rfl (R_whole hc137) (ResL.tmp hE rfl (ResL.tmp hE rfl ResL.nil))) ?_
 exact ⟨_, (M.le.trans hm51 (M.le.trans hm82 hm131)), (hS.dropL 1), _, _, _, rfl, (RV_of_R (R_whole hc137)), q140, RV_of_bool⟩
 }
 }
 {
 have h := ite_F hd85 h
 refine kseq ?_
 refine kcut (fun a w => ∃ x145 : Bool, rows_read_j2 x16 x21 x145 = some r ∧ ∃ m', M.le m81 m' ∧ S W0 m' w ((b1, zc53) :: L) (TL) ∧ Env 94 a [(0, v57), (2, (.pointer (some ⟨b1, 0, none⟩))), (5, (.int .i64 (IntKind.i64.wrap x16))), (42, (.bool x145))]) ?_ ?_
 {
 refine kreg ?_
 refine qm hE rfl rfl fun a hE => ?_
 refine sp hE (r_bin hE rfl rfl b_eql) rfl fun a hE => ?_
 refine qm hE rfl rfl fun a hE => ?_
 rcases Bool.eq_false_or_eq_true ((IntKind.i64.wrap x16) == 2) with hd365 | hd365
 {
 have h := ite_T hd365 h
 refine spg hE rfl rfl rfl rfl hd365 (r_move hE rfl) rfl fun a hE => ?_
 refine spg hE rfl rfl rfl rfl hd365 (r_lenSl (k := (kInt .u8)) hE rfl rfl Try.underlying37 (q59.mono hm82)) rfl fun a hE => ?_
 refine spg hE rfl rfl rfl rfl hd365 (r_bin hE rfl rfl b_geq) rfl fun a hE => ?_
 refine sp hE (r_pickT hE rfl hd365 rfl) rfl fun a hE => ?_
 refine qa hE rfl rfl fun a hE => ?_
 refine knil ?_
 exact ⟨(decide (8 ≤ (x21.length : Int))), h, _, (M.le.refl _), hS, hE.cut ⟨rfl, rfl, rfl, rfl, trivial⟩⟩
 }
 {
 have h := ite_F hd365 h
 refine sx hE rfl rfl rfl rfl hd365 rfl fun a hE => ?_
 refine sx hE rfl rfl rfl rfl hd365 rfl fun a hE => ?_
 refine sx hE rfl rfl rfl rfl hd365 rfl fun a hE => ?_
 refine sp hE (r_pickF hE rfl hd365 rfl) rfl fun a hE => ?_
 refine qa hE rfl rfl fun a hE => ?_
 refine knil ?_
 exact ⟨false, h, _, (M.le.refl _), hS, hE.cut ⟨rfl, rfl, rfl, rfl, trivial⟩⟩
 }
 }
 {
 rintro a w ⟨x145, h, m143, hm144, hS, hE⟩
 unfold rows_read_j2 at h
 refine kif hE rfl (fun hd147 => ?_) (fun hd147 => ?_)
 {
 have h := ite_T hd147 h
 refine kseq ?_
 obtain ⟨r148, hr149, h⟩ := ob h
 obtain ⟨r154, hr155, h⟩ := ob h
 obtain ⟨x159, hx160, h⟩ := ob h
 refine kchain (k := 7) (m := m143) (es := [6]) (Φ := (fun i m ws v => match i with | 0 => v = v57 | 1 => v = (.int .u64 r148) ∧ inR .u64 r148 | 2 => v = (.int .i64 (IntKind.i64.wrap r148)) ∧ inR .i64 (IntKind.i64.wrap r148) | 3 => RV kAV m v r154 | 4 => v = v57 | 5 => RV (kSl (kInt .u8)) m v x159 | 6 => True | _ => True)) (Q := (fun c m ws L' TL' => match c with | 0 => (b1, zc53) :: L = L' ∧ TL = TL' | 1 => (b1, (wi ws 0).c) :: L = L' ∧ TL = TL' ∧ kAV.R m (wi ws 0).c r154 | _ => False)) (cs := [⟨0, 0, false, [(0, v57)]⟩, ⟨0, 0, false, []⟩, ⟨0, 0, false, []⟩, ⟨0, 0, false, []⟩, ⟨0, 1, false, [(0, v57)]⟩, ⟨0, 1, false, []⟩, ⟨0, 0, true, [(2, (.pointer (some ⟨b1, 0, none⟩)))]⟩]) mixed hE hS ⟨rfl, rfl⟩ rfl rfl ⟨⟨rfl, trivial⟩, trivial, trivial, trivial, ⟨rfl, trivial⟩, trivial, ⟨rfl, trivial⟩, trivial⟩ (by kernel_rfl) ?_ ?_ ?_ ?_
 {
 intro i m_ m2_ ws v hm_ hp_
 match i, hp_ with
 | 0, hp_ => exact hp_
 | 1, hp_ => exact hp_
 | 2, hp_ => exact hp_
 | 3, hp_ => exact RV.mono hp_ hm_
 | 4, hp_ => exact hp_
 | 5, hp_ => exact RV.mono hp_ hm_
 | 6, hp_ => exact hp_
 | _ + 7, hp_ => exact trivial
 }
 {
 intro c m_ m2_ ws L_ T_ hm_ hq_
 match c, hq_ with
 | 0, ⟨e1_, e2_⟩ => exact ⟨e1_, e2_⟩
 | 1, ⟨e1_, e2_, f0_⟩ => exact ⟨e1_, e2_, (kAV.mono hm_ f0_)⟩
 | _ + 2, hq_ => exact hq_.elim
 }
 {
 refine ⟨?_, ?_, ?_, ?_, ?_, ?_, ?_, trivial⟩
 {
 refine cplain fun pre_ post_ L_ T_ m' a' w' hl' hp' hm' hq' hS' hE' hT' => ?_
 obtain rfl := len0 hl'
 refine Step.imp (Run1.pure (r_move hE' rfl)) ?_
 rintro _ _ ⟨rfl, rfl⟩
 exact ⟨_, M.le.refl _, hS', rfl⟩
 }
 {
 refine cplain fun pre_ post_ L_ T_ m' a' w' hl' hp' hm' hq' hS' hE' hT' => ?_
 obtain rfl := len0 hl'
 obtain ⟨v166, e167, q168⟩ : ∃ v, a'.tmps.getD 50 undef = v ∧ (v = v57) := ⟨_, rfl, hT' 0 (by decide) 50 rfl⟩
 have hE := hE'.add (e167.trans q168)
 refine Step.imp (st_call (vs := [v57]) hE rfl Try.call156 (c_rows_number (hS := hS') (q59.mono (M.le.trans hm82 (M.le.trans hm144 hm'))) hr149)) ?_
 rintro v169 w ⟨m150, hm151, hS, hv152⟩
 obtain ⟨rfl, hr170⟩ := RV_int hv152
 exact ⟨_, hm151, hS, ⟨rfl, hr170⟩⟩
 }
 {
 refine cplain fun pre_ post_ L_ T_ m' a' w' hl' hp' hm' hq' hS' hE' hT' => ?_
 obtain rfl := len0 hl'
 obtain ⟨v171, e172, q173⟩ : ∃ v, a'.tmps.getD 51 undef = v ∧ (v = (.int .u64 r148) ∧ inR .u64 r148) := ⟨_, rfl, hT' 1 (by decide) 51 rfl⟩
 obtain ⟨q173, hr174⟩ := q173
 have hE := hE'.add (e172.trans q173)
 refine Step.imp (Run1.pure (r_conv hE rfl Try.underlying24 Try.underlying2 rfl)) ?_
 rintro _ _ ⟨rfl, rfl⟩
 exact ⟨_, M.le.refl _, hS', ⟨rfl, (inR_wrap _ _)⟩⟩
 }
 {
 refine cplain fun pre_ post_ L_ T_ m' a' w' hl' hp' hm' hq' hS' hE' hT' => ?_
 obtain rfl := len0 hl'
 obtain ⟨v176, e177, q178⟩ : ∃ v, a'.tmps.getD 52 undef = v ∧ (v = (.int .i64 (IntKind.i64.wrap r148)) ∧ inR .i64 (IntKind.i64.wrap r148)) := ⟨_, rfl, hT' 2 (by decide) 52 rfl⟩
 obtain ⟨q178, hr179⟩ := q178
 have hE := hE'.add (e177.trans q178)
 refine Step.imp (st_call (vs := [(.int .i64 (IntKind.i64.wrap r148))]) hE rfl Try.call90 (c_value_Int (hS := hS') hr179 hr155)) ?_
 rintro v180 w ⟨m156, hm157, hS, hv158⟩
 exact ⟨_, hm157, hS, hv158⟩
 }
 {
 refine cplain fun pre_ post_ L_ T_ m' a' w' hl' hp' hm' hq' hS' hE' hT' => ?_
 obtain rfl := len0 hl'
 refine Step.imp (Run1.pure (r_move hE' rfl)) ?_
 rintro _ _ ⟨rfl, rfl⟩
 exact ⟨_, M.le.refl _, hS', rfl⟩
 }
 {
 refine cplain fun pre_ post_ L_ T_ m' a' w' hl' hp' hm' hq' hS' hE' hT' => ?_
 obtain rfl := len0 hl'
 obtain ⟨v182, e183, q184⟩ : ∃ v, a'.tmps.getD 54 undef = v ∧ (v = v57) := ⟨_, rfl, hT' 4 (by decide) 54 rfl⟩
 have hE := hE'.add (e183.trans q184)
 refine Step.imp (st_slice (k := (kInt .u8)) hE rfl Try.underlying37 Try.sizeOf5 (q59.mono (M.le.trans hm82 (M.le.trans hm144 hm'))) ⟨_, rfl⟩ rfl hx160 (xl := (some (.const (.int .i64 8)))) (xh := none)) ?_
 rintro v185 _ ⟨rfl, hv161⟩
 exact ⟨_, M.le.refl _, hS', hv161⟩
 }
 {
 refine cturn fun pre_ L_ T_ m' a' w' hl' hm' hq' hS' hE' hT' => ?_
 obtain rfl := len0 hl'
 obtain ⟨rfl, rfl⟩ := hq'
 obtain ⟨v186, e187, q188⟩ : ∃ v, a'.tmps.getD 53 undef = v ∧ (RV kAV m' v r154) := ⟨_, rfl, hT' 3 (by decide) 53 rfl⟩
 have hE := hE'.add (e187)
 refine Step.imp (st_storeF hE hS' ty53 StF_self rfl rfl q188 (i := 0) rfl (zr53 _)) ?_
 rintro vv164 w ⟨cs162, hc163, hS⟩
 exact ⟨_, ⟨0, undef, cs162, [], []⟩, _, _, M.le.refl _, hS, ⟨rfl, rfl, hc163⟩, trivial⟩
 }
 }
 {
 intro ws_ L_ T_ m189 a w hl190 hm191 hq192 hS hd193 hn194 ho195 hT196
 obtain ⟨⟨_, _, cs162, _, _⟩, rfl⟩ := len1 hl190
 obtain ⟨rfl, rfl, hc197⟩ := hq192
 have hE := EnvD.of (k := 7) (l' := [(0, v57), (2, (.pointer (some ⟨b1, 0, none⟩))), (5, (.int .i64 (IntKind.i64.wrap x16))), (42, (.bool x145))]) hd193 hn194 ho195 ⟨rfl, rfl, rfl, rfl, trivial⟩ rfl
 obtain ⟨v198, e199, q200⟩ : ∃ v, a.tmps.getD 55 undef = v ∧ (RV (kSl (kInt .u8)) m189 v x159) := ⟨_, rfl, hT196 5 (by decide) 55 rfl⟩
 have hE := hE.add (e199)
 refine qa hE rfl rfl fun a hE => ?_
 refine qa hE rfl rfl fun a hE => ?_
 refine knil (kret ?_)
 obtain rfl := oi h
 try dsimp only
 refine Fin.mk hE (rs := [.cell 2 53, .tmp 3, .tmp 4]) rfl (ResL.cell hE hS ty53 rfl (i := 0) rfl (R_whole hc197) (ResL.tmp hE rfl (ResL.tmp hE rfl ResL.nil))) ?_
 exact ⟨_, (M.le.trans hm51 (M.le.trans hm82 (M.le.trans hm144 hm191))), (hS.dropL 1), _, _, _, rfl, (RV_of_R (R_whole hc197)), q200, RV_of_bool⟩
 }
 }
 {
 have h := ite_F hd147 h
 refine kseq ?_
 refine kcut (fun a w => ∃ x205 : Bool, rows_read_j3 x21 x205 = some r ∧ ∃ m', M.le m143 m' ∧ S W0 m' w ((b1, zc53) :: L) (TL) ∧ Env 94 a [(0, v57), (2, (.pointer (some ⟨b1, 0, none⟩))), (56, (.bool x205))]) ?_ ?_
 {
 refine kreg ?_
 refine qm hE rfl rfl fun a hE => ?_
 refine sp hE (r_bin hE rfl rfl b_eql) rfl fun a hE => ?_
 refine qm hE rfl rfl fun a hE => ?_
 rcases Bool.eq_false_or_eq_true ((IntKind.i64.wrap x16) == 3) with hd317 | hd317
 {
 have h := ite_T hd317 h
 refine spg hE rfl rfl rfl rfl hd317 (r_move hE rfl) rfl fun a hE => ?_
 refine spg hE rfl rfl rfl rfl hd317 (r_lenSl (k := (kInt .u8)) hE rfl rfl Try.underlying37 (q59.mono (M.le.trans hm82 hm144))) rfl fun a hE => ?_
 refine spg hE rfl rfl rfl rfl hd317 (r_bin hE rfl rfl b_geq) rfl fun a hE => ?_
 refine sp hE (r_pickT hE rfl hd317 rfl) rfl fun a hE => ?_
 refine qm hE rfl rfl fun a hE => ?_
 rcases Bool.eq_false_or_eq_true (decide (1 ≤ (x21.length : Int))) with hd323 | hd323
 {
 have h := ite_T hd323 h
 refine spg hE rfl rfl rfl rfl hd323 (r_move hE rfl) rfl fun a hE => ?_
 obtain ⟨x325, hx326, h⟩ := ob h
 refine stg hE rfl rfl rfl rfl hd323 (st_index (k := (kInt .u8)) hE rfl rfl Try.underlying37 Try.sizeOf5 (q59.mono (M.le.trans hm82 hm144)) hx326) rfl ?_
 rintro v328 a _ ⟨rfl, hp327⟩ hE
 refine stg hE rfl rfl rfl rfl hd323 (st_loadM hE hS ty5 rfl hp327) rfl ?_
 rintro v330 a _ ⟨rfl, hv329⟩ hE
 obtain ⟨rfl, hr331⟩ := RV_int hv329
 refine spg hE rfl rfl rfl rfl hd323 (r_bin hE rfl rfl b_leq) rfl fun a hE => ?_
 refine sp hE (r_pickT hE rfl hd323 rfl) rfl fun a hE => ?_
 refine qm hE rfl rfl fun a hE => ?_
 rcases Bool.eq_false_or_eq_true (decide (x325 ≤ 64)) with hd335 | hd335
 {
 have h := ite_T hd335 h
 refine spg hE rfl rfl rfl rfl hd335 (r_move hE rfl) rfl fun a hE => ?_
 refine spg hE rfl rfl rfl rfl hd335 (r_lenSl (k := (kInt .u8)) hE rfl rfl Try.underlying37 (q59.mono (M.le.trans hm82 hm144))) rfl fun a hE => ?_
 refine spg hE rfl rfl rfl rfl hd335 (r_move hE rfl) rfl fun a hE => ?_
 obtain ⟨x339, hx340, h⟩ := ob h
 refine stg hE rfl rfl rfl rfl hd335 (st_index (k := (kInt .u8)) hE rfl rfl Try.underlying37 Try.sizeOf5 (q59.mono (M.le.trans hm82 hm144)) hx340) rfl ?_
 rintro v342 a _ ⟨rfl, hp341⟩ hE
 refine stg hE rfl rfl rfl rfl hd335 (st_loadM hE hS ty5 rfl hp341) rfl ?_
 rintro v344 a _ ⟨rfl, hv343⟩ hE
 obtain ⟨rfl, hr345⟩ := RV_int hv343
 refine spg hE rfl rfl rfl rfl hd335 (r_conv hE rfl Try.underlying5 Try.underlying3 rfl) rfl fun a hE => ?_
 refine spg hE rfl rfl rfl rfl hd335 (r_bin hE rfl rfl b_gtr) rfl fun a hE => ?_
 refine sp hE (r_pickT hE rfl hd335 rfl) rfl fun a hE => ?_
 refine qa hE rfl rfl fun a hE => ?_
 refine knil ?_
 exact ⟨(decide ((IntKind.i64.wrap x339) < (x21.length : Int))), h, _, (M.le.refl _), hS, hE.cut ⟨rfl, rfl, rfl, trivial⟩⟩
 }
 {
 have h := ite_F hd335 h
 refine sx hE rfl rfl rfl rfl hd335 rfl fun a hE => ?_
 refine sx hE rfl rfl rfl rfl hd335 rfl fun a hE => ?_
 refine sx hE rfl rfl rfl rfl hd335 rfl fun a hE => ?_
 refine sx hE rfl rfl rfl rfl hd335 rfl fun a hE => ?_
 refine sx hE rfl rfl rfl rfl hd335 rfl fun a hE => ?_
 refine sx hE rfl rfl rfl rfl hd335 rfl fun a hE => ?_
 refine sx hE rfl rfl rfl rfl hd335 rfl fun a hE => ?_
 refine sp hE (r_pickF hE rfl hd335 rfl) rfl fun a hE => ?_
 refine qa hE rfl rfl fun a hE => ?_
 refine knil ?_
 exact ⟨false, h, _, (M.le.refl _), hS, hE.cut ⟨rfl, rfl, rfl, trivial⟩⟩
 }
 }
 {
 have h := ite_F hd323 h
 refine sx hE rfl rfl rfl rfl hd323 rfl fun a hE => ?_
 refine sx hE rfl rfl rfl rfl hd323 rfl fun a hE => ?_
 refine sx hE rfl rfl rfl rfl hd323 rfl fun a hE => ?_
 refine sx hE rfl rfl rfl rfl hd323 rfl fun a hE => ?_
 refine sp hE (r_pickF hE rfl hd323 rfl) rfl fun a hE => ?_
 refine qm hE rfl rfl fun a hE => ?_
 refine sx hE rfl rfl rfl rfl rfl rfl fun a hE => ?_
 refine sx hE rfl rfl rfl rfl rfl rfl fun a hE => ?_
 refine sx hE rfl rfl rfl rfl rfl rfl fun a hE => ?_
 refine sx hE rfl rfl rfl rfl rfl rfl fun a hE => ?_
 refine sx hE rfl rfl rfl rfl rfl rfl fun a hE => ?_
 refine sx hE rfl rfl rfl rfl rfl rfl fun a hE => ?_
 refine sx hE rfl rfl rfl rfl rfl rfl fun a hE => ?_
 refine sp hE (r_pickF hE rfl rfl rfl) rfl fun a hE => ?_
 refine qa hE rfl rfl fun a hE => ?_
 refine knil ?_
 exact ⟨false, h, _, (M.le.refl _), hS, hE.cut ⟨rfl, rfl, rfl, trivial⟩⟩
 }
 }
 {
 have h := ite_F hd317 h
 refine sx hE rfl rfl rfl rfl hd317 rfl fun a hE => ?_
 refine sx hE rfl rfl rfl rfl hd317 rfl fun a hE => ?_
 refine sx hE rfl rfl rfl rfl hd317 rfl fun a hE => ?_
 refine sp hE (r_pickF hE rfl hd317 rfl) rfl fun a hE => ?_
 refine qm hE rfl rfl fun a hE => ?_
 refine sx hE rfl rfl rfl rfl rfl rfl fun a hE => ?_
 refine sx hE rfl rfl rfl rfl rfl rfl fun a hE => ?_
 refine sx hE rfl rfl rfl rfl rfl rfl fun a hE => ?_
 refine sx hE rfl rfl rfl rfl rfl rfl fun a hE => ?_
 refine sp hE (r_pickF hE rfl rfl rfl) rfl fun a hE => ?_
 refine qm hE rfl rfl fun a hE => ?_
 refine sx hE rfl rfl rfl rfl rfl rfl fun a hE => ?_
 refine sx hE rfl rfl rfl rfl rfl rfl fun a hE => ?_
 refine sx hE rfl rfl rfl rfl rfl rfl fun a hE => ?_
 refine sx hE rfl rfl rfl rfl rfl rfl fun a hE => ?_
 refine sx hE rfl rfl rfl rfl rfl rfl fun a hE => ?_
 refine sx hE rfl rfl rfl rfl rfl rfl fun a hE => ?_
 refine sx hE rfl rfl rfl rfl rfl rfl fun a hE => ?_
 refine sp hE (r_pickF hE rfl rfl rfl) rfl fun a hE => ?_
 refine qa hE rfl rfl fun a hE => ?_
 refine knil ?_
 exact ⟨false, h, _, (M.le.refl _), hS, hE.cut ⟨rfl, rfl, rfl, trivial⟩⟩
 }
 }
 {
 rintro a w ⟨x205, h, m203, hm204, hS, hE⟩
 unfold rows_read_j3 at h
 refine kif hE rfl (fun hd207 => ?_) (fun hd207 => ?_)
 {
 have h := ite_T hd207 h
 refine kseq ?_
 obtain ⟨x208, hx209, h⟩ := ob h
 obtain ⟨x213, hx214, h⟩ := ob h
 obtain ⟨r216, hr217, h⟩ := ob h
 obtain ⟨x221, hx222, h⟩ := ob h
 obtain ⟨x226, hx227, h⟩ := ob h
 refine kchain (k := 15) (m := m203) (es := [14]) (Φ := (fun i m ws v => match i with | 0 => v = v57 | 1 => v = v57 | 2 => PR (kInt .u8) m v x208 | 3 => v = (.int .u8 x208) ∧ inR .u8 x208 | 4 => v = (.int .u8 (IntKind.u8.wrap (1 + x208))) ∧ inR .u8 (IntKind.u8.wrap (1 + x208)) | 5 => RV (kSl (kInt .u8)) m v x213 | 6 => v = (.string (bts x213)) ∧ (∀ n ∈ x213, 0 ≤ n ∧ n < 256) ∧ x213.length ≤ maxSz | 7 => RV kAV m v r216 | 8 => v = v57 | 9 => v = v57 | 10 => PR (kInt .u8) m v x221 | 11 => v = (.int .u8 x221) ∧ inR .u8 x221 | 12 => v = (.int .u8 (IntKind.u8.wrap (1 + x221))) ∧ inR .u8 (IntKind.u8.wrap (1 + x221)) | 13 => RV (kSl (kInt .u8)) m v x226 | 14 => True | _ => True)) (Q := (fun c m ws L' TL' => match c with | 0 => (b1, zc53) :: L = L' ∧ TL = TL' | 1 => (b1, (wi ws 0).c) :: L = L' ∧ TL = TL' ∧ kAV.R m (wi ws 0).c r216 | _ => False)) (cs := [⟨0, 0, false, [(0, v57)]⟩, ⟨0, 0, false, [(0, v57)]⟩, ⟨0, 0, false, []⟩, ⟨0, 0, false, []⟩, ⟨0, 0, false, []⟩, ⟨0, 0, false, []⟩, ⟨0, 0, false, []⟩, ⟨0, 0, false, []⟩, ⟨0, 1, false, [(0, v57)]⟩, ⟨0, 1, false, [(0, v57)]⟩, ⟨0, 1, false, []⟩, ⟨0, 1, false, []⟩, ⟨0, 1, false, []⟩, ⟨0, 1, false, []⟩, ⟨0, 0, true, [(2, (.pointer (some ⟨b1, 0, none⟩)))]⟩]) mixed hE hS ⟨rfl, rfl⟩ rfl rfl ⟨⟨rfl, trivial⟩, ⟨rfl, trivial⟩, trivial, trivial, trivial, trivial, trivial, trivial, ⟨rfl, trivial⟩, ⟨rfl, trivial⟩, trivial, trivial, trivial, trivial, ⟨rfl, trivial⟩, trivial⟩ (by kernel_rfl) ?_ ?_ ?_ ?_
 {
 intro i m_ m2_ ws v hm_ hp_
 match i, hp_ with
 | 0, hp_ => exact hp_
 | 1, hp_ => exact hp_
 | 2, hp_ => exact PR.mono hp_ hm_
 | 3, hp_ => exact hp_
 | 4, hp_ => exact hp_
 | 5, hp_ => exact RV.mono hp_ hm_
 | 6, hp_ => exact hp_
 | 7, hp_ => exact RV.mono hp_ hm_
 | 8, hp_ => exact hp_
 | 9, hp_ => exact hp_
 | 10, hp_ => exact PR.mono hp_ hm_
 | 11, hp_ => exact hp_
 | 12, hp_ => exact hp_
 | 13, hp_ => exact RV.mono hp_ hm_
 | 14, hp_ => exact hp_
 | _ + 15, hp_ => exact trivial
 }
 {
 intro c m_ m2_ ws L_ T_ hm_ hq_
 match c, hq_ with
 | 0, ⟨e1_, e2_⟩ => exact ⟨e1_, e2_⟩
 | 1, ⟨e1_, e2_, f0_⟩ => exact ⟨e1_, e2_, (kAV.mono hm_ f0_)⟩
 | _ + 2, hq_ => exact hq_.elim
 }
 {
 refine ⟨?_, ?_, ?_, ?_, ?_, ?_, ?_, ?_, ?_, ?_, ?_, ?_, ?_, ?_, ?_, trivial⟩
 {
 refine cplain fun pre_ post_ L_ T_ m' a' w' hl' hp' hm' hq' hS' hE' hT' => ?_
 obtain rfl := len0 hl'
 refine Step.imp (Run1.pure (r_move hE' rfl)) ?_
 rintro _ _ ⟨rfl, rfl⟩
 exact ⟨_, M.le.refl _, hS', rfl⟩
 }
 {
 refine cplain fun pre_ post_ L_ T_ m' a' w' hl' hp' hm' hq' hS' hE' hT' => ?_
 obtain rfl := len0 hl'
 refine Step.imp (Run1.pure (r_move hE' rfl)) ?_
 rintro _ _ ⟨rfl, rfl⟩
 exact ⟨_, M.le.refl _, hS', rfl⟩
 }
 {
 refine cplain fun pre_ post_ L_ T_ m' a' w' hl' hp' hm' hq' hS' hE' hT' => ?_
 obtain rfl := len0 hl'
 obtain ⟨v234, e235, q236⟩ : ∃ v, a'.tmps.getD 80 undef = v ∧ (v = v57) := ⟨_, rfl, hT' 1 (by decide) 80 rfl⟩
 have hE := hE'.add (e235.trans q236)
 refine Step.imp (st_index (k := (kInt .u8)) hE rfl rfl Try.underlying37 Try.sizeOf5 (q59.mono (M.le.trans hm82 (M.le.trans hm144 (M.le.trans hm204 hm')))) hx209) ?_
 rintro v237 _ ⟨rfl, hp210⟩
 exact ⟨_, M.le.refl _, hS', hp210⟩
 }
 {
 refine cplain fun pre_ post_ L_ T_ m' a' w' hl' hp' hm' hq' hS' hE' hT' => ?_
 obtain rfl := len0 hl'
 obtain ⟨v238, e239, q240⟩ : ∃ v, a'.tmps.getD 81 undef = v ∧ (PR (kInt .u8) m' v x208) := ⟨_, rfl, hT' 2 (by decide) 81 rfl⟩
 have hE := hE'.add (e239)
 refine Step.imp (st_loadM hE hS' ty5 rfl q240) ?_
 rintro v241 _ ⟨rfl, hv211⟩
 obtain ⟨rfl, hr242⟩ := RV_int hv211
 exact ⟨_, M.le.refl _, hS', ⟨rfl, hr242⟩⟩
 }
 {
 refine cplain fun pre_ post_ L_ T_ m' a' w' hl' hp' hm' hq' hS' hE' hT' => ?_
 obtain rfl := len0 hl'
 obtain ⟨v243, e244, q245⟩ : ∃ v, a'.tmps.getD 82 undef = v ∧ (v = (.int .u8 x208) ∧ inR .u8 x208) := ⟨_, rfl, hT' 3 (by decide) 82 rfl⟩
 obtain ⟨q245, hr246⟩ := q245
 have hE := hE'.add (e244.trans q245)
 refine Step.imp (Run1.pure (r_bin hE rfl rfl (b_add rfl))) ?_
 rintro _ _ ⟨rfl, rfl⟩
 exact ⟨_, M.le.refl _, hS', ⟨rfl, (inR_wrap _ _)⟩⟩
 }
 {
 refine cplain fun pre_ post_ L_ T_ m' a' w' hl' hp' hm' hq' hS' hE' hT' => ?_
 obtain rfl := len0 hl'
 obtain ⟨v248, e249, q250⟩ : ∃ v, a'.tmps.getD 79 undef = v ∧ (v = v57) := ⟨_, rfl, hT' 0 (by decide) 79 rfl⟩
 have hE := hE'.add (e249.trans q250)
 obtain ⟨v251, e252, q253⟩ : ∃ v, a'.tmps.getD 83 undef = v ∧ (v = (.int .u8 (IntKind.u8.wrap (1 + x208))) ∧ inR .u8 (IntKind.u8.wrap (1 + x208))) := ⟨_, rfl, hT' 4 (by decide) 83 rfl⟩
 obtain ⟨q253, hr254⟩ := q253
 have hE := hE.add (e252.trans q253)
 refine Step.imp (st_slice (k := (kInt .u8)) hE rfl Try.underlying37 Try.sizeOf5 (q59.mono (M.le.trans hm82 (M.le.trans hm144 (M.le.trans hm204 hm')))) ⟨_, rfl⟩ ⟨_, rfl⟩ hx214 (xl := (some (.const (.int .i64 1)))) (xh := (some (.tmp 83)))) ?_
 rintro v255 _ ⟨rfl, hv215⟩
 exact ⟨_, M.le.refl _, hS', hv215⟩
 }
 {
 refine cplain fun pre_ post_ L_ T_ m' a' w' hl' hp' hm' hq' hS' hE' hT' => ?_
 obtain rfl := len0 hl'
 obtain ⟨v256, e257, q258⟩ : ∃ v, a'.tmps.getD 84 undef = v ∧ (RV (kSl (kInt .u8)) m' v x213) := ⟨_, rfl, hT' 5 (by decide) 84 rfl⟩
 have hE := hE'.add (e257)
 refine Step.imp (Run1.pure (r_bytes hE hS' rfl Try.underlying37 Try.underlying5 Try.underlying9 q258)) ?_
 rintro _ _ ⟨rfl, rfl⟩
 exact ⟨_, M.le.refl _, hS', ⟨rfl, (RV_bytes q258), (RV_len q258)⟩⟩
 }
 {
 refine cplain fun pre_ post_ L_ T_ m' a' w' hl' hp' hm' hq' hS' hE' hT' => ?_
 obtain rfl := len0 hl'
 obtain ⟨v260, e261, q262⟩ : ∃ v, a'.tmps.getD 85 undef = v ∧ (v = (.string (bts x213)) ∧ (∀ n ∈ x213, 0 ≤ n ∧ n < 256) ∧ x213.length ≤ maxSz) := ⟨_, rfl, hT' 6 (by decide) 85 rfl⟩
 obtain ⟨q262, hb263, hl264⟩ := q262
 have hE := hE'.add (e261.trans q262)
 refine Step.imp (st_call (vs := [(.string (bts x213))]) hE rfl Try.call99 (c_value_Text (hS := hS') hb263 hl264 hr217)) ?_
 rintro v265 w ⟨m218, hm219, hS, hv220⟩
 exact ⟨_, hm219, hS, hv220⟩
 }
 {
 refine cplain fun pre_ post_ L_ T_ m' a' w' hl' hp' hm' hq' hS' hE' hT' => ?_
 obtain rfl := len0 hl'
 refine Step.imp (Run1.pure (r_move hE' rfl)) ?_
 rintro _ _ ⟨rfl, rfl⟩
 exact ⟨_, M.le.refl _, hS', rfl⟩
 }
 {
 refine cplain fun pre_ post_ L_ T_ m' a' w' hl' hp' hm' hq' hS' hE' hT' => ?_
 obtain rfl := len0 hl'
 refine Step.imp (Run1.pure (r_move hE' rfl)) ?_
 rintro _ _ ⟨rfl, rfl⟩
 exact ⟨_, M.le.refl _, hS', rfl⟩
 }
 {
 refine cplain fun pre_ post_ L_ T_ m' a' w' hl' hp' hm' hq' hS' hE' hT' => ?_
 obtain rfl := len0 hl'
 obtain ⟨v268, e269, q270⟩ : ∃ v, a'.tmps.getD 88 undef = v ∧ (v = v57) := ⟨_, rfl, hT' 9 (by decide) 88 rfl⟩
 have hE := hE'.add (e269.trans q270)
 refine Step.imp (st_index (k := (kInt .u8)) hE rfl rfl Try.underlying37 Try.sizeOf5 (q59.mono (M.le.trans hm82 (M.le.trans hm144 (M.le.trans hm204 hm')))) hx222) ?_
 rintro v271 _ ⟨rfl, hp223⟩
 exact ⟨_, M.le.refl _, hS', hp223⟩
 }
 {
 refine cplain fun pre_ post_ L_ T_ m' a' w' hl' hp' hm' hq' hS' hE' hT' => ?_
 obtain rfl := len0 hl'
 obtain ⟨v272, e273, q274⟩ : ∃ v, a'.tmps.getD 89 undef = v ∧ (PR (kInt .u8) m' v x221) := ⟨_, rfl, hT' 10 (by decide) 89 rfl⟩
 have hE := hE'.add (e273)
 refine Step.imp (st_loadM hE hS' ty5 rfl q274) ?_
 rintro v275 _ ⟨rfl, hv224⟩
 obtain ⟨rfl, hr276⟩ := RV_int hv224
 exact ⟨_, M.le.refl _, hS', ⟨rfl, hr276⟩⟩
 }
 {
 refine cplain fun pre_ post_ L_ T_ m' a' w' hl' hp' hm' hq' hS' hE' hT' => ?_
 obtain rfl := len0 hl'
 obtain ⟨v277, e278, q279⟩ : ∃ v, a'.tmps.getD 90 undef = v ∧ (v = (.int .u8 x221) ∧ inR .u8 x221) := ⟨_, rfl, hT' 11 (by decide) 90 rfl⟩
 obtain ⟨q279, hr280⟩ := q279
 have hE := hE'.add (e278.trans q279)
 refine Step.imp (Run1.pure (r_bin hE rfl rfl (b_add rfl))) ?_
 rintro _ _ ⟨rfl, rfl⟩
 exact ⟨_, M.le.refl _, hS', ⟨rfl, (inR_wrap _ _)⟩⟩
 }
 {
 refine cplain fun pre_ post_ L_ T_ m' a' w' hl' hp' hm' hq' hS' hE' hT' => ?_
 obtain rfl := len0 hl'
 obtain ⟨v282, e283, q284⟩ : ∃ v, a'.tmps.getD 87 undef = v ∧ (v = v57) := ⟨_, rfl, hT' 8 (by decide) 87 rfl⟩
 have hE := hE'.add (e283.trans q284)
 obtain ⟨v285, e286, q287⟩ : ∃ v, a'.tmps.getD 91 undef = v ∧ (v = (.int .u8 (IntKind.u8.wrap (1 + x221))) ∧ inR .u8 (IntKind.u8.wrap (1 + x221))) := ⟨_, rfl, hT' 12 (by decide) 91 rfl⟩
 obtain ⟨q287, hr288⟩ := q287
 have hE := hE.add (e286.trans q287)
 refine Step.imp (st_slice (k := (kInt .u8)) hE rfl Try.underlying37 Try.sizeOf5 (q59.mono (M.le.trans hm82 (M.le.trans hm144 (M.le.trans hm204 hm')))) ⟨_, rfl⟩ rfl hx227 (xl := (some (.tmp 91))) (xh := none)) ?_
 rintro v289 _ ⟨rfl, hv228⟩
 exact ⟨_, M.le.refl _, hS', hv228⟩
 }
 {
 refine cturn fun pre_ L_ T_ m' a' w' hl' hm' hq' hS' hE' hT' => ?_
 obtain rfl := len0 hl'
 obtain ⟨rfl, rfl⟩ := hq'
 obtain ⟨v290, e291, q292⟩ : ∃ v, a'.tmps.getD 86 undef = v ∧ (RV kAV m' v r216) := ⟨_, rfl, hT' 7 (by decide) 86 rfl⟩
 have hE := hE'.add (e291)
 refine Step.imp (st_storeF hE hS' ty53 StF_self rfl rfl q292 (i := 0) rfl (zr53 _)) ?_
 rintro vv231 w ⟨cs229, hc230, hS⟩
 exact ⟨_, ⟨0, undef, cs229, [], []⟩, _, _, M.le.refl _, hS, ⟨rfl, rfl, hc230⟩, trivial⟩
 }
 }
 {
 intro ws_ L_ T_ m293 a w hl294 hm295 hq296 hS hd297 hn298 ho299 hT300
 obtain ⟨⟨_, _, cs229, _, _⟩, rfl⟩ := len1 hl294
 obtain ⟨rfl, rfl, hc301⟩ := hq296
 have hE := EnvD.of (k := 15) (l' := [(0, v57), (2, (.pointer (some ⟨b1, 0, none⟩))), (56, (.bool x205))]) hd297 hn298 ho299 ⟨rfl, rfl, rfl, trivial⟩ rfl
 obtain ⟨v302, e303, q304⟩ : ∃ v, a.tmps.getD 92 undef = v ∧ (RV (kSl (kInt .u8)) m293 v x226) := ⟨_, rfl, hT300 13 (by decide) 92 rfl⟩
 have hE := hE.add (e303)
 refine qa hE rfl rfl fun a hE => ?_
 refine qa hE rfl rfl fun a hE => ?_
 refine knil (kret ?_)
 obtain rfl := oi h
 try dsimp only
 refine Fin.mk hE (rs := [.cell 2 53, .tmp 3, .tmp 4]) rfl (ResL.cell hE hS ty53 rfl (i := 0) rfl (R_whole hc301) (ResL.tmp hE rfl (ResL.tmp hE rfl ResL.nil))) ?_
 exact ⟨_, (M.le.trans hm51 (M.le.trans hm82 (M.le.trans hm144 (M.le.trans hm204 hm295)))), (hS.dropL 1), _, _, _, rfl, (RV_of_R (R_whole hc301)), q304, RV_of_bool⟩
 }
 }
 {
 have h := ite_F hd207 h
 refine kskip (kseq (kreg ?_))
 refine st hE (st_build (m := m203) (k := kAV) (x0 := AV.zero) (xx := (⟨0, false, 0, []⟩ : AV)) (pl := [(0, 1), (1, 1), (2, 1), (3, 1)]) (pv := []) hE rfl Try.underlying53 rfl Try.zeroValue53 zr53 rfl .nil) rfl ?_
 rintro v308 a _ ⟨rfl, hv307⟩ hE
 refine st0 hE (st_storeF hE hS ty53 StF_self rfl rfl hv307 (i := 0) rfl (zr53 _)) ?_
 rintro _ w ⟨cs309, hc310, hS⟩ hE
 refine qa hE rfl rfl fun a hE => ?_
 refine qa hE rfl rfl fun a hE => ?_
 refine knil (kret ?_)
 obtain rfl := oi h
 try dsimp only
 refine Fin.mk hE (rs := [.cell 2 53, .tmp 3, .tmp 4]) rfl (ResL.cell hE hS ty53 rfl (i := 0) rfl (R_whole hc310) (ResL.tmp hE rfl (ResL.tmp hE rfl ResL.nil))) ?_
 exact ⟨_, (M.le.trans hm51 (M.le.trans hm82 (M.le.trans hm144 hm204))), (hS.dropL 1), _, _, _, rfl, (RV_of_R (R_whole hc310)), RV_nil, RV_of_bool⟩
 }
 }
 }
 }
 }
 }
 }
 }
 }
theorem c_rows_Decode {W0 : Bse} {m : M} {w : World} {L : List (Nat × List Value)} {TL : List (Nat × Value)} (hS : S W0 m w (L) (TL)) {v0 : Value} {p0 : (List Int)} (ha0 : RV (kSl (kInt .u8)) m v0 p0) {r : ((List AV) × Int)} (h : rows_Decode p0 = some r) :
    Calls Try.prog 128 [v0].toArray w (Ret fun v w' => ∃ m', M.le m m' ∧ S W0 m' w' (L) (TL) ∧ ∃ v0_ v1_ : Value, v = .tuple #[v0_, v1_] ∧ RV (kSl kAV) m' v0_ r.1 ∧ RV (kInt .i64) m' v1_ r.2) := by
 refine kcall Try.func128 rfl Try.ntmps128 (Nat.le_of_ble_eq_true rfl) fun a hE => ?_
 have hE : Env 45 a [(0, v0)] := hE
 unfold rows_Decode at h
 refine kseq (kreg ?_)
 refine qa hE rfl rfl fun a hE => ?_
 refine qa hE rfl rfl fun a hE => ?_
 refine knil (kseq (kseq ?_))
 refine kcut (fun a w => ∃ x5 : Bool, rows_Decode_j1 p0 x5 = some r ∧ ∃ m', M.le m m' ∧ S W0 m' w (L) (TL) ∧ Env 45 a [(0, v0), (17, (.bool x5))]) ?_ ?_
 {
 refine kreg ?_
 refine qm hE rfl rfl fun a hE => ?_
 refine sp hE (r_lenSl (k := (kInt .u8)) hE rfl rfl Try.underlying37 ha0) rfl fun a hE => ?_
 refine sp hE (r_bin hE rfl rfl b_eql) rfl fun a hE => ?_
 refine qm hE rfl rfl fun a hE => ?_
 rcases Bool.eq_false_or_eq_true ((p0.length : Int) == 0) with hd144 | hd144
 {
 have h := ite_T hd144 h
 refine sx hE rfl rfl rfl rfl hd144 rfl fun a hE => ?_
 refine sx hE rfl rfl rfl rfl hd144 rfl fun a hE => ?_
 refine sx hE rfl rfl rfl rfl hd144 rfl fun a hE => ?_
 refine sx hE rfl rfl rfl rfl hd144 rfl fun a hE => ?_
 refine sp hE (r_pickT hE rfl hd144 rfl) rfl fun a hE => ?_
 refine knil ?_
 exact ⟨true, h, _, (M.le.refl _), hS, hE.cut ⟨rfl, rfl, trivial⟩⟩
 }
 {
 have h := ite_F hd144 h
 refine spg hE rfl rfl rfl rfl hd144 (r_move hE rfl) rfl fun a hE => ?_
 obtain ⟨x147, hx148, h⟩ := ob h
 refine stg hE rfl rfl rfl rfl hd144 (st_index (k := (kInt .u8)) hE rfl rfl Try.underlying37 Try.sizeOf5 ha0 hx148) rfl ?_
 rintro v150 a _ ⟨rfl, hp149⟩ hE
 refine stg hE rfl rfl rfl rfl hd144 (st_loadM hE hS ty5 rfl hp149) rfl ?_
 rintro v152 a _ ⟨rfl, hv151⟩ hE
 obtain ⟨rfl, hr153⟩ := RV_int hv151
 refine spg hE rfl rfl rfl rfl hd144 (r_bin hE rfl rfl b_gtr) rfl fun a hE => ?_
 refine sp hE (r_pickF hE rfl hd144 rfl) rfl fun a hE => ?_
 refine knil ?_
 exact ⟨(decide (16 < x147)), h, _, (M.le.refl _), hS, hE.cut ⟨rfl, rfl, trivial⟩⟩
 }
 }
 {
 rintro a w ⟨x5, h, m3, hm4, hS, hE⟩
 unfold rows_Decode_j1 at h
 refine kif hE rfl (fun hd7 => ?_) (fun hd7 => ?_)
 {
 have h := ite_T hd7 h
 refine kseq (kreg ?_)
 refine qa hE rfl rfl fun a hE => ?_
 refine qa hE rfl rfl fun a hE => ?_
 refine knil (kret ?_)
 obtain rfl := oi h
 try dsimp only
 refine Fin.mk hE (rs := [.tmp 2, .tmp 3]) rfl (ResL.tmp hE rfl (ResL.tmp hE rfl ResL.nil)) ?_
 exact ⟨_, hm4, hS, _, _, rfl, RV_nil, (RV_of_int (show inR .i64 30 from inR_lit (by decide)))⟩
 }
 {
 have h := ite_F hd7 h
 refine kskip (kseq (kreg ?_))
 refine qa hE rfl rfl fun a hE => ?_
 refine knil (kseq ?_)
 obtain ⟨x11, hx12, h⟩ := ob h
 obtain ⟨x16, hx17, h⟩ := ob h
 refine kchain (k := 7) (m := m3) (es := []) (Φ := (fun i m ws v => match i with | 0 => v = v0 | 1 => PR (kInt .u8) m v x11 | 2 => v = (.int .u8 x11) ∧ inR .u8 x11 | 3 => v = (.int .i64 (IntKind.i64.wrap x11)) ∧ inR .i64 (IntKind.i64.wrap x11) | 4 => v = v0 | 5 => RV (kSl (kInt .u8)) m v x16 | 6 => v = (.int .i64 (IntKind.i64.wrap x11)) ∧ inR .i64 (IntKind.i64.wrap x11) | _ => True)) (Q := (fun c m ws L' TL' => match c with | 0 => L = L' ∧ TL = TL' | _ => False)) (cs := [⟨0, 0, false, [(0, v0)]⟩, ⟨0, 0, false, []⟩, ⟨0, 0, false, []⟩, ⟨0, 0, false, []⟩, ⟨0, 0, false, [(0, v0)]⟩, ⟨0, 0, false, []⟩, ⟨0, 0, false, []⟩]) mixed hE hS ⟨rfl, rfl⟩ rfl rfl ⟨⟨rfl, trivial⟩, trivial, trivial, trivial, ⟨rfl, trivial⟩, trivial, trivial, trivial⟩ (by kernel_rfl) ?_ ?_ ?_ ?_
 {
 intro i m_ m2_ ws v hm_ hp_
 match i, hp_ with
 | 0, hp_ => exact hp_
 | 1, hp_ => exact PR.mono hp_ hm_
 | 2, hp_ => exact hp_
 | 3, hp_ => exact hp_
 | 4, hp_ => exact hp_
 | 5, hp_ => exact RV.mono hp_ hm_
 | 6, hp_ => exact hp_
 | _ + 7, hp_ => exact trivial
 }
 {
 intro c m_ m2_ ws L_ T_ hm_ hq_
 match c, hq_ with
 | 0, ⟨e1_, e2_⟩ => exact ⟨e1_, e2_⟩
 | _ + 1, hq_ => exact hq_.elim
 }
 {
 refine ⟨?_, ?_, ?_, ?_, ?_, ?_, ?_, trivial⟩
 {
 refine cplain fun pre_ post_ L_ T_ m' a' w' hl' hp' hm' hq' hS' hE' hT' => ?_
 obtain rfl := len0 hl'
 refine Step.imp (Run1.pure (r_move hE' rfl)) ?_
 rintro _ _ ⟨rfl, rfl⟩
 exact ⟨_, M.le.refl _, hS', rfl⟩
 }
 {
 refine cplain fun pre_ post_ L_ T_ m' a' w' hl' hp' hm' hq' hS' hE' hT' => ?_
 obtain rfl := len0 hl'
 obtain ⟨v20, e21, q22⟩ : ∃ v, a'.tmps.getD 18 undef = v ∧ (v = v0) := ⟨_, rfl, hT' 0 (by decide) 18 rfl⟩
 have hE := hE'.add (e21.trans q22)
 refine Step.imp (st_index (k := (kInt .u8)) hE rfl rfl Try.underlying37 Try.sizeOf5 (ha0.mono (M.le.trans hm4 hm')) hx12) ?_
 rintro v23 _ ⟨rfl, hp13⟩
 exact ⟨_, M.le.refl _, hS', hp13⟩
 }
 {
 refine cplain fun pre_ post_ L_ T_ m' a' w' hl' hp' hm' hq' hS' hE' hT' => ?_
 obtain rfl := len0 hl'
 obtain ⟨v24, e25, q26⟩ : ∃ v, a'.tmps.getD 19 undef = v ∧ (PR (kInt .u8) m' v x11) := ⟨_, rfl, hT' 1 (by decide) 19 rfl⟩
 have hE := hE'.add (e25)
 refine Step.imp (st_loadM hE hS' ty5 rfl q26) ?_
 rintro v27 _ ⟨rfl, hv14⟩
 obtain ⟨rfl, hr28⟩ := RV_int hv14
 exact ⟨_, M.le.refl _, hS', ⟨rfl, hr28⟩⟩
 }
 {
 refine cplain fun pre_ post_ L_ T_ m' a' w' hl' hp' hm' hq' hS' hE' hT' => ?_
 obtain rfl := len0 hl'
 obtain ⟨v29, e30, q31⟩ : ∃ v, a'.tmps.getD 20 undef = v ∧ (v = (.int .u8 x11) ∧ inR .u8 x11) := ⟨_, rfl, hT' 2 (by decide) 20 rfl⟩
 obtain ⟨q31, hr32⟩ := q31
 have hE := hE'.add (e30.trans q31)
 refine Step.imp (Run1.pure (r_conv hE rfl Try.underlying5 Try.underlying3 rfl)) ?_
 rintro _ _ ⟨rfl, rfl⟩
 exact ⟨_, M.le.refl _, hS', ⟨rfl, (inR_wrap _ _)⟩⟩
 }
 {
 refine cplain fun pre_ post_ L_ T_ m' a' w' hl' hp' hm' hq' hS' hE' hT' => ?_
 obtain rfl := len0 hl'
 refine Step.imp (Run1.pure (r_move hE' rfl)) ?_
 rintro _ _ ⟨rfl, rfl⟩
 exact ⟨_, M.le.refl _, hS', rfl⟩
 }
 {
 refine cplain fun pre_ post_ L_ T_ m' a' w' hl' hp' hm' hq' hS' hE' hT' => ?_
 obtain rfl := len0 hl'
 obtain ⟨v35, e36, q37⟩ : ∃ v, a'.tmps.getD 22 undef = v ∧ (v = v0) := ⟨_, rfl, hT' 4 (by decide) 22 rfl⟩
 have hE := hE'.add (e36.trans q37)
 refine Step.imp (st_slice (k := (kInt .u8)) hE rfl Try.underlying37 Try.sizeOf5 (ha0.mono (M.le.trans hm4 hm')) ⟨_, rfl⟩ rfl hx17 (xl := (some (.const (.int .i64 1)))) (xh := none)) ?_
 rintro v38 _ ⟨rfl, hv18⟩
 exact ⟨_, M.le.refl _, hS', hv18⟩
 }
 {
 refine cplain fun pre_ post_ L_ T_ m' a' w' hl' hp' hm' hq' hS' hE' hT' => ?_
 obtain rfl := len0 hl'
 obtain ⟨v39, e40, q41⟩ : ∃ v, a'.tmps.getD 21 undef = v ∧ (v = (.int .i64 (IntKind.i64.wrap x11)) ∧ inR .i64 (IntKind.i64.wrap x11)) := ⟨_, rfl, hT' 3 (by decide) 21 rfl⟩
 obtain ⟨q41, hr42⟩ := q41
 have hE := hE'.add (e40.trans q41)
 refine Step.imp (Run1.pure (r_assign hE rfl)) ?_
 rintro _ _ ⟨rfl, rfl⟩
 exact ⟨_, M.le.refl _, hS', ⟨rfl, hr42⟩⟩
 }
 }
 {
 intro ws_ L_ T_ m44 a w hl45 hm46 hq47 hS hd48 hn49 ho50 hT51
 obtain rfl := len0 hl45
 obtain ⟨rfl, rfl⟩ := hq47
 have hE := EnvD.of (k := 7) (l' := [(0, v0), (4, (.slice none 0 0)), (17, (.bool x5))]) hd48 hn49 ho50 ⟨rfl, rfl, rfl, trivial⟩ rfl
 obtain ⟨v52, e53, q54⟩ : ∃ v, a.tmps.getD 23 undef = v ∧ (RV (kSl (kInt .u8)) m44 v x16) := ⟨_, rfl, hT51 5 (by decide) 23 rfl⟩
 have hE := hE.add (e53)
 obtain ⟨v55, e56, q57⟩ : ∃ v, a.tmps.getD 5 undef = v ∧ (v = (.int .i64 (IntKind.i64.wrap x11)) ∧ inR .i64 (IntKind.i64.wrap x11)) := ⟨_, rfl, hT51 6 (by decide) 5 rfl⟩
 obtain ⟨q57, hr58⟩ := q57
 have hE := hE.add (e56.trans q57)
 refine qa hE rfl rfl fun a hE => ?_
 refine knil (kseq (kseq (kreg ?_)))
 refine qm hE rfl rfl fun a hE => ?_
 refine qm hE rfl rfl fun a hE => ?_
 refine knil ?_
 refine kcut (fun a w => ∃ x64 : (List Int), ∃ x67 : (List AV), rows_Decode_j2 x64 x67 = some r ∧ ∃ m', M.le m44 m' ∧ ∃ (v65 : Value), ∃ (v68 : Value), RV (kSl (kInt .u8)) m' v65 x64 ∧ RV (kSl kAV) m' v68 x67 ∧ S W0 m' w (L) ((4, v68) :: TL) ∧ Env 45 a [(0, v65), (4, v68)]) ?_ ?_
 {
 refine kblock ?_
 refine kloop h (fun (s : ((List Int) × (List AV) × Int)) a w => ∃ m', M.le m44 m' ∧ ∃ (v83 : Value), ∃ (v86 : Value), RV (kSl (kInt .u8)) m' v83 s.1 ∧ RV (kSl kAV) m' v86 s.2.1 ∧ inR .i64 s.2.2 ∧ S W0 m' w (L) ((4, v86) :: TL) ∧ Env 45 a [(0, v83), (4, v86), (24, (.int .i64 (IntKind.i64.wrap x11))), (25, (.int .i64 s.2.2))]) ?_ ?_
 {
 exact ⟨_, (M.le.refl _), v52, (.slice none 0 0), q54, RV_nil, (show inR .i64 0 from inR_lit (by decide)), (hS.tail0 4), hE.cut ⟨rfl, rfl, rfl, rfl, trivial⟩⟩
 }
 {
 rintro ⟨x82, x85, x88⟩ a w ⟨m80, hm81, v83, v86, hv84, hv87, hr89, hS, hE⟩ r90 h hb91
 have h : rows_Decode_b1 x11 x82 x85 x88 = some r90 := h
 unfold rows_Decode_b1 at h
 refine kseq (kreg ?_)
 refine sp hE (r_bin hE rfl rfl b_lss) rfl fun a hE => ?_
 refine knil (kseq ?_)
 refine kif hE rfl (fun hd93 => ?_) (fun hd93 => ?_)
 {
 have h := ite_T hd93 h
 refine kskip (kseq (kblock (kseq (kreg ?_))))
 refine qm hE rfl rfl fun a hE => ?_
 obtain ⟨r95, hr96, h⟩ := ob h
 refine st hE (st_call (vs := [v83]) hE rfl Try.call142 (c_rows_read (hS := hS) hv84 hr96)) rfl ?_
 rintro _ a w ⟨m97, hm98, hS, v0_99, v1_100, v2_101, rfl, hv0_102, hv1_103, hv2_104⟩ hE
 obtain rfl := RV_bool hv2_104
 refine qm hE rfl rfl fun a hE => ?_
 refine sp hE (r_extract hE rfl rfl) rfl fun a hE => ?_
 refine sp hE (r_extract hE rfl rfl) rfl fun a hE => ?_
 refine sp hE (r_extract hE rfl rfl) rfl fun a hE => ?_
 refine st hE (st_alloc hS Try.zeroValue53 rfl (cs := zc53)) rfl ?_
 rintro _ a w ⟨b110, rfl, hS⟩ hE
 refine st0 hE (st_storeF hE hS ty53 StF_self rfl rfl hv0_102 (i := 0) rfl (zr53 _)) ?_
 rintro _ w ⟨cs112, hc113, hS⟩ hE
 refine qa hE rfl rfl fun a hE => ?_
 refine qa hE rfl rfl fun a hE => ?_
 refine knil (kseq (kseq (kreg ?_)))
 refine qm hE rfl rfl fun a hE => ?_
 refine sp hE (r_not hE rfl) rfl fun a hE => ?_
 refine knil ?_
 refine kif hE rfl (fun hd119 => ?_) (fun hd119 => ?_)
 {
 have h := ite_T hd119 h
 refine kseq (kreg ?_)
 refine qa hE rfl rfl fun a hE => ?_
 refine qa hE rfl rfl fun a hE => ?_
 refine knil (kret ?_)
 have h := unwrap h hb91
 obtain rfl := oi h
 try dsimp only
 refine Fin.mk hE (rs := [.tmp 2, .tmp 3]) rfl (ResL.tmp hE rfl (ResL.tmp hE rfl ResL.nil)) ?_
 exact ⟨_, (M.le.trans hm4 (M.le.trans hm46 (M.le.trans hm81 hm98))), ((hS.dropL 1).dropT 1), _, _, rfl, RV_nil, (RV_of_int (show inR .i64 30 from inR_lit (by decide)))⟩
 }
 {
 have h := ite_F hd119 h
 refine kskip (kreg ?_)
 refine qm hE rfl rfl fun a hE => ?_
 refine st hE (st_loadL hE hS ty53 rfl (i := 0) rfl (R_whole hc113)) rfl ?_
 rintro v124 a _ ⟨rfl, hv123⟩ hE
 refine st hE (st_lit (k := kAV) (xs := [r95.1]) (vs := [v124]) hE hS rfl Try.underlying29 Try.sizeOf53 Try.zeroValue53 ⟨hv123, trivial⟩ rfl (by decide)) rfl ?_
 rintro v128 a w ⟨m126, hm127, hS, hv125⟩ hE
 obtain ⟨z129, hz130, h⟩ := ob h
 refine st hE (st_app (k := kAV) (N := 3518437208883) hE hS rfl rfl Try.underlying29 Try.underlying29 el53 (i := 1) rfl (hv87.mono (M.le.trans hm98 hm127)) hv125 hz130 rfl rfl) rfl ?_
 rintro v134 a w ⟨m132, hm133, hS, hv131⟩ hE
 refine qm hE rfl rfl fun a hE => ?_
 refine qa hE rfl rfl fun a hE => ?_
 refine qa hE rfl rfl fun a hE => ?_
 refine knil (kreg ?_)
 refine sp hE (r_bin hE rfl rfl (b_add rfl)) rfl fun a hE => ?_
 refine qm hE rfl rfl fun a hE => ?_
 refine knil ?_
 exact ⟨(r95.2.1, z129, IntKind.i64.wrap (x88 + 1)), (Option.some.inj h).symm, _, (M.le.trans hm81 (M.le.trans hm98 (M.le.trans hm127 hm133))), v1_100, v134, (hv1_103.mono (M.le.trans hm127 hm133)), hv131, (inR_wrap _ _), ((hS.pickL 1 [] rfl rfl rfl).pickT 2 [1] rfl rfl rfl), hE.cut ⟨rfl, rfl, rfl, rfl, trivial⟩⟩
 }
 }
 {
 have h := ite_F hd93 h
 refine kexit rfl rfl ?_
 have h := unwrap h hb91
 exact ⟨x82, x85, h, _, hm81, v83, v86, hv84, hv87, hS, hE.cut ⟨rfl, rfl, trivial⟩⟩
 }
 }
 }
 {
 rintro a w ⟨x64, x67, h, m62, hm63, v65, v68, hv66, hv69, hS, hE⟩
 unfold rows_Decode_j2 at h
 refine kseq (kseq (kreg ?_))
 refine qm hE rfl rfl fun a hE => ?_
 refine sp hE (r_lenSl (k := (kInt .u8)) hE rfl rfl Try.underlying37 hv66) rfl fun a hE => ?_
 refine sp hE (r_bin hE rfl rfl b_gtr) rfl fun a hE => ?_
 refine knil ?_
 refine kif hE rfl (fun hd74 => ?_) (fun hd74 => ?_)
 {
 have h := ite_T hd74 h
 refine kseq (kreg ?_)
 refine qa hE rfl rfl fun a hE => ?_
 refine qa hE rfl rfl fun a hE => ?_
 refine knil (kret ?_)
 obtain rfl := oi h
 try dsimp only
 refine Fin.mk hE (rs := [.tmp 2, .tmp 3]) rfl (ResL.tmp hE rfl (ResL.tmp hE rfl ResL.nil)) ?_
 exact ⟨_, (M.le.trans hm4 (M.le.trans hm46 hm63)), (hS.dropT 1), _, _, rfl, RV_nil, (RV_of_int (show inR .i64 30 from inR_lit (by decide)))⟩
 }
 {
 have h := ite_F hd74 h
 refine kskip (kseq (kreg ?_))
 refine qm hE rfl rfl fun a hE => ?_
 refine qa hE rfl rfl fun a hE => ?_
 refine qa hE rfl rfl fun a hE => ?_
 refine knil (kret ?_)
 obtain rfl := oi h
 try dsimp only
 refine Fin.mk hE (rs := [.tmp 2, .tmp 3]) rfl (ResL.tmp hE rfl (ResL.tmp hE rfl ResL.nil)) ?_
 exact ⟨_, (M.le.trans hm4 (M.le.trans hm46 hm63)), (hS.dropT 1), _, _, rfl, hv69, (RV_of_int (show inR .i64 0 from inR_lit (by decide)))⟩
 }
 }
 }
 }
 }
theorem c_encode_reader_value {W0 : Bse} {m : M} {w : World} {L : List (Nat × List Value)} {TL : List (Nat × Value)} {b0_ : Nat} {c0_ : List Value} (hS : S W0 m w ((b0_, c0_) :: L) (TL)) {p0 : Encode_reader} (ha0 : kEncode_reader.R m c0_ p0) {r : (AV × Encode_reader)} (h : encode_reader_value p0 = some r) :
    Calls Try.prog 86 [(.pointer (some ⟨b0_, 0, none⟩))].toArray w (Ret fun v w' => ∃ m', M.le m m' ∧ ∃ q0_ : List Value, S W0 m' w' ((b0_, q0_) :: L) (TL) ∧ kEncode_reader.R m' q0_ r.2 ∧ RV kAV m' v r.1) := by
 refine kcall Try.func86 rfl Try.ntmps86 (Nat.le_of_ble_eq_true rfl) fun a hE => ?_
 have hE : Env 49 a [(0, (.pointer (some ⟨b0_, 0, none⟩)))] := hE
 unfold encode_reader_value at h
 refine kseq (kreg ?_)
 refine st hE (st_alloc hS Try.zeroValue53 rfl (cs := zc53)) rfl ?_
 rintro _ a w ⟨b1, rfl, hS⟩ hE
 refine knil (kseq (kseq (kreg ?_)))
 refine qa hE rfl rfl fun a hE => ?_
 refine knil ?_
 refine kcut (fun a w => encode_reader_value_j1 p0 = some r ∧ ∃ m', M.le m m' ∧ S W0 m' w ((b1, zc53) :: (b0_, c0_) :: L) (TL) ∧ Env 49 a [(0, (.pointer (some ⟨b0_, 0, none⟩))), (2, (.pointer (some ⟨b1, 0, none⟩)))]) ?_ ?_
 {
 refine kblock ?_
 refine kloop h (fun (s : Int) a w => ∃ m', M.le m m' ∧ inR .i64 s ∧ S W0 m' w ((b1, zc53) :: (b0_, c0_) :: L) (TL) ∧ Env 49 a [(0, (.pointer (some ⟨b0_, 0, none⟩))), (2, (.pointer (some ⟨b1, 0, none⟩))), (3, (.int .i64 s))]) ?_ ?_
 {
 exact ⟨_, (M.le.refl _), (show inR .i64 1 from inR_lit (by decide)), hS, hE.cut ⟨rfl, rfl, rfl, trivial⟩⟩
 }
 {
 rintro x20 a w ⟨m18, hm19, hr21, hS, hE⟩ r22 h hb23
 have h : encode_reader_value_b1 p0 x20 = some r22 := h
 unfold encode_reader_value_b1 at h
 refine kseq (kseq ?_)
 refine kcut (fun a w => ∃ x26 : Bool, encode_reader_value_j2 p0 x20 x26 = some r22 ∧ ∃ m', M.le m18 m' ∧ S W0 m' w ((b1, zc53) :: (b0_, c0_) :: L) (TL) ∧ Env 49 a [(0, (.pointer (some ⟨b0_, 0, none⟩))), (2, (.pointer (some ⟨b1, 0, none⟩))), (3, (.int .i64 x20)), (16, (.bool x26))]) ?_ ?_
 {
 refine kreg ?_
 refine qm hE rfl rfl fun a hE => ?_
 refine qm hE rfl rfl fun a hE => ?_
 refine sp hE (r_nilCheck hE rfl) rfl fun a hE => ?_
 refine sp hE (r_fieldL hE fo87_0 rfl) rfl fun a hE => ?_
 refine st hE (st_loadL hE hS ty37 rfl (i := 1) rfl (fl87_0.R_drop (R_whole (kEncode_reader.mono hm19 ha0)))) rfl ?_
 rintro v101 a _ ⟨rfl, hv100⟩ hE
 refine sp hE (r_lenSl (k := (kInt .u8)) hE rfl rfl Try.underlying37 hv100) rfl fun a hE => ?_
 refine sp hE (r_bin hE rfl rfl b_leq) rfl fun a hE => ?_
 refine qm hE rfl rfl fun a hE => ?_
 rcases Bool.eq_false_or_eq_true (decide (x20 ≤ (p0.fB.length : Int))) with hd105 | hd105
 {
 have h := ite_T hd105 h
 refine spg hE rfl rfl rfl rfl hd105 (r_move hE rfl) rfl fun a hE => ?_
 refine spg hE rfl rfl rfl rfl hd105 (r_bin hE rfl rfl b_leq) rfl fun a hE => ?_
 refine sp hE (r_pickT hE rfl hd105 rfl) rfl fun a hE => ?_
 refine knil ?_
 exact ⟨(decide (x20 ≤ 66)), h, _, (M.le.refl _), hS, hE.cut ⟨rfl, rfl, rfl, rfl, trivial⟩⟩
 }
 {
 have h := ite_F hd105 h
 refine sx hE rfl rfl rfl rfl hd105 rfl fun a hE => ?_
 refine sx hE rfl rfl rfl rfl hd105 rfl fun a hE => ?_
 refine sp hE (r_pickF hE rfl hd105 rfl) rfl fun a hE => ?_
 refine knil ?_
 exact ⟨false, h, _, (M.le.refl _), hS, hE.cut ⟨rfl, rfl, rfl, rfl, trivial⟩⟩
 }
 }
 {
 rintro a w ⟨x26, h, m24, hm25, hS, hE⟩
 unfold encode_reader_value_j2 at h
 refine kif hE rfl (fun hd28 => ?_) (fun hd28 => ?_)
 {
 have h := ite_T hd28 h
 refine kskip (kseq (kblock (kseq (kreg ?_))))
 refine st hE (st_lit (k := (kInt .u8)) (xs := [1]) (vs := [(.int .u8 1)]) hE hS rfl Try.underlying37 Try.sizeOf5 Try.zeroValue5 ⟨(RV_of_int (show inR .u8 1 from inR_lit (by decide))), trivial⟩ rfl (by decide)) rfl ?_
 rintro v32 a w ⟨m30, hm31, hS, hv29⟩ hE
 refine qm hE rfl rfl fun a hE => ?_
 refine sp hE (r_nilCheck hE rfl) rfl fun a hE => ?_
 refine sp hE (r_fieldL hE fo87_0 rfl) rfl fun a hE => ?_
 refine st hE (st_loadL hE hS ty37 rfl (i := 1) rfl (fl87_0.R_drop (R_whole (kEncode_reader.mono (M.le.trans hm19 (M.le.trans hm25 hm31)) ha0)))) rfl ?_
 rintro v37 a _ ⟨rfl, hv36⟩ hE
 refine qm hE rfl rfl fun a hE => ?_
 obtain ⟨x39, hx40, h⟩ := ob h
 refine st hE (st_slice (k := (kInt .u8)) hE rfl Try.underlying37 Try.sizeOf5 hv36 rfl ⟨_, rfl⟩ hx40 (xl := none) (xh := (some (.tmp 25)))) rfl ?_
 rintro v42 a _ ⟨rfl, hv41⟩ hE
 obtain ⟨z43, hz44, h⟩ := ob h
 refine st hE (st_app (k := (kInt .u8)) (N := 140737488355328) hE hS rfl rfl Try.underlying37 Try.underlying37 el5 (i := 0) rfl hv29 hv41 hz44 rfl rfl) rfl ?_
 rintro v48 a w ⟨m46, hm47, hS, hv45⟩ hE
 obtain ⟨r49, hr50, h⟩ := ob h
 refine st hE (st_call (vs := [v48]) hE rfl Try.call128 (c_rows_Decode (hS := hS) hv45 hr50)) rfl ?_
 rintro _ a w ⟨m51, hm52, hS, v0_53, v1_54, rfl, hv0_55, hv1_56⟩ hE
 obtain ⟨rfl, hr58⟩ := RV_int hv1_56
 refine qm hE rfl rfl fun a hE => ?_
 refine sp hE (r_extract hE rfl rfl) rfl fun a hE => ?_
 refine sp hE (r_extract hE rfl rfl) rfl fun a hE => ?_
 refine qa hE rfl rfl fun a hE => ?_
 refine qa hE rfl rfl fun a hE => ?_
 refine knil (kseq (kreg ?_))
 refine qm hE rfl rfl fun a hE => ?_
 refine sp hE (r_bin hE rfl rfl b_eql) rfl fun a hE => ?_
 refine knil ?_
 refine kif hE rfl (fun hd66 => ?_) (fun hd66 => ?_)
 {
 have h := ite_T hd66 h
 refine kseq (kreg ?_)
 refine qm hE rfl rfl fun a hE => ?_
 refine qm hE rfl rfl fun a hE => ?_
 refine sp hE (r_nilCheck hE rfl) rfl fun a hE => ?_
 refine sp hE (r_fieldL hE fo87_0 rfl) rfl fun a hE => ?_
 refine st hE (st_loadL hE hS ty37 rfl (i := 1) rfl (fl87_0.R_drop (R_whole (kEncode_reader.mono (M.le.trans hm19 (M.le.trans hm25 (M.le.trans hm31 (M.le.trans hm47 hm52)))) ha0)))) rfl ?_
 rintro v72 a _ ⟨rfl, hv71⟩ hE
 refine qm hE rfl rfl fun a hE => ?_
 obtain ⟨x74, hx75, h⟩ := ob h
 refine st hE (st_slice (k := (kInt .u8)) hE rfl Try.underlying37 Try.sizeOf5 hv71 ⟨_, rfl⟩ rfl hx75 (xl := (some (.tmp 38))) (xh := none)) rfl ?_
 rintro v77 a _ ⟨rfl, hv76⟩ hE
 refine sp hE (r_nilCheck hE rfl) rfl fun a hE => ?_
 refine sp hE (r_fieldL hE fo87_0 rfl) rfl fun a hE => ?_
 refine st0 hE (st_storeF hE hS ty37 sf87_0 rfl rfl hv76 (i := 1) rfl (kEncode_reader.mono (M.le.trans hm19 (M.le.trans hm25 (M.le.trans hm31 (M.le.trans hm47 hm52)))) ha0)) ?_
 rintro _ w ⟨cs80, hc81, hS⟩ hE
 refine knil (kseq (kreg ?_))
 refine qm hE rfl rfl fun a hE => ?_
 obtain ⟨x84, hx85, h⟩ := ob h
 refine st hE (st_index (k := kAV) hE rfl rfl Try.underlying29 Try.sizeOf53 hv0_55 hx85) rfl ?_
 rintro v87 a _ ⟨rfl, hp86⟩ hE
 refine st hE (st_loadM hE hS ty53 rfl hp86) rfl ?_
 rintro v89 a _ ⟨rfl, hv88⟩ hE
 refine st0 hE (st_storeF hE hS ty53 StF_self rfl rfl hv88 (i := 0) rfl (zr53 _)) ?_
 rintro _ w ⟨cs90, hc91, hS⟩ hE
 refine knil (kret ?_)
 have h := unwrap h hb23
 obtain rfl := oi h
 try dsimp only
 refine Fin.mk hE (rs := [.cell 2 53]) rfl (ResL.cell hE hS ty53 rfl (i := 0) rfl (R_whole hc91) ResL.nil) ?_
 exact ⟨_, (M.le.trans hm19 (M.le.trans hm25 (M.le.trans hm31 (M.le.trans hm47 hm52)))), cs80, ((hS.pickL 2 [1] rfl rfl rfl).dropT 1), hc81, (RV_of_R (R_whole hc91))⟩
 }
 {
 have h := ite_F hd66 h
 refine kskip (kreg ?_)
 refine qm hE rfl rfl fun a hE => ?_
 refine sp hE (r_bin hE rfl rfl (b_add rfl)) rfl fun a hE => ?_
 refine qa hE rfl rfl fun a hE => ?_
 refine knil ?_
 exact ⟨IntKind.i64.wrap (x20 + 1), (Option.some.inj h).symm, _, (M.le.trans hm19 (M.le.trans hm25 (M.le.trans hm31 (M.le.trans hm47 hm52)))), (inR_wrap _ _), (hS.pickT 1 [] rfl rfl rfl), hE.cut ⟨rfl, rfl, rfl, trivial⟩⟩
 }
 }
 {
 have h := ite_F hd28 h
 refine kexit rfl rfl ?_
 have h := unwrap h hb23
 exact ⟨h, _, (M.le.trans hm19 hm25), hS, hE.cut ⟨rfl, rfl, trivial⟩⟩
 }
 }
 }
 }
 {
 rintro a w ⟨h, m4, hm5, hS, hE⟩
 unfold encode_reader_value_j1 at h
 refine kseq (kreg ?_)
 refine qm hE rfl rfl fun a hE => ?_
 refine sp hE (r_nilCheck hE rfl) rfl fun a hE => ?_
 refine sp hE (r_fieldL hE fo87_1 rfl) rfl fun a hE => ?_
 refine st0 hE (st_storeF hE hS ty4 sf87_1 rfl rfl RV_of_bool (i := 1) rfl (kEncode_reader.mono hm5 ha0)) ?_
 rintro _ w ⟨cs10, hc11, hS⟩ hE
 refine knil (kseq (kreg ?_))
 refine st hE (st_build (m := m4) (k := kAV) (x0 := AV.zero) (xx := (⟨0, false, 0, []⟩ : AV)) (pl := [(0, 1), (1, 1), (2, 1), (3, 1)]) (pv := []) hE rfl Try.underlying53 rfl Try.zeroValue53 zr53 rfl .nil) rfl ?_
 rintro v14 a _ ⟨rfl, hv13⟩ hE
 refine st0 hE (st_storeF hE hS ty53 StF_self rfl rfl hv13 (i := 0) rfl (zr53 _)) ?_
 rintro _ w ⟨cs15, hc16, hS⟩ hE
 refine knil (kret ?_)
 obtain rfl := oi h
 try dsimp only
 refine Fin.mk hE (rs := [.cell 2 53]) rfl (ResL.cell hE hS ty53 rfl (i := 0) rfl (R_whole hc16) ResL.nil) ?_
 exact ⟨_, hm5, cs10, (hS.pickL 2 [1] rfl rfl rfl), hc11, (RV_of_R (R_whole hc16))⟩
 }
theorem c_encode_reader_take {W0 : Bse} {m : M} {w : World} {L : List (Nat × List Value)} {TL : List (Nat × Value)} {b0_ : Nat} {c0_ : List Value} (hS : S W0 m w ((b0_, c0_) :: L) (TL)) {p0 : Encode_reader} (ha0 : kEncode_reader.R m c0_ p0) {p1 : Int} (ha1 : inR .i64 p1) {r : ((List Int) × Encode_reader)} (h : encode_reader_take p0 p1 = some r) :
    Calls Try.prog 87 [(.pointer (some ⟨b0_, 0, none⟩)), (.int .i64 p1)].toArray w (Ret fun v w' => ∃ m', M.le m m' ∧ ∃ q0_ : List Value, S W0 m' w' ((b0_, q0_) :: L) (TL) ∧ kEncode_reader.R m' q0_ r.2 ∧ RV (kSl (kInt .u8)) m' v r.1) := by
 refine kcall Try.func87 rfl Try.ntmps87 (Nat.le_of_ble_eq_true rfl) fun a hE => ?_
 have hE : Env 39 a [(0, (.pointer (some ⟨b0_, 0, none⟩))), (1, (.int .i64 p1))] := hE
 unfold encode_reader_take at h
 refine kseq (kreg ?_)
 refine qa hE rfl rfl fun a hE => ?_
 refine knil (kseq (kseq (kreg ?_)))
 refine qm hE rfl rfl fun a hE => ?_
 refine qm hE rfl rfl fun a hE => ?_
 refine sp hE (r_nilCheck hE rfl) rfl fun a hE => ?_
 refine sp hE (r_fieldL hE fo87_0 rfl) rfl fun a hE => ?_
 refine st hE (st_loadL hE hS ty37 rfl (i := 0) rfl (fl87_0.R_drop (R_whole ha0))) rfl ?_
 rintro v7 a _ ⟨rfl, hv6⟩ hE
 refine sp hE (r_lenSl (k := (kInt .u8)) hE rfl rfl Try.underlying37 hv6) rfl fun a hE => ?_
 refine sp hE (r_bin hE rfl rfl b_gtr) rfl fun a hE => ?_
 refine knil ?_
 refine kif hE rfl (fun hd10 => ?_) (fun hd10 => ?_)
 {
 have h := ite_T hd10 h
 refine kseq (kreg ?_)
 refine qm hE rfl rfl fun a hE => ?_
 refine qm hE rfl rfl fun a hE => ?_
 refine sp hE (r_nilCheck hE rfl) rfl fun a hE => ?_
 refine sp hE (r_fieldL hE fo87_0 rfl) rfl fun a hE => ?_
 refine st0 hE (st_storeF hE hS ty37 sf87_0 rfl rfl RV_nil (i := 0) rfl ha0) ?_
 rintro _ w ⟨cs15, hc16, hS⟩ hE
 refine sp hE (r_nilCheck hE rfl) rfl fun a hE => ?_
 refine sp hE (r_fieldL hE fo87_1 rfl) rfl fun a hE => ?_
 refine st0 hE (st_storeF hE hS ty4 sf87_1 rfl rfl RV_of_bool (i := 0) rfl hc16) ?_
 rintro _ w ⟨cs20, hc21, hS⟩ hE
 refine knil (kseq (kreg ?_))
 refine qm hE rfl rfl fun a hE => ?_
 obtain ⟨z24, hz25, h⟩ := ob h
 refine st hE (st_makeG (k := (kInt .u8)) (m := m) hE hS rfl rfl Try.underlying37 Try.type5 rfl rfl rfl (fun m => zr5 m) hz25 rfl rfl) rfl ?_
 rintro v29 a w ⟨b26, cs27, hc28, hS⟩ hE
 refine qa hE rfl rfl fun a hE => ?_
 refine knil ?_
 obtain ⟨m31, hm32, hS, hv33⟩ := S.freeze hS hc28
 refine kret ?_
 obtain rfl := oi h
 try dsimp only
 refine Fin.mk hE (rs := [.tmp 4]) rfl (ResL.tmp hE rfl ResL.nil) ?_
 exact ⟨_, hm32, cs20, hS, (kEncode_reader.mono hm32 hc21), hv33⟩
 }
 {
 have h := ite_F hd10 h
 refine kskip (kseq (kreg ?_))
 refine qm hE rfl rfl fun a hE => ?_
 obtain ⟨z35, hz36, h⟩ := ob h
 refine st hE (st_makeG (k := (kInt .u8)) (m := m) hE hS rfl rfl Try.underlying37 Try.type5 rfl rfl rfl (fun m => zr5 m) hz36 rfl rfl) rfl ?_
 rintro v40 a w ⟨b37, cs38, hc39, hS⟩ hE
 refine qa hE rfl rfl fun a hE => ?_
 refine knil (kseq (kreg ?_))
 refine qm hE rfl rfl fun a hE => ?_
 refine qm hE rfl rfl fun a hE => ?_
 refine sp hE (r_nilCheck hE rfl) rfl fun a hE => ?_
 refine sp hE (r_fieldL hE fo87_0 rfl) rfl fun a hE => ?_
 refine st hE (st_loadL hE hS ty37 rfl (i := 1) rfl (fl87_0.R_drop (R_whole ha0))) rfl ?_
 rintro v47 a _ ⟨rfl, hv46⟩ hE
 refine st hE (st_copyG (k := (kInt .u8)) hE hS rfl rfl Try.underlying37 Try.sizeOf5 (i := 0) rfl hc39 hv46) rfl ?_
 rintro v50 a _ ⟨rfl, cs48, hc49, hS⟩ hE
 refine knil (kseq ?_)
 obtain ⟨m51, hm52, hS, hv53⟩ := S.freeze hS hc49
 refine kreg ?_
 refine qm hE rfl rfl fun a hE => ?_
 refine qm hE rfl rfl fun a hE => ?_
 refine sp hE (r_nilCheck hE rfl) rfl fun a hE => ?_
 refine sp hE (r_fieldL hE fo87_0 rfl) rfl fun a hE => ?_
 refine st hE (st_loadL hE hS ty37 rfl (i := 0) rfl (fl87_0.R_drop (R_whole (kEncode_reader.mono hm52 ha0)))) rfl ?_
 rintro v59 a _ ⟨rfl, hv58⟩ hE
 refine qm hE rfl rfl fun a hE => ?_
 obtain ⟨x61, hx62, h⟩ := ob h
 refine st hE (st_slice (k := (kInt .u8)) hE rfl Try.underlying37 Try.sizeOf5 hv58 ⟨_, rfl⟩ rfl hx62 (xl := (some (.tmp 34))) (xh := none)) rfl ?_
 rintro v64 a _ ⟨rfl, hv63⟩ hE
 refine sp hE (r_nilCheck hE rfl) rfl fun a hE => ?_
 refine sp hE (r_fieldL hE fo87_0 rfl) rfl fun a hE => ?_
 refine st0 hE (st_storeF hE hS ty37 sf87_0 rfl rfl hv63 (i := 0) rfl (kEncode_reader.mono hm52 ha0)) ?_
 rintro _ w ⟨cs67, hc68, hS⟩ hE
 refine knil (kseq (kreg ?_))
 refine qm hE rfl rfl fun a hE => ?_
 refine qa hE rfl rfl fun a hE => ?_
 refine knil (kret ?_)
 obtain rfl := oi h
 try dsimp only
 refine Fin.mk hE (rs := [.tmp 4]) rfl (ResL.tmp hE rfl ResL.nil) ?_
 exact ⟨_, hm52, cs67, hS, hc68, hv53⟩
 }
theorem c_bits_Mul64 {W0 : Bse} {m : M} {w : World} {L : List (Nat × List Value)} {TL : List (Nat × Value)} (hS : S W0 m w (L) (TL)) {p0 : Int} (ha0 : inR .u64 p0) {p1 : Int} (ha1 : inR .u64 p1) {r : (Int × Int)} (h : bits_Mul64 p0 p1 = some r) :
    Calls Try.prog 144 [(.int .u64 p0), (.int .u64 p1)].toArray w (Ret fun v w' => ∃ m', M.le m m' ∧ S W0 m' w' (L) (TL) ∧ ∃ v0_ v1_ : Value, v = .tuple #[v0_, v1_] ∧ RV (kInt .u64) m' v0_ r.1 ∧ RV (kInt .u64) m' v1_ r.2) := by
 refine kcall Try.func144 rfl Try.ntmps144 (Nat.le_of_ble_eq_true rfl) fun a hE => ?_
 have hE : Env 51 a [(0, (.int .u64 p0)), (1, (.int .u64 p1))] := hE
 unfold bits_Mul64 at h
 refine kseq (kreg ?_)
 refine qa hE rfl rfl fun a hE => ?_
 refine qa hE rfl rfl fun a hE => ?_
 refine knil (kseq (kreg ?_))
 refine qm hE rfl rfl fun a hE => ?_
 refine sp hE (r_bin hE rfl rfl (b_and rfl)) rfl fun a hE => ?_
 refine qa hE rfl rfl fun a hE => ?_
 refine knil (kseq (kreg ?_))
 refine qm hE rfl rfl fun a hE => ?_
 refine sp hE (r_bin hE rfl rfl (b_shr rfl (by decide))) rfl fun a hE => ?_
 refine qa hE rfl rfl fun a hE => ?_
 refine knil (kseq (kreg ?_))
 refine qm hE rfl rfl fun a hE => ?_
 refine sp hE (r_bin hE rfl rfl (b_and rfl)) rfl fun a hE => ?_
 refine qa hE rfl rfl fun a hE => ?_
 refine knil (kseq (kreg ?_))
 refine qm hE rfl rfl fun a hE => ?_
 refine sp hE (r_bin hE rfl rfl (b_shr rfl (by decide))) rfl fun a hE => ?_
 refine qa hE rfl rfl fun a hE => ?_
 refine knil (kseq (kreg ?_))
 refine qm hE rfl rfl fun a hE => ?_
 refine qm hE rfl rfl fun a hE => ?_
 refine sp hE (r_bin hE rfl rfl (b_mul rfl)) rfl fun a hE => ?_
 refine qa hE rfl rfl fun a hE => ?_
 refine knil (kseq (kreg ?_))
 refine qm hE rfl rfl fun a hE => ?_
 refine qm hE rfl rfl fun a hE => ?_
 refine sp hE (r_bin hE rfl rfl (b_mul rfl)) rfl fun a hE => ?_
 refine qm hE rfl rfl fun a hE => ?_
 refine sp hE (r_bin hE rfl rfl (b_shr rfl (by decide))) rfl fun a hE => ?_
 refine sp hE (r_bin hE rfl rfl (b_add rfl)) rfl fun a hE => ?_
 refine qa hE rfl rfl fun a hE => ?_
 refine knil (kseq (kreg ?_))
 refine qm hE rfl rfl fun a hE => ?_
 refine sp hE (r_bin hE rfl rfl (b_and rfl)) rfl fun a hE => ?_
 refine qa hE rfl rfl fun a hE => ?_
 refine knil (kseq (kreg ?_))
 refine qm hE rfl rfl fun a hE => ?_
 refine sp hE (r_bin hE rfl rfl (b_shr rfl (by decide))) rfl fun a hE => ?_
 refine qa hE rfl rfl fun a hE => ?_
 refine knil (kseq (kreg ?_))
 refine qm hE rfl rfl fun a hE => ?_
 refine qm hE rfl rfl fun a hE => ?_
 refine qm hE rfl rfl fun a hE => ?_
 refine sp hE (r_bin hE rfl rfl (b_mul rfl)) rfl fun a hE => ?_
 refine sp hE (r_bin hE rfl rfl (b_add rfl)) rfl fun a hE => ?_
 refine qa hE rfl rfl fun a hE => ?_
 refine knil (kseq (kreg ?_))
 refine qm hE rfl rfl fun a hE => ?_
 refine qm hE rfl rfl fun a hE => ?_
 refine sp hE (r_bin hE rfl rfl (b_mul rfl)) rfl fun a hE => ?_
 refine qm hE rfl rfl fun a hE => ?_
 refine sp hE (r_bin hE rfl rfl (b_add rfl)) rfl fun a hE => ?_
 refine qm hE rfl rfl fun a hE => ?_
 refine sp hE (r_bin hE rfl rfl (b_shr rfl (by decide))) rfl fun a hE => ?_
 refine sp hE (r_bin hE rfl rfl (b_add rfl)) rfl fun a hE => ?_
 refine qa hE rfl rfl fun a hE => ?_
 refine knil (kseq (kreg ?_))
 refine qm hE rfl rfl fun a hE => ?_
 refine qm hE rfl rfl fun a hE => ?_
 refine sp hE (r_bin hE rfl rfl (b_mul rfl)) rfl fun a hE => ?_
 refine qa hE rfl rfl fun a hE => ?_
 refine knil (kret ?_)
 obtain rfl := oi h
 try dsimp only
 refine Fin.mk hE (rs := [.tmp 4, .tmp 5]) rfl (ResL.tmp hE rfl (ResL.tmp hE rfl ResL.nil)) ?_
 exact ⟨_, (M.le.refl _), hS, _, _, rfl, (RV_of_int (inR_wrap _ _)), (RV_of_int (inR_wrap _ _))⟩
theorem c_bits_Mul {W0 : Bse} {m : M} {w : World} {L : List (Nat × List Value)} {TL : List (Nat × Value)} (hS : S W0 m w (L) (TL)) {p0 : Int} (ha0 : inR .u64 p0) {p1 : Int} (ha1 : inR .u64 p1) {r : (Int × Int)} (h : bits_Mul p0 p1 = some r) :
    Calls Try.prog 129 [(.int .u64 p0), (.int .u64 p1)].toArray w (Ret fun v w' => ∃ m', M.le m m' ∧ S W0 m' w' (L) (TL) ∧ ∃ v0_ v1_ : Value, v = .tuple #[v0_, v1_] ∧ RV (kInt .u64) m' v0_ r.1 ∧ RV (kInt .u64) m' v1_ r.2) := by
 refine kcall Try.func129 rfl Try.ntmps129 (Nat.le_of_ble_eq_true rfl) fun a hE => ?_
 have hE : Env 30 a [(0, (.int .u64 p0)), (1, (.int .u64 p1))] := hE
 unfold bits_Mul at h
 refine kseq (kreg ?_)
 refine qa hE rfl rfl fun a hE => ?_
 refine qa hE rfl rfl fun a hE => ?_
 refine knil (kseq ?_)
 refine kif hE rfl (fun hx_ => absurd (hx_.symm.trans rfl) (by decide)) (fun hx_ => ?_)
 refine kskip (kseq (kreg ?_))
 refine qm hE rfl rfl fun a hE => ?_
 refine qm hE rfl rfl fun a hE => ?_
 obtain ⟨r5, hr6, h⟩ := ob h
 refine st hE (st_call (vs := [(.int .u64 p0), (.int .u64 p1)]) hE rfl Try.call144 (c_bits_Mul64 (hS := hS) ha0 ha1 hr6)) rfl ?_
 rintro _ a w ⟨m7, hm8, hS, v0_9, v1_10, rfl, hv0_11, hv1_12⟩ hE
 obtain ⟨rfl, hr14⟩ := RV_int hv0_11
 obtain ⟨rfl, hr15⟩ := RV_int hv1_12
 refine qm hE rfl rfl fun a hE => ?_
 refine sp hE (r_extract hE rfl rfl) rfl fun a hE => ?_
 refine sp hE (r_extract hE rfl rfl) rfl fun a hE => ?_
 refine qa hE rfl rfl fun a hE => ?_
 refine qa hE rfl rfl fun a hE => ?_
 refine knil (kseq (kreg ?_))
 refine qm hE rfl rfl fun a hE => ?_
 refine qm hE rfl rfl fun a hE => ?_
 refine qa hE rfl rfl fun a hE => ?_
 refine qa hE rfl rfl fun a hE => ?_
 refine knil (kret ?_)
 obtain rfl := oi h
 try dsimp only
 refine Fin.mk hE (rs := [.tmp 4, .tmp 5]) rfl (ResL.tmp hE rfl (ResL.tmp hE rfl ResL.nil)) ?_
 exact ⟨_, hm8, hS, _, _, rfl, (RV_of_int hr14), (RV_of_int hr15)⟩
theorem c_slices_Repeat_Value {W0 : Bse} {m : M} {w : World} {L : List (Nat × List Value)} {TL : List (Nat × Value)} (hS : S W0 m w (L) (TL)) {v0 : Value} {p0 : (List AV)} (ha0 : RV (kSl kAV) m v0 p0) {p1 : Int} (ha1 : inR .i64 p1) {r : (List AV)} (h : slices_Repeat_Value p0 p1 = some r) :
    Calls Try.prog 88 [v0, (.int .i64 p1)].toArray w (Ret fun v w' => ∃ m', M.le m m' ∧ S W0 m' w' (L) (TL) ∧ RV (kSl kAV) m' v r) := by
 refine kcall Try.func88 rfl Try.ntmps88 (Nat.le_of_ble_eq_true rfl) fun a hE => ?_
 have hE : Env 48 a [(0, v0), (1, (.int .i64 p1))] := hE
 unfold slices_Repeat_Value at h
 refine kseq (kreg ?_)
 refine qa hE rfl rfl fun a hE => ?_
 refine knil (kseq (kseq (kreg ?_)))
 refine qm hE rfl rfl fun a hE => ?_
 refine sp hE (r_bin hE rfl rfl b_lss) rfl fun a hE => ?_
 refine knil ?_
 refine kcut (fun a w => slices_Repeat_Value_j1 p0 p1 = some r ∧ ∃ m', M.le m m' ∧ S W0 m' w (L) (TL) ∧ Env 48 a [(0, v0), (1, (.int .i64 p1))]) ?_ ?_
 {
 refine kif hE rfl (fun hd143 => ?_) (fun hd143 => ?_)
 {
 have h := ite_T hd143 h
 cases h
 }
 {
 have h := ite_F hd143 h
 refine kskip ?_
 exact ⟨h, _, (M.le.refl _), hS, hE.cut ⟨rfl, rfl, trivial⟩⟩
 }
 }
 {
 rintro a w ⟨h, m4, hm5, hS, hE⟩
 unfold slices_Repeat_Value_j1 at h
 refine kseq (kreg ?_)
 refine qm hE rfl rfl fun a hE => ?_
 refine sp hE (r_lenSl (k := kAV) hE rfl rfl Try.underlying29 (ha0.mono hm5)) rfl fun a hE => ?_
 refine sp hE (r_conv hE rfl Try.underlying3 Try.underlying101 rfl) rfl fun a hE => ?_
 refine qm hE rfl rfl fun a hE => ?_
 refine sp hE (r_conv hE rfl Try.underlying3 Try.underlying101 rfl) rfl fun a hE => ?_
 obtain ⟨r12, hr13, h⟩ := ob h
 refine st hE (st_call (vs := [(.int .u64 (IntKind.u64.wrap (p0.length : Int))), (.int .u64 (IntKind.u64.wrap p1))]) hE rfl Try.call129 (c_bits_Mul (hS := hS) (inR_wrap _ _) (inR_wrap _ _) hr13)) rfl ?_
 rintro _ a w ⟨m14, hm15, hS, v0_16, v1_17, rfl, hv0_18, hv1_19⟩ hE
 obtain ⟨rfl, hr21⟩ := RV_int hv0_18
 obtain ⟨rfl, hr22⟩ := RV_int hv1_19
 refine qm hE rfl rfl fun a hE => ?_
 refine sp hE (r_extract hE rfl rfl) rfl fun a hE => ?_
 refine sp hE (r_extract hE rfl rfl) rfl fun a hE => ?_
 refine qa hE rfl rfl fun a hE => ?_
 refine qa hE rfl rfl fun a hE => ?_
 refine knil (kseq (kseq ?_))
 refine kcut (fun a w => ∃ x30 : Bool, slices_Repeat_Value_j2 p0 r12 x30 = some r ∧ ∃ m', M.le m14 m' ∧ S W0 m' w (L) (TL) ∧ Env 48 a [(0, v0), (6, (.int .u64 r12.2)), (26, (.bool x30))]) ?_ ?_
 {
 refine kreg ?_
 refine qm hE rfl rfl fun a hE => ?_
 refine sp hE (r_bin hE rfl rfl b_gtr) rfl fun a hE => ?_
 refine qm hE rfl rfl fun a hE => ?_
 rcases Bool.eq_false_or_eq_true (decide (0 < r12.1)) with hd138 | hd138
 {
 have h := ite_T hd138 h
 refine sx hE rfl rfl rfl rfl hd138 rfl fun a hE => ?_
 refine sx hE rfl rfl rfl rfl hd138 rfl fun a hE => ?_
 refine sp hE (r_pickT hE rfl hd138 rfl) rfl fun a hE => ?_
 refine knil ?_
 exact ⟨true, h, _, (M.le.refl _), hS, hE.cut ⟨rfl, rfl, rfl, trivial⟩⟩
 }
 {
 have h := ite_F hd138 h
 refine spg hE rfl rfl rfl rfl hd138 (r_move hE rfl) rfl fun a hE => ?_
 refine spg hE rfl rfl rfl rfl hd138 (r_bin hE rfl rfl b_gtr) rfl fun a hE => ?_
 refine sp hE (r_pickF hE rfl hd138 rfl) rfl fun a hE => ?_
 refine knil ?_
 exact ⟨(decide (9223372036854775807 < r12.2)), h, _, (M.le.refl _), hS, hE.cut ⟨rfl, rfl, rfl, trivial⟩⟩
 }
 }
 {
 rintro a w ⟨x30, h, m28, hm29, hS, hE⟩
 unfold slices_Repeat_Value_j2 at h
 refine kcut (fun a w => slices_Repeat_Value_j3 p0 r12 = some r ∧ ∃ m', M.le m28 m' ∧ S W0 m' w (L) (TL) ∧ Env 48 a [(0, v0), (6, (.int .u64 r12.2))]) ?_ ?_
 {
 refine kif hE rfl (fun hd134 => ?_) (fun hd134 => ?_)
 {
 have h := ite_T hd134 h
 cases h
 }
 {
 have h := ite_F hd134 h
 refine kskip ?_
 exact ⟨h, _, (M.le.refl _), hS, hE.cut ⟨rfl, rfl, trivial⟩⟩
 }
 }
 {
 rintro a w ⟨h, m32, hm33, hS, hE⟩
 unfold slices_Repeat_Value_j3 at h
 refine kseq (kreg ?_)
 refine qm hE rfl rfl fun a hE => ?_
 refine sp hE (r_conv hE rfl Try.underlying101 Try.underlying3 rfl) rfl fun a hE => ?_
 obtain ⟨z37, hz38, h⟩ := ob h
 refine st hE (st_makeG (k := kAV) (m := m32) hE hS rfl rfl Try.underlying29 Try.type53 rfl rfl rfl (fun m => zr53 m) hz38 rfl rfl) rfl ?_
 rintro v42 a w ⟨b39, cs40, hc41, hS⟩ hE
 refine qa hE rfl rfl fun a hE => ?_
 refine knil (kseq (kreg ?_))
 refine qm hE rfl rfl fun a hE => ?_
 refine qm hE rfl rfl fun a hE => ?_
 refine st hE (st_copyG (k := kAV) hE hS rfl rfl Try.underlying29 Try.sizeOf53 (i := 0) rfl hc41 (ha0.mono (M.le.trans hm5 (M.le.trans hm15 (M.le.trans hm29 hm33))))) rfl ?_
 rintro v48 a _ ⟨rfl, cs46, hc47, hS⟩ hE
 refine qa hE rfl rfl fun a hE => ?_
 refine knil (kseq ?_)
 refine kcut (fun a w => ∃ x52 : (List AV), slices_Repeat_Value_j4 x52 = some r ∧ ∃ m', M.le m32 m' ∧ ∃ (v53 : Value), RV (kSl kAV) m' v53 x52 ∧ S W0 m' w (L) (TL) ∧ Env 48 a [(7, v53)]) ?_ ?_
 {
 refine kblock ?_
 refine kloop h (fun (s : (Int × (List AV))) a w => ∃ m', M.le m32 m' ∧ ∃ (cs63 : List Value), inR .i64 s.1 ∧ GS kAV m' b39 cs63 v42 s.2 ∧ S W0 m' w ((b39, cs63) :: L) (TL) ∧ Env 48 a [(7, v42), (8, (.int .i64 s.1))]) ?_ ?_
 {
 exact ⟨_, (M.le.refl _), cs46, (inR_len (Nat.le_trans (Nat.min_le_right _ _) (GS.len hc41))), hc47, hS, hE.cut ⟨rfl, rfl, trivial⟩⟩
 }
 {
 rintro ⟨x60, x62⟩ a w ⟨m58, hm59, cs63, hr61, hc64, hS, hE⟩ r65 h hb66
 have h : slices_Repeat_Value_b1 x60 x62 = some r65 := h
 unfold slices_Repeat_Value_b1 at h
 refine kseq (kseq (kreg ?_))
 refine qm hE rfl rfl fun a hE => ?_
 refine qm hE rfl rfl fun a hE => ?_
 refine sp hE (r_lenG (k := kAV) hE rfl rfl Try.underlying29 hc64) rfl fun a hE => ?_
 refine sp hE (r_bin hE rfl rfl b_lss) rfl fun a hE => ?_
 refine knil ?_
 refine kif hE rfl (fun hd71 => ?_) (fun hd71 => ?_)
 {
 have h := ite_T hd71 h
 refine kskip (kblock ?_)
 obtain ⟨q73, hq74, h⟩ := ob h
 obtain ⟨q76, hq77, h⟩ := ob h
 obtain ⟨u82, hu83, h⟩ := ob h
 obtain ⟨z80, hz81, h⟩ := ob h
 refine kchain (k := 8) (m := m58) (es := [7]) (Φ := (fun i m ws v => match i with | 0 => v = (.int .i64 x60) ∧ inR .i64 x60 | 1 => v = v42 | 2 => v = (.int .i64 x60) ∧ inR .i64 x60 | 3 => VS b39 4 v q73.1 q73.2 | 4 => v = v42 | 5 => v = (.int .i64 x60) ∧ inR .i64 x60 | 6 => VS b39 4 v q76.1 q76.2 | 7 => v = (.int .i64 ((min q76.2 q73.2 : Nat) : Int)) ∧ inR .i64 ((min q76.2 q73.2 : Nat) : Int) | _ => True)) (Q := (fun c m ws L' TL' => match c with | 0 => (b39, cs63) :: L = L' ∧ TL = TL' | 1 => (b39, (wi ws 0).c) :: L = L' ∧ TL = TL' ∧ GS kAV m b39 (wi ws 0).c v42 z80 | _ => False)) (cs := [⟨0, 1, false, [(8, (.int .i64 x60))]⟩, ⟨0, 0, false, [(7, v42)]⟩, ⟨0, 0, false, [(8, (.int .i64 x60))]⟩, ⟨0, 0, false, []⟩, ⟨0, 0, false, [(7, v42)]⟩, ⟨0, 0, false, [(8, (.int .i64 x60))]⟩, ⟨0, 0, false, []⟩, ⟨0, 0, true, []⟩]) mixed hE hS ⟨rfl, rfl⟩ rfl rfl ⟨⟨rfl, trivial⟩, ⟨rfl, trivial⟩, ⟨rfl, trivial⟩, trivial, ⟨rfl, trivial⟩, ⟨rfl, trivial⟩, trivial, trivial, trivial⟩ (by kernel_rfl) ?_ ?_ ?_ ?_
 {
 intro i m_ m2_ ws v hm_ hp_
 match i, hp_ with
 | 0, hp_ => exact hp_
 | 1, hp_ => exact hp_
 | 2, hp_ => exact hp_
 | 3, hp_ => exact hp_
 | 4, hp_ => exact hp_
 | 5, hp_ => exact hp_
 | 6, hp_ => exact hp_
 | 7, hp_ => exact hp_
 | _ + 8, hp_ => exact trivial
 }
 {
 intro c m_ m2_ ws L_ T_ hm_ hq_
 match c, hq_ with
 | 0, ⟨e1_, e2_⟩ => exact ⟨e1_, e2_⟩
 | 1, ⟨e1_, e2_, f0_⟩ => exact ⟨e1_, e2_, (GS.mono f0_ hm_)⟩
 | _ + 2, hq_ => exact hq_.elim
 }
 {
 refine ⟨?_, ?_, ?_, ?_, ?_, ?_, ?_, ?_, trivial⟩
 {
 refine cplain fun pre_ post_ L_ T_ m' a' w' hl' hp' hm' hq' hS' hE' hT' => ?_
 obtain rfl := len0 hl'
 refine Step.imp (Run1.pure (r_move hE' rfl)) ?_
 rintro _ _ ⟨rfl, rfl⟩
 exact ⟨_, M.le.refl _, hS', ⟨rfl, hr61⟩⟩
 }
 {
 refine cplain fun pre_ post_ L_ T_ m' a' w' hl' hp' hm' hq' hS' hE' hT' => ?_
 obtain rfl := len0 hl'
 refine Step.imp (Run1.pure (r_move hE' rfl)) ?_
 rintro _ _ ⟨rfl, rfl⟩
 exact ⟨_, M.le.refl _, hS', rfl⟩
 }
 {
 refine cplain fun pre_ post_ L_ T_ m' a' w' hl' hp' hm' hq' hS' hE' hT' => ?_
 obtain rfl := len0 hl'
 refine Step.imp (Run1.pure (r_move hE' rfl)) ?_
 rintro _ _ ⟨rfl, rfl⟩
 exact ⟨_, M.le.refl _, hS', ⟨rfl, hr61⟩⟩
 }
 {
 refine cplain fun pre_ post_ L_ T_ m' a' w' hl' hp' hm' hq' hS' hE' hT' => ?_
 obtain rfl := len0 hl'
 obtain rfl := len0 (lenz (a := 0) hp')
 obtain ⟨rfl, rfl⟩ := hq'
 obtain ⟨v88, e89, q90⟩ : ∃ v, a'.tmps.getD 39 undef = v ∧ (v = v42) := ⟨_, rfl, hT' 1 (by decide) 39 rfl⟩
 have hE := hE'.add (e89.trans q90)
 obtain ⟨v91, e92, q93⟩ : ∃ v, a'.tmps.getD 40 undef = v ∧ (v = (.int .i64 x60) ∧ inR .i64 x60) := ⟨_, rfl, hT' 2 (by decide) 40 rfl⟩
 obtain ⟨q93, hr94⟩ := q93
 have hE := hE.add (e92.trans q93)
 refine Step.imp (st_viewG (k := kAV) hE rfl Try.underlying29 Try.sizeOf53 (hc64.mono hm') ⟨_, rfl⟩ rfl hq74 (sz := 4) rfl (xl := (some (.tmp 40))) (xh := none)) ?_
 rintro v95 _ ⟨rfl, hc72⟩
 exact ⟨_, M.le.refl _, hS', hc72⟩
 }
 {
 refine cplain fun pre_ post_ L_ T_ m' a' w' hl' hp' hm' hq' hS' hE' hT' => ?_
 obtain rfl := len0 hl'
 refine Step.imp (Run1.pure (r_move hE' rfl)) ?_
 rintro _ _ ⟨rfl, rfl⟩
 exact ⟨_, M.le.refl _, hS', rfl⟩
 }
 {
 refine cplain fun pre_ post_ L_ T_ m' a' w' hl' hp' hm' hq' hS' hE' hT' => ?_
 obtain rfl := len0 hl'
 refine Step.imp (Run1.pure (r_move hE' rfl)) ?_
 rintro _ _ ⟨rfl, rfl⟩
 exact ⟨_, M.le.refl _, hS', ⟨rfl, hr61⟩⟩
 }
 {
 refine cplain fun pre_ post_ L_ T_ m' a' w' hl' hp' hm' hq' hS' hE' hT' => ?_
 obtain rfl := len0 hl'
 obtain rfl := len0 (lenz (a := 0) hp')
 obtain ⟨rfl, rfl⟩ := hq'
 obtain ⟨v98, e99, q100⟩ : ∃ v, a'.tmps.getD 42 undef = v ∧ (v = v42) := ⟨_, rfl, hT' 4 (by decide) 42 rfl⟩
 have hE := hE'.add (e99.trans q100)
 obtain ⟨v101, e102, q103⟩ : ∃ v, a'.tmps.getD 43 undef = v ∧ (v = (.int .i64 x60) ∧ inR .i64 x60) := ⟨_, rfl, hT' 5 (by decide) 43 rfl⟩
 obtain ⟨q103, hr104⟩ := q103
 have hE := hE.add (e102.trans q103)
 refine Step.imp (st_viewG (k := kAV) hE rfl Try.underlying29 Try.sizeOf53 (hc64.mono hm') rfl ⟨_, rfl⟩ hq77 (sz := 4) rfl (xl := none) (xh := (some (.tmp 43)))) ?_
 rintro v105 _ ⟨rfl, hc75⟩
 exact ⟨_, M.le.refl _, hS', hc75⟩
 }
 {
 refine cturn fun pre_ L_ T_ m' a' w' hl' hm' hq' hS' hE' hT' => ?_
 obtain rfl := len0 hl'
 obtain ⟨rfl, rfl⟩ := hq'
 obtain ⟨v106, e107, q108⟩ : ∃ v, a'.tmps.getD 41 undef = v ∧ (VS b39 4 v q73.1 q73.2) := ⟨_, rfl, hT' 3 (by decide) 41 rfl⟩
 have hE := hE'.add (e107)
 obtain ⟨v109, e110, q111⟩ : ∃ v, a'.tmps.getD 44 undef = v ∧ (VS b39 4 v q76.1 q76.2) := ⟨_, rfl, hT' 6 (by decide) 44 rfl⟩
 have hE := hE.add (e110)
 refine Step.imp (st_copyVV (k := kAV) hE hS' rfl rfl Try.underlying29 Try.sizeOf53 (i := 0) rfl (hc64.mono hm') q108 q111 hz81) ?_
 rintro _ w ⟨rfl, cs78, hc79, hS⟩
 exact ⟨_, ⟨0, undef, cs78, [], []⟩, _, _, M.le.refl _, hS, ⟨rfl, rfl, hc79⟩, ⟨rfl, (inR_len (Nat.le_of_ble_eq_true (chk_some hu83)))⟩⟩
 }
 }
 {
 intro ws_ L_ T_ m112 a w hl113 hm114 hq115 hS hd116 hn117 ho118 hT119
 obtain ⟨⟨_, _, cs78, _, _⟩, rfl⟩ := len1 hl113
 obtain ⟨rfl, rfl, hc120⟩ := hq115
 have hE := EnvD.of (k := 8) (l' := [(7, v42), (8, (.int .i64 x60)), (34, (.int .i64 x60)), (35, v42), (36, (.int .i64 (x62.length : Int))), (37, (.bool (decide (x60 < (x62.length : Int)))))]) hd116 hn117 ho118 ⟨rfl, rfl, rfl, rfl, rfl, rfl, trivial⟩ rfl
 obtain ⟨v121, e122, q123⟩ : ∃ v, a.tmps.getD 38 undef = v ∧ (v = (.int .i64 x60) ∧ inR .i64 x60) := ⟨_, rfl, hT119 0 (by decide) 38 rfl⟩
 obtain ⟨q123, hr124⟩ := q123
 have hE := hE.add (e122.trans q123)
 obtain ⟨v125, e126, q127⟩ : ∃ v, a.tmps.getD 45 undef = v ∧ (v = (.int .i64 ((min q76.2 q73.2 : Nat) : Int)) ∧ inR .i64 ((min q76.2 q73.2 : Nat) : Int)) := ⟨_, rfl, hT119 7 (by decide) 45 rfl⟩
 obtain ⟨q127, hr128⟩ := q127
 have hE := hE.add (e126.trans q127)
 refine sp hE (r_bin hE rfl rfl (b_add rfl)) rfl fun a hE => ?_
 refine qa hE rfl rfl fun a hE => ?_
 refine knil ?_
 exact ⟨(IntKind.i64.wrap (x60 + ((min q76.2 q73.2 : Nat) : Int)), z80), (Option.some.inj h).symm, _, (M.le.trans hm59 hm114), cs78, (inR_wrap _ _), hc120, hS, hE.cut ⟨rfl, rfl, trivial⟩⟩
 }
 }
 {
 have h := ite_F hd71 h
 obtain ⟨m131, hm132, hS, hv133⟩ := S.freeze hS hc64
 refine kexit rfl rfl ?_
 have h := unwrap h hb66
 exact ⟨x62, h, _, (M.le.trans hm59 hm132), v42, hv133, hS, hE.cut ⟨rfl, trivial⟩⟩
 }
 }
 }
 {
 rintro a w ⟨x52, h, m50, hm51, v53, hv54, hS, hE⟩
 unfold slices_Repeat_Value_j4 at h
 refine kseq (kreg ?_)
 refine qm hE rfl rfl fun a hE => ?_
 refine qa hE rfl rfl fun a hE => ?_
 refine knil (kret ?_)
 obtain rfl := oi h
 try dsimp only
 refine Fin.mk hE (rs := [.tmp 4]) rfl (ResL.tmp hE rfl ResL.nil) ?_
 exact ⟨_, (M.le.trans hm5 (M.le.trans hm15 (M.le.trans hm29 (M.le.trans hm33 hm51)))), hS, hv54⟩
 }
 }
 }
 }
theorem c_encode_reader_number {W0 : Bse} {m : M} {w : World} {L : List (Nat × List Value)} {TL : List (Nat × Value)} {b0_ : Nat} {c0_ : List Value} (hS : S W0 m w ((b0_, c0_) :: L) (TL)) {p0 : Encode_reader} (ha0 : kEncode_reader.R m c0_ p0) {r : (Int × Encode_reader)} (h : encode_reader_number p0 = some r) :
    Calls Try.prog 89 [(.pointer (some ⟨b0_, 0, none⟩))].toArray w (Ret fun v w' => ∃ m', M.le m m' ∧ ∃ q0_ : List Value, S W0 m' w' ((b0_, q0_) :: L) (TL) ∧ kEncode_reader.R m' q0_ r.2 ∧ RV (kInt .u64) m' v r.1) := by
 refine kcall Try.func89 rfl Try.ntmps89 (Nat.le_of_ble_eq_true rfl) fun a hE => ?_
 have hE : Env 20 a [(0, (.pointer (some ⟨b0_, 0, none⟩)))] := hE
 unfold encode_reader_number at h
 refine kseq (kreg ?_)
 refine qa hE rfl rfl fun a hE => ?_
 refine knil (kseq (kreg ?_))
 refine qa hE rfl rfl fun a hE => ?_
 refine knil (kseq (kseq (kreg ?_)))
 refine qm hE rfl rfl fun a hE => ?_
 obtain ⟨r4, hr5, h⟩ := ob h
 refine st hE (st_call (vs := [(.pointer (some ⟨b0_, 0, none⟩)), (.int .i64 8)]) hE rfl Try.call87 (c_encode_reader_take (hS := hS) ha0 (show inR .i64 8 from inR_lit (by decide)) hr5)) rfl ?_
 rintro v11 a w ⟨m6, hm7, c0_8, hS, hc0_9, hv10⟩ hE
 refine sp hE (r_lenSl (k := (kInt .u8)) hE rfl rfl Try.underlying37 hv10) rfl fun a hE => ?_
 refine qm hE rfl rfl fun a hE => ?_
 refine knil ?_
 refine kcut (fun a w => ∃ x16 : Int, encode_reader_number_j1 r4 x16 = some r ∧ ∃ m', M.le m6 m' ∧ inR .u64 x16 ∧ S W0 m' w ((b0_, c0_8) :: L) (TL) ∧ Env 20 a [(3, (.int .u64 x16))]) ?_ ?_
 {
 refine kblock ?_
 refine kloop h (fun (s : (Int × Int)) a w => ∃ m', M.le m6 m' ∧ inR .u64 s.1 ∧ inR .i64 s.2 ∧ S W0 m' w ((b0_, c0_8) :: L) (TL) ∧ Env 20 a [(3, (.int .u64 s.1)), (7, v11), (8, (.int .i64 (r4.1.length : Int))), (9, (.int .i64 s.2))]) ?_ ?_
 {
 exact ⟨_, (M.le.refl _), (show inR .u64 0 from inR_lit (by decide)), (show inR .i64 0 from inR_lit (by decide)), hS, hE.cut ⟨rfl, rfl, rfl, rfl, trivial⟩⟩
 }
 {
 rintro ⟨x23, x25⟩ a w ⟨m21, hm22, hr24, hr26, hS, hE⟩ r27 h hb28
 have h : encode_reader_number_b1 r4 x23 x25 = some r27 := h
 unfold encode_reader_number_b1 at h
 refine kseq (kreg ?_)
 refine sp hE (r_bin hE rfl rfl b_lss) rfl fun a hE => ?_
 refine knil (kseq ?_)
 refine kif hE rfl (fun hd30 => ?_) (fun hd30 => ?_)
 {
 have h := ite_T hd30 h
 refine kskip (kseq (kblock (kseq (kreg ?_))))
 obtain ⟨x31, hx32, h⟩ := ob h
 refine st hE (st_index (k := (kInt .u8)) hE rfl rfl Try.underlying37 Try.sizeOf5 (hv10.mono hm22) hx32) rfl ?_
 rintro v34 a _ ⟨rfl, hp33⟩ hE
 refine st hE (st_loadM hE hS ty5 rfl hp33) rfl ?_
 rintro v36 a _ ⟨rfl, hv35⟩ hE
 obtain ⟨rfl, hr37⟩ := RV_int hv35
 refine qa hE rfl rfl fun a hE => ?_
 refine knil (kreg ?_)
 refine qm hE rfl rfl fun a hE => ?_
 refine sp hE (r_bin hE rfl rfl (b_shl rfl (by decide))) rfl fun a hE => ?_
 refine qm hE rfl rfl fun a hE => ?_
 refine sp hE (r_conv hE rfl Try.underlying5 Try.underlying24 rfl) rfl fun a hE => ?_
 refine sp hE (r_bin hE rfl rfl (b_or rfl)) rfl fun a hE => ?_
 refine qa hE rfl rfl fun a hE => ?_
 refine knil (kreg ?_)
 refine sp hE (r_bin hE rfl rfl (b_add rfl)) rfl fun a hE => ?_
 refine qm hE rfl rfl fun a hE => ?_
 refine knil ?_
 exact ⟨(bOr .u64 (iShl .u64 x23 8) (IntKind.u64.wrap x31), IntKind.i64.wrap (x25 + 1)), (Option.some.inj h).symm, _, hm22, (inR_or _ _ _), (inR_wrap _ _), hS, hE.cut ⟨rfl, rfl, rfl, rfl, trivial⟩⟩
 }
 {
 have h := ite_F hd30 h
 refine kexit rfl rfl ?_
 have h := unwrap h hb28
 exact ⟨x23, h, _, hm22, hr24, hS, hE.cut ⟨rfl, trivial⟩⟩
 }
 }
 }
 {
 rintro a w ⟨x16, h, m14, hm15, hr17, hS, hE⟩
 unfold encode_reader_number_j1 at h
 refine kseq (kreg ?_)
 refine qm hE rfl rfl fun a hE => ?_
 refine qa hE rfl rfl fun a hE => ?_
 refine knil (kret ?_)
 obtain rfl := oi h
 try dsimp only
 refine Fin.mk hE (rs := [.tmp 2]) rfl (ResL.tmp hE rfl ResL.nil) ?_
 exact ⟨_, (M.le.trans hm7 hm15), c0_8, hS, (kEncode_reader.mono hm15 hc0_9), (RV_of_int hr17)⟩
 }
theorem c_encode_reader_short {W0 : Bse} {m : M} {w : World} {L : List (Nat × List Value)} {TL : List (Nat × Value)} {b0_ : Nat} {c0_ : List Value} (hS : S W0 m w ((b0_, c0_) :: L) (TL)) {p0 : Encode_reader} (ha0 : kEncode_reader.R m c0_ p0) {r : (Int × Encode_reader)} (h : encode_reader_short p0 = some r) :
    Calls Try.prog 91 [(.pointer (some ⟨b0_, 0, none⟩))].toArray w (Ret fun v w' => ∃ m', M.le m m' ∧ ∃ q0_ : List Value, S W0 m' w' ((b0_, q0_) :: L) (TL) ∧ kEncode_reader.R m' q0_ r.2 ∧ RV (kInt .u64) m' v r.1) := by
 refine kcall Try.func91 rfl Try.ntmps91 (Nat.le_of_ble_eq_true rfl) fun a hE => ?_
 have hE : Env 33 a [(0, (.pointer (some ⟨b0_, 0, none⟩)))] := hE
 unfold encode_reader_short at h
 refine kseq (kreg ?_)
 refine qa hE rfl rfl fun a hE => ?_
 refine knil (kseq (kreg ?_))
 refine qa hE rfl rfl fun a hE => ?_
 refine knil (kseq (kseq (kreg ?_)))
 refine qa hE rfl rfl fun a hE => ?_
 refine knil ?_
 refine kcut (fun a w => ∃ x6 : Encode_reader, encode_reader_short_j1 x6 = some r ∧ ∃ m', M.le m m' ∧ ∃ (cs7 : List Value), kEncode_reader.R m' cs7 x6 ∧ S W0 m' w ((b0_, cs7) :: L) (TL) ∧ Env 33 a [(0, (.pointer (some ⟨b0_, 0, none⟩)))]) ?_ ?_
 {
 refine kblock ?_
 refine kloop h (fun (s : (Int × Int × Encode_reader)) a w => ∃ m', M.le m m' ∧ ∃ (cs24 : List Value), inR .u64 s.1 ∧ inR .i64 s.2.1 ∧ kEncode_reader.R m' cs24 s.2.2 ∧ S W0 m' w ((b0_, cs24) :: L) (TL) ∧ Env 33 a [(0, (.pointer (some ⟨b0_, 0, none⟩))), (3, (.int .u64 s.1)), (4, (.int .i64 s.2.1))]) ?_ ?_
 {
 exact ⟨_, (M.le.refl _), c0_, (show inR .u64 0 from inR_lit (by decide)), (show inR .i64 0 from inR_lit (by decide)), ha0, hS, hE.cut ⟨rfl, rfl, rfl, trivial⟩⟩
 }
 {
 rintro ⟨x19, x21, x23⟩ a w ⟨m17, hm18, cs24, hr20, hr22, hc25, hS, hE⟩ r26 h hb27
 have h : encode_reader_short_b1 x19 x21 x23 = some r26 := h
 unfold encode_reader_short_b1 at h
 refine kseq (kseq ?_)
 refine kcut (fun a w => ∃ x30 : Bool, encode_reader_short_j2 x19 x21 x23 x30 = some r26 ∧ ∃ m', M.le m17 m' ∧ S W0 m' w ((b0_, cs24) :: L) (TL) ∧ Env 33 a [(0, (.pointer (some ⟨b0_, 0, none⟩))), (3, (.int .u64 x19)), (4, (.int .i64 x21)), (13, (.bool x30))]) ?_ ?_
 {
 refine kreg ?_
 refine qm hE rfl rfl fun a hE => ?_
 refine sp hE (r_bin hE rfl rfl b_lss) rfl fun a hE => ?_
 refine qm hE rfl rfl fun a hE => ?_
 rcases Bool.eq_false_or_eq_true (decide (x21 < 70)) with hd71 | hd71
 {
 have h := ite_T hd71 h
 refine spg hE rfl rfl rfl rfl hd71 (r_move hE rfl) rfl fun a hE => ?_
 refine spg hE rfl rfl rfl rfl hd71 (r_nilCheck hE rfl) rfl fun a hE => ?_
 refine spg hE rfl rfl rfl rfl hd71 (r_fieldL hE fo87_1 rfl) rfl fun a hE => ?_
 refine stg hE rfl rfl rfl rfl hd71 (st_loadL hE hS ty4 rfl (i := 0) rfl (fl87_1.R_drop (R_whole hc25))) rfl ?_
 rintro v76 a _ ⟨rfl, hv75⟩ hE
 obtain rfl := RV_bool hv75
 refine sp hE (r_pickT hE rfl hd71 rfl) rfl fun a hE => ?_
 refine knil ?_
 exact ⟨x23.fOk, h, _, (M.le.refl _), hS, hE.cut ⟨rfl, rfl, rfl, rfl, trivial⟩⟩
 }
 {
 have h := ite_F hd71 h
 refine sx hE rfl rfl rfl rfl hd71 rfl fun a hE => ?_
 refine sx hE rfl rfl rfl rfl hd71 rfl fun a hE => ?_
 refine sx hE rfl rfl rfl rfl hd71 rfl fun a hE => ?_
 refine sx hE rfl rfl rfl rfl hd71 rfl fun a hE => ?_
 refine sp hE (r_pickF hE rfl hd71 rfl) rfl fun a hE => ?_
 refine knil ?_
 exact ⟨false, h, _, (M.le.refl _), hS, hE.cut ⟨rfl, rfl, rfl, rfl, trivial⟩⟩
 }
 }
 {
 rintro a w ⟨x30, h, m28, hm29, hS, hE⟩
 unfold encode_reader_short_j2 at h
 refine kif hE rfl (fun hd32 => ?_) (fun hd32 => ?_)
 {
 have h := ite_T hd32 h
 refine kskip (kseq (kblock (kseq (kreg ?_))))
 refine qm hE rfl rfl fun a hE => ?_
 obtain ⟨r34, hr35, h⟩ := ob h
 refine st hE (st_call (vs := [(.pointer (some ⟨b0_, 0, none⟩)), (.int .i64 1)]) hE rfl Try.call87 (c_encode_reader_take (hS := hS) (kEncode_reader.mono hm29 hc25) (show inR .i64 1 from inR_lit (by decide)) hr35)) rfl ?_
 rintro v41 a w ⟨m36, hm37, c0_38, hS, hc0_39, hv40⟩ hE
 obtain ⟨x42, hx43, h⟩ := ob h
 refine st hE (st_index (k := (kInt .u8)) hE rfl rfl Try.underlying37 Try.sizeOf5 hv40 hx43) rfl ?_
 rintro v45 a _ ⟨rfl, hp44⟩ hE
 refine st hE (st_loadM hE hS ty5 rfl hp44) rfl ?_
 rintro v47 a _ ⟨rfl, hv46⟩ hE
 obtain ⟨rfl, hr48⟩ := RV_int hv46
 refine qa hE rfl rfl fun a hE => ?_
 refine knil (kseq (kreg ?_))
 refine qm hE rfl rfl fun a hE => ?_
 refine qm hE rfl rfl fun a hE => ?_
 refine sp hE (r_bin hE rfl rfl (b_and rfl)) rfl fun a hE => ?_
 refine sp hE (r_conv hE rfl Try.underlying5 Try.underlying24 rfl) rfl fun a hE => ?_
 refine qm hE rfl rfl fun a hE => ?_
 obtain ⟨u55, hu56, h⟩ := ob h
 refine sp hE (r_bin hE rfl rfl (b_shl rfl (of_decide_eq_true (chk_some hu56)))) rfl fun a hE => ?_
 refine sp hE (r_bin hE rfl rfl (b_or rfl)) rfl fun a hE => ?_
 refine qa hE rfl rfl fun a hE => ?_
 refine knil (kseq (kreg ?_))
 refine qm hE rfl rfl fun a hE => ?_
 refine sp hE (r_bin hE rfl rfl b_lss) rfl fun a hE => ?_
 refine knil ?_
 refine kif hE rfl (fun hd62 => ?_) (fun hd62 => ?_)
 {
 have h := ite_T hd62 h
 refine kseq (kreg ?_)
 refine qm hE rfl rfl fun a hE => ?_
 refine qa hE rfl rfl fun a hE => ?_
 refine knil (kret ?_)
 have h := unwrap h hb27
 obtain rfl := oi h
 try dsimp only
 refine Fin.mk hE (rs := [.tmp 2]) rfl (ResL.tmp hE rfl ResL.nil) ?_
 exact ⟨_, (M.le.trans hm18 (M.le.trans hm29 hm37)), c0_38, hS, hc0_39, (RV_of_int (inR_or _ _ _))⟩
 }
 {
 have h := ite_F hd62 h
 refine kskip (kreg ?_)
 refine qm hE rfl rfl fun a hE => ?_
 refine sp hE (r_bin hE rfl rfl (b_add rfl)) rfl fun a hE => ?_
 refine qa hE rfl rfl fun a hE => ?_
 refine knil ?_
 exact ⟨(bOr .u64 x19 (iShl .u64 (IntKind.u64.wrap (bAnd .u8 x42 127)) x21), IntKind.i64.wrap (x21 + 7), r34.2), (Option.some.inj h).symm, _, (M.le.trans hm18 (M.le.trans hm29 hm37)), c0_38, (inR_or _ _ _), (inR_wrap _ _), hc0_39, hS, hE.cut ⟨rfl, rfl, rfl, trivial⟩⟩
 }
 }
 {
 have h := ite_F hd32 h
 refine kexit rfl rfl ?_
 have h := unwrap h hb27
 exact ⟨x23, h, _, (M.le.trans hm18 hm29), cs24, (kEncode_reader.mono hm29 hc25), hS, hE.cut ⟨rfl, trivial⟩⟩
 }
 }
 }
 }
 {
 rintro a w ⟨x6, h, m4, hm5, cs7, hc8, hS, hE⟩
 unfold encode_reader_short_j1 at h
 refine kseq (kreg ?_)
 refine qm hE rfl rfl fun a hE => ?_
 refine sp hE (r_nilCheck hE rfl) rfl fun a hE => ?_
 refine sp hE (r_fieldL hE fo87_1 rfl) rfl fun a hE => ?_
 refine st0 hE (st_storeF hE hS ty4 sf87_1 rfl rfl RV_of_bool (i := 0) rfl hc8) ?_
 rintro _ w ⟨cs13, hc14, hS⟩ hE
 refine knil (kseq (kreg ?_))
 refine qa hE rfl rfl fun a hE => ?_
 refine knil (kret ?_)
 obtain rfl := oi h
 try dsimp only
 refine Fin.mk hE (rs := [.tmp 2]) rfl (ResL.tmp hE rfl ResL.nil) ?_
 exact ⟨_, hm5, cs13, hS, hc14, (RV_of_int (show inR .u64 0 from inR_lit (by decide)))⟩
 }
theorem c_bits_Len64 {W0 : Bse} {m : M} {w : World} {L : List (Nat × List Value)} {TL : List (Nat × Value)} (hS : S W0 m w (L) (TL)) {p0 : Int} (ha0 : inR .u64 p0) {r : Int} (h : bits_Len64 p0 = some r) :
    Calls Try.prog 107 [(.int .u64 p0)].toArray w (Ret fun v w' => ∃ m', M.le m m' ∧ S W0 m' w' (L) (TL) ∧ RV (kInt .i64) m' v r) := by
 refine kcall Try.func107 rfl Try.ntmps107 (Nat.le_of_ble_eq_true rfl) fun a hE => ?_
 have hE : Env 25 a [(0, (.int .u64 p0))] := hE
 unfold bits_Len64 at h
 refine kseq (kreg ?_)
 refine qa hE rfl rfl fun a hE => ?_
 refine knil (kseq (kseq (kreg ?_)))
 refine qm hE rfl rfl fun a hE => ?_
 refine sp hE (r_bin hE rfl rfl b_geq) rfl fun a hE => ?_
 refine knil ?_
 refine kcut (fun a w => ∃ x6 : Int, ∃ x8 : Int, bits_Len64_j1 x6 x8 = some r ∧ ∃ m', M.le m m' ∧ inR .u64 x6 ∧ inR .i64 x8 ∧ S W0 m' w (L) (TL) ∧ Env 25 a [(0, (.int .u64 x6)), (2, (.int .i64 x8))]) ?_ ?_
 {
 refine kif hE rfl (fun hd52 => ?_) (fun hd52 => ?_)
 {
 have h := ite_T hd52 h
 refine kseq (kreg ?_)
 refine qm hE rfl rfl fun a hE => ?_
 refine sp hE (r_bin hE rfl rfl (b_shr rfl (by decide))) rfl fun a hE => ?_
 refine qa hE rfl rfl fun a hE => ?_
 refine knil (kreg ?_)
 refine qa hE rfl rfl fun a hE => ?_
 refine knil ?_
 exact ⟨(iShr .u64 p0 32), 32, h, _, (M.le.refl _), (inR_shr ha0 _), (show inR .i64 32 from inR_lit (by decide)), hS, hE.cut ⟨rfl, rfl, trivial⟩⟩
 }
 {
 have h := ite_F hd52 h
 refine kskip ?_
 exact ⟨p0, 0, h, _, (M.le.refl _), ha0, (show inR .i64 0 from inR_lit (by decide)), hS, hE.cut ⟨rfl, rfl, trivial⟩⟩
 }
 }
 {
 rintro a w ⟨x6, x8, h, m4, hm5, hr7, hr9, hS, hE⟩
 unfold bits_Len64_j1 at h
 refine kseq (kseq (kreg ?_))
 refine qm hE rfl rfl fun a hE => ?_
 refine sp hE (r_bin hE rfl rfl b_geq) rfl fun a hE => ?_
 refine knil ?_
 refine kcut (fun a w => ∃ x15 : Int, ∃ x17 : Int, bits_Len64_j2 x15 x17 = some r ∧ ∃ m', M.le m4 m' ∧ inR .u64 x15 ∧ inR .i64 x17 ∧ S W0 m' w (L) (TL) ∧ Env 25 a [(0, (.int .u64 x15)), (2, (.int .i64 x17))]) ?_ ?_
 {
 refine kif hE rfl (fun hd45 => ?_) (fun hd45 => ?_)
 {
 have h := ite_T hd45 h
 refine kseq (kreg ?_)
 refine qm hE rfl rfl fun a hE => ?_
 refine sp hE (r_bin hE rfl rfl (b_shr rfl (by decide))) rfl fun a hE => ?_
 refine qa hE rfl rfl fun a hE => ?_
 refine knil (kreg ?_)
 refine qm hE rfl rfl fun a hE => ?_
 refine sp hE (r_bin hE rfl rfl (b_add rfl)) rfl fun a hE => ?_
 refine qa hE rfl rfl fun a hE => ?_
 refine knil ?_
 exact ⟨(iShr .u64 x6 16), (IntKind.i64.wrap (x8 + 16)), h, _, (M.le.refl _), (inR_shr hr7 _), (inR_wrap _ _), hS, hE.cut ⟨rfl, rfl, trivial⟩⟩
 }
 {
 have h := ite_F hd45 h
 refine kskip ?_
 exact ⟨x6, x8, h, _, (M.le.refl _), hr7, hr9, hS, hE.cut ⟨rfl, rfl, trivial⟩⟩
 }
 }
 {
 rintro a w ⟨x15, x17, h, m13, hm14, hr16, hr18, hS, hE⟩
 unfold bits_Len64_j2 at h
 refine kseq (kseq (kreg ?_))
 refine qm hE rfl rfl fun a hE => ?_
 refine sp hE (r_bin hE rfl rfl b_geq) rfl fun a hE => ?_
 refine knil ?_
 refine kcut (fun a w => ∃ x24 : Int, ∃ x26 : Int, bits_Len64_j3 x24 x26 = some r ∧ ∃ m', M.le m13 m' ∧ inR .u64 x24 ∧ inR .i64 x26 ∧ S W0 m' w (L) (TL) ∧ Env 25 a [(0, (.int .u64 x24)), (2, (.int .i64 x26))]) ?_ ?_
 {
 refine kif hE rfl (fun hd38 => ?_) (fun hd38 => ?_)
 {
 have h := ite_T hd38 h
 refine kseq (kreg ?_)
 refine qm hE rfl rfl fun a hE => ?_
 refine sp hE (r_bin hE rfl rfl (b_shr rfl (by decide))) rfl fun a hE => ?_
 refine qa hE rfl rfl fun a hE => ?_
 refine knil (kreg ?_)
 refine qm hE rfl rfl fun a hE => ?_
 refine sp hE (r_bin hE rfl rfl (b_add rfl)) rfl fun a hE => ?_
 refine qa hE rfl rfl fun a hE => ?_
 refine knil ?_
 exact ⟨(iShr .u64 x15 8), (IntKind.i64.wrap (x17 + 8)), h, _, (M.le.refl _), (inR_shr hr16 _), (inR_wrap _ _), hS, hE.cut ⟨rfl, rfl, trivial⟩⟩
 }
 {
 have h := ite_F hd38 h
 refine kskip ?_
 exact ⟨x15, x17, h, _, (M.le.refl _), hr16, hr18, hS, hE.cut ⟨rfl, rfl, trivial⟩⟩
 }
 }
 {
 rintro a w ⟨x24, x26, h, m22, hm23, hr25, hr27, hS, hE⟩
 unfold bits_Len64_j3 at h
 refine kseq (kreg ?_)
 refine qm hE rfl rfl fun a hE => ?_
 refine qm hE rfl rfl fun a hE => ?_
 refine sp hE (r_conv hE rfl Try.underlying24 Try.underlying5 rfl) rfl fun a hE => ?_
 obtain ⟨x32, hx33, h⟩ := ob h
 refine sp hE (r_indexS hE rfl rfl Try.underlying9 (show ∀ n ∈ ([0, 1, 2, 2, 3, 3, 3, 3, 4, 4, 4, 4, 4, 4, 4, 4, 5, 5, 5, 5, 5, 5, 5, 5, 5, 5, 5, 5, 5, 5, 5, 5, 6, 6, 6, 6, 6, 6, 6, 6, 6, 6, 6, 6, 6, 6, 6, 6, 6, 6, 6, 6, 6, 6, 6, 6, 6, 6, 6, 6, 6, 6, 6, 6, 7, 7, 7, 7, 7, 7, 7, 7, 7, 7, 7, 7, 7, 7, 7, 7, 7, 7, 7, 7, 7, 7, 7, 7, 7, 7, 7, 7, 7, 7, 7, 7, 7, 7, 7, 7, 7, 7, 7, 7, 7, 7, 7, 7, 7, 7, 7, 7, 7, 7, 7, 7, 7, 7, 7, 7, 7, 7, 7, 7, 7, 7, 7, 7, 8, 8, 8, 8, 8, 8, 8, 8, 8, 8, 8, 8, 8, 8, 8, 8, 8, 8, 8, 8, 8, 8, 8, 8, 8, 8, 8, 8, 8, 8, 8, 8, 8, 8, 8, 8, 8, 8, 8, 8, 8, 8, 8, 8, 8, 8, 8, 8, 8, 8, 8, 8, 8, 8, 8, 8, 8, 8, 8, 8, 8, 8, 8, 8, 8, 8, 8, 8, 8, 8, 8, 8, 8, 8, 8, 8, 8, 8, 8, 8, 8, 8, 8, 8, 8, 8, 8, 8, 8, 8, 8, 8, 8, 8, 8, 8, 8, 8, 8, 8, 8, 8, 8, 8, 8, 8, 8, 8, 8, 8, 8, 8, 8, 8, 8, 8, 8, 8, 8, 8, 8, 8, 8, 8, 8, 8, 8, 8] : List Int), 0 ≤ n ∧ n < 256 by decide) hx33) rfl fun a hE => ?_
 refine sp hE (r_conv hE rfl Try.underlying5 Try.underlying3 rfl) rfl fun a hE => ?_
 refine sp hE (r_bin hE rfl rfl (b_add rfl)) rfl fun a hE => ?_
 refine qa hE rfl rfl fun a hE => ?_
 refine knil (kret ?_)
 obtain rfl := oi h
 try dsimp only
 refine Fin.mk hE (rs := [.tmp 2]) rfl (ResL.tmp hE rfl ResL.nil) ?_
 exact ⟨_, (M.le.trans hm5 (M.le.trans hm14 hm23)), hS, (RV_of_int (inR_wrap _ _))⟩
 }
 }
 }
theorem c_bits_Len {W0 : Bse} {m : M} {w : World} {L : List (Nat × List Value)} {TL : List (Nat × Value)} (hS : S W0 m w (L) (TL)) {p0 : Int} (ha0 : inR .u64 p0) {r : Int} (h : bits_Len p0 = some r) :
    Calls Try.prog 93 [(.int .u64 p0)].toArray w (Ret fun v w' => ∃ m', M.le m m' ∧ S W0 m' w' (L) (TL) ∧ RV (kInt .i64) m' v r) := by
 refine kcall Try.func93 rfl Try.ntmps93 (Nat.le_of_ble_eq_true rfl) fun a hE => ?_
 have hE : Env 8 a [(0, (.int .u64 p0))] := hE
 unfold bits_Len at h
 refine kseq (kreg ?_)
 refine qa hE rfl rfl fun a hE => ?_
 refine knil (kseq ?_)
 refine kif hE rfl (fun hx_ => absurd (hx_.symm.trans rfl) (by decide)) (fun hx_ => ?_)
 refine kskip (kseq (kreg ?_))
 refine qm hE rfl rfl fun a hE => ?_
 obtain ⟨r3, hr4, h⟩ := ob h
 refine st hE (st_call (vs := [(.int .u64 p0)]) hE rfl Try.call107 (c_bits_Len64 (hS := hS) ha0 hr4)) rfl ?_
 rintro v8 a w ⟨m5, hm6, hS, hv7⟩ hE
 obtain ⟨rfl, hr9⟩ := RV_int hv7
 refine qa hE rfl rfl fun a hE => ?_
 refine knil (kret ?_)
 obtain rfl := oi h
 try dsimp only
 refine Fin.mk hE (rs := [.tmp 2]) rfl (ResL.tmp hE rfl ResL.nil) ?_
 exact ⟨_, hm6, hS, (RV_of_int hr9)⟩
theorem c_encode_reader_unpacked {W0 : Bse} {m : M} {w : World} {L : List (Nat × List Value)} {TL : List (Nat × Value)} {b0_ : Nat} {c0_ : List Value} (hS : S W0 m w ((b0_, c0_) :: L) (TL)) {p0 : Encode_reader} (ha0 : kEncode_reader.R m c0_ p0) {p1 : Int} (ha1 : inR .i64 p1) {p2 : Int} (ha2 : inR .i64 p2) {r : ((List Int) × Encode_reader)} (h : encode_reader_unpacked p0 p1 p2 = some r) :
    Calls Try.prog 92 [(.pointer (some ⟨b0_, 0, none⟩)), (.int .i64 p1), (.int .i64 p2)].toArray w (Ret fun v w' => ∃ m', M.le m m' ∧ ∃ q0_ : List Value, S W0 m' w' ((b0_, q0_) :: L) (TL) ∧ kEncode_reader.R m' q0_ r.2 ∧ RV (kSl (kInt .u64)) m' v r.1) := by
 refine kcall Try.func92 rfl Try.ntmps92 (Nat.le_of_ble_eq_true rfl) fun a hE => ?_
 have hE : Env 63 a [(0, (.pointer (some ⟨b0_, 0, none⟩))), (1, (.int .i64 p1)), (2, (.int .i64 p2))] := hE
 unfold encode_reader_unpacked at h
 refine kseq (kreg ?_)
 refine qa hE rfl rfl fun a hE => ?_
 refine knil (kseq (kseq (kreg ?_)))
 refine qm hE rfl rfl fun a hE => ?_
 refine sp hE (r_bin hE rfl rfl b_gtr) rfl fun a hE => ?_
 refine knil ?_
 refine kif hE rfl (fun hd4 => ?_) (fun hd4 => ?_)
 {
 have h := ite_T hd4 h
 refine kseq (kreg ?_)
 refine qm hE rfl rfl fun a hE => ?_
 refine sp hE (r_nilCheck hE rfl) rfl fun a hE => ?_
 refine sp hE (r_fieldL hE fo87_1 rfl) rfl fun a hE => ?_
 refine st0 hE (st_storeF hE hS ty4 sf87_1 rfl rfl RV_of_bool (i := 0) rfl ha0) ?_
 rintro _ w ⟨cs8, hc9, hS⟩ hE
 refine knil (kseq (kreg ?_))
 refine qm hE rfl rfl fun a hE => ?_
 obtain ⟨z12, hz13, h⟩ := ob h
 refine st hE (st_makeG (k := (kInt .u64)) (m := m) hE hS rfl rfl Try.underlying125 Try.type24 rfl rfl rfl (fun m => zr24 m) hz13 rfl rfl) rfl ?_
 rintro v17 a w ⟨b14, cs15, hc16, hS⟩ hE
 refine qa hE rfl rfl fun a hE => ?_
 refine knil ?_
 obtain ⟨m19, hm20, hS, hv21⟩ := S.freeze hS hc16
 refine kret ?_
 obtain rfl := oi h
 try dsimp only
 refine Fin.mk hE (rs := [.tmp 6]) rfl (ResL.tmp hE rfl ResL.nil) ?_
 exact ⟨_, hm20, cs8, hS, (kEncode_reader.mono hm20 hc9), hv21⟩
 }
 {
 have h := ite_F hd4 h
 refine kskip (kseq (kreg ?_))
 refine qm hE rfl rfl fun a hE => ?_
 refine qm hE rfl rfl fun a hE => ?_
 refine qm hE rfl rfl fun a hE => ?_
 refine sp hE (r_bin hE rfl rfl (b_mul rfl)) rfl fun a hE => ?_
 refine sp hE (r_bin hE rfl rfl (b_add rfl)) rfl fun a hE => ?_
 refine sp hE (r_bin hE rfl rfl (b_quo rfl (by decide))) rfl fun a hE => ?_
 obtain ⟨r28, hr29, h⟩ := ob h
 refine st hE (st_call (vs := [(.pointer (some ⟨b0_, 0, none⟩)), (.int .i64 (IntKind.i64.wrap ((IntKind.i64.wrap ((IntKind.i64.wrap (p1 * p2)) + 7)).tdiv 8)))]) hE rfl Try.call87 (c_encode_reader_take (hS := hS) ha0 (inR_wrap _ _) hr29)) rfl ?_
 rintro v35 a w ⟨m30, hm31, c0_32, hS, hc0_33, hv34⟩ hE
 refine qa hE rfl rfl fun a hE => ?_
 refine knil (kseq (kreg ?_))
 refine qm hE rfl rfl fun a hE => ?_
 obtain ⟨z38, hz39, h⟩ := ob h
 refine st hE (st_makeG (k := (kInt .u64)) (m := m30) hE hS rfl rfl Try.underlying125 Try.type24 rfl rfl rfl (fun m => zr24 m) hz39 rfl rfl) rfl ?_
 rintro v43 a w ⟨b40, cs41, hc42, hS⟩ hE
 refine qa hE rfl rfl fun a hE => ?_
 refine knil (kseq (kseq (kreg ?_)))
 refine qm hE rfl rfl fun a hE => ?_
 refine sp hE (r_lenG (k := (kInt .u64)) hE rfl rfl Try.underlying125 hc42) rfl fun a hE => ?_
 refine qm hE rfl rfl fun a hE => ?_
 refine knil ?_
 refine kcut (fun a w => ∃ x50 : (List Int), encode_reader_unpacked_j1 r28 x50 = some r ∧ ∃ m', M.le m30 m' ∧ ∃ (v51 : Value), RV (kSl (kInt .u64)) m' v51 x50 ∧ S W0 m' w ((b0_, c0_32) :: L) (TL) ∧ Env 63 a [(8, v51)]) ?_ ?_
 {
 refine kblock ?_
 refine kloop h (fun (s : (Int × (List Int))) a w => ∃ m', M.le m30 m' ∧ ∃ (cs61 : List Value), inR .i64 s.1 ∧ GS (kInt .u64) m' b40 cs61 v43 s.2 ∧ S W0 m' w ((b40, cs61) :: (b0_, c0_32) :: L) (TL) ∧ Env 63 a [(2, (.int .i64 p2)), (7, v35), (8, v43), (29, (.int .i64 (z38.length : Int))), (30, (.int .i64 s.1))]) ?_ ?_
 {
 exact ⟨_, (M.le.refl _), cs41, (show inR .i64 0 from inR_lit (by decide)), hc42, hS, hE.cut ⟨rfl, rfl, rfl, rfl, rfl, trivial⟩⟩
 }
 {
 rintro ⟨x58, x60⟩ a w ⟨m56, hm57, cs61, hr59, hc62, hS, hE⟩ r63 h hb64
 have h : encode_reader_unpacked_b1 p2 r28 z38 x58 x60 = some r63 := h
 unfold encode_reader_unpacked_b1 at h
 refine kseq (kreg ?_)
 refine sp hE (r_bin hE rfl rfl b_lss) rfl fun a hE => ?_
 refine knil (kseq ?_)
 refine kif hE rfl (fun hd66 => ?_) (fun hd66 => ?_)
 {
 have h := ite_T hd66 h
 refine kskip (kseq ?_)
 refine kcut (fun a w => ∃ x69 : (List Int), encode_reader_unpacked_j2 x58 x69 = some r63 ∧ ∃ m', M.le m56 m' ∧ ∃ (cs70 : List Value), GS (kInt .u64) m' b40 cs70 v43 x69 ∧ S W0 m' w ((b40, cs70) :: (b0_, c0_32) :: L) (TL) ∧ Env 63 a [(2, (.int .i64 p2)), (7, v35), (8, v43), (29, (.int .i64 (z38.length : Int))), (30, (.int .i64 x58))]) ?_ ?_
 {
 refine kblock (kseq (kreg ?_))
 refine qm hE rfl rfl fun a hE => ?_
 refine qa hE rfl rfl fun a hE => ?_
 refine knil (kseq (kreg ?_))
 refine qm hE rfl rfl fun a hE => ?_
 refine qm hE rfl rfl fun a hE => ?_
 refine knil (kblock ?_)
 refine kloop h (fun (s : (Int × (List Int))) a w => ∃ m', M.le m56 m' ∧ ∃ (cs84 : List Value), inR .i64 s.1 ∧ GS (kInt .u64) m' b40 cs84 v43 s.2 ∧ S W0 m' w ((b40, cs84) :: (b0_, c0_32) :: L) (TL) ∧ Env 63 a [(2, (.int .i64 p2)), (7, v35), (8, v43), (9, (.int .i64 x58)), (29, (.int .i64 (z38.length : Int))), (30, (.int .i64 x58)), (33, (.int .i64 p2)), (34, (.int .i64 s.1))]) ?_ ?_
 {
 exact ⟨_, (M.le.refl _), cs61, (show inR .i64 0 from inR_lit (by decide)), hc62, hS, hE.cut ⟨rfl, rfl, rfl, rfl, rfl, rfl, rfl, rfl, trivial⟩⟩
 }
 {
 rintro ⟨x81, x83⟩ a w ⟨m79, hm80, cs84, hr82, hc85, hS, hE⟩ r86 h hb87
 have h : encode_reader_unpacked_b2 p2 r28 x58 x81 x83 = some r86 := h
 unfold encode_reader_unpacked_b2 at h
 refine kseq (kreg ?_)
 refine sp hE (r_bin hE rfl rfl b_lss) rfl fun a hE => ?_
 refine knil (kseq ?_)
 refine kif hE rfl (fun hd89 => ?_) (fun hd89 => ?_)
 {
 have h := ite_T hd89 h
 refine kskip (kseq (kblock (kseq (kreg ?_))))
 refine qm hE rfl rfl fun a hE => ?_
 refine qa hE rfl rfl fun a hE => ?_
 refine knil (kseq (kreg ?_))
 refine qm hE rfl rfl fun a hE => ?_
 refine qm hE rfl rfl fun a hE => ?_
 refine sp hE (r_bin hE rfl rfl (b_mul rfl)) rfl fun a hE => ?_
 refine qm hE rfl rfl fun a hE => ?_
 refine sp hE (r_bin hE rfl rfl (b_add rfl)) rfl fun a hE => ?_
 refine qa hE rfl rfl fun a hE => ?_
 refine knil ?_
 obtain ⟨j98, hj99, h⟩ := ob h
 obtain ⟨x101, hx102, h⟩ := ob h
 obtain ⟨x104, hx105, h⟩ := ob h
 obtain ⟨u109, hu110, h⟩ := ob h
 obtain ⟨u111, hu112, h⟩ := ob h
 refine kchain (k := 16) (m := m79) (es := []) (Φ := (fun i m ws v => match i with | 0 => v = v43 | 1 => v = (.int .i64 x58) ∧ inR .i64 x58 | 2 => v = (.pointer (some ⟨b40, j98 * 1, none⟩)) | 3 => v = (.int .u64 x101) ∧ inR .u64 x101 | 4 => v = v35 | 5 => v = (.int .i64 (IntKind.i64.wrap ((IntKind.i64.wrap (x58 * p2)) + x81))) ∧ inR .i64 (IntKind.i64.wrap ((IntKind.i64.wrap (x58 * p2)) + x81)) | 6 => v = (.int .i64 (IntKind.i64.wrap ((IntKind.i64.wrap ((IntKind.i64.wrap (x58 * p2)) + x81)).tdiv 8))) ∧ inR .i64 (IntKind.i64.wrap ((IntKind.i64.wrap ((IntKind.i64.wrap (x58 * p2)) + x81)).tdiv 8)) | 7 => PR (kInt .u8) m v x104 | 8 => v = (.int .u8 x104) ∧ inR .u8 x104 | 9 => v = (.int .i64 (IntKind.i64.wrap ((IntKind.i64.wrap (x58 * p2)) + x81))) ∧ inR .i64 (IntKind.i64.wrap ((IntKind.i64.wrap (x58 * p2)) + x81)) | 10 => v = (.int .i64 ((IntKind.i64.wrap ((IntKind.i64.wrap (x58 * p2)) + x81)).tmod 8)) ∧ inR .i64 ((IntKind.i64.wrap ((IntKind.i64.wrap (x58 * p2)) + x81)).tmod 8) | 11 => v = (.int .u8 (iShr .u8 x104 ((IntKind.i64.wrap ((IntKind.i64.wrap (x58 * p2)) + x81)).tmod 8))) ∧ inR .u8 (iShr .u8 x104 ((IntKind.i64.wrap ((IntKind.i64.wrap (x58 * p2)) + x81)).tmod 8)) | 12 => v = (.int .u8 (bAnd .u8 (iShr .u8 x104 ((IntKind.i64.wrap ((IntKind.i64.wrap (x58 * p2)) + x81)).tmod 8)) 1)) ∧ inR .u8 (bAnd .u8 (iShr .u8 x104 ((IntKind.i64.wrap ((IntKind.i64.wrap (x58 * p2)) + x81)).tmod 8)) 1) | 13 => v = (.int .u64 (IntKind.u64.wrap (bAnd .u8 (iShr .u8 x104 ((IntKind.i64.wrap ((IntKind.i64.wrap (x58 * p2)) + x81)).tmod 8)) 1))) ∧ inR .u64 (IntKind.u64.wrap (bAnd .u8 (iShr .u8 x104 ((IntKind.i64.wrap ((IntKind.i64.wrap (x58 * p2)) + x81)).tmod 8)) 1)) | 14 => v = (.int .i64 x81) ∧ inR .i64 x81 | 15 => v = (.int .u64 (iShl .u64 (IntKind.u64.wrap (bAnd .u8 (iShr .u8 x104 ((IntKind.i64.wrap ((IntKind.i64.wrap (x58 * p2)) + x81)).tmod 8)) 1)) x81)) ∧ inR .u64 (iShl .u64 (IntKind.u64.wrap (bAnd .u8 (iShr .u8 x104 ((IntKind.i64.wrap ((IntKind.i64.wrap (x58 * p2)) + x81)).tmod 8)) 1)) x81) | _ => True)) (Q := (fun c m ws L' TL' => match c with | 0 => (b40, cs84) :: (b0_, c0_32) :: L = L' ∧ TL = TL' | _ => False)) (cs := [⟨0, 0, false, [(8, v43)]⟩, ⟨0, 0, false, [(9, (.int .i64 x58))]⟩, ⟨0, 0, false, []⟩, ⟨0, 0, false, []⟩, ⟨0, 0, false, [(7, v35)]⟩, ⟨0, 0, false, [(11, (.int .i64 (IntKind.i64.wrap ((IntKind.i64.wrap (x58 * p2)) + x81))))]⟩, ⟨0, 0, false, []⟩, ⟨0, 0, false, []⟩, ⟨0, 0, false, []⟩, ⟨0, 0, false, [(11, (.int .i64 (IntKind.i64.wrap ((IntKind.i64.wrap (x58 * p2)) + x81))))]⟩, ⟨0, 0, false, []⟩, ⟨0, 0, false, []⟩, ⟨0, 0, false, []⟩, ⟨0, 0, false, []⟩, ⟨0, 0, false, [(10, (.int .i64 x81))]⟩, ⟨0, 0, false, []⟩]) mixed hE hS ⟨rfl, rfl⟩ rfl rfl ⟨⟨rfl, trivial⟩, ⟨rfl, trivial⟩, trivial, trivial, ⟨rfl, trivial⟩, ⟨rfl, trivial⟩, trivial, trivial, trivial, ⟨rfl, trivial⟩, trivial, trivial, trivial, trivial, ⟨rfl, trivial⟩, trivial, trivial⟩ (by kernel_rfl) ?_ ?_ ?_ ?_
 {
 intro i m_ m2_ ws v hm_ hp_
 match i, hp_ with
 | 0, hp_ => exact hp_
 | 1, hp_ => exact hp_
 | 2, hp_ => exact hp_
 | 3, hp_ => exact hp_
 | 4, hp_ => exact hp_
 | 5, hp_ => exact hp_
 | 6, hp_ => exact hp_
 | 7, hp_ => exact PR.mono hp_ hm_
 | 8, hp_ => exact hp_
 | 9, hp_ => exact hp_
 | 10, hp_ => exact hp_
 | 11, hp_ => exact hp_
 | 12, hp_ => exact hp_
 | 13, hp_ => exact hp_
 | 14, hp_ => exact hp_
 | 15, hp_ => exact hp_
 | _ + 16, hp_ => exact trivial
 }
 {
 intro c m_ m2_ ws L_ T_ hm_ hq_
 match c, hq_ with
 | 0, ⟨e1_, e2_⟩ => exact ⟨e1_, e2_⟩
 | _ + 1, hq_ => exact hq_.elim
 }
 {
 refine ⟨?_, ?_, ?_, ?_, ?_, ?_, ?_, ?_, ?_, ?_, ?_, ?_, ?_, ?_, ?_, ?_, trivial⟩
 {
 refine cplain fun pre_ post_ L_ T_ m' a' w' hl' hp' hm' hq' hS' hE' hT' => ?_
 obtain rfl := len0 hl'
 refine Step.imp (Run1.pure (r_move hE' rfl)) ?_
 rintro _ _ ⟨rfl, rfl⟩
 exact ⟨_, M.le.refl _, hS', rfl⟩
 }
 {
 refine cplain fun pre_ post_ L_ T_ m' a' w' hl' hp' hm' hq' hS' hE' hT' => ?_
 obtain rfl := len0 hl'
 refine Step.imp (Run1.pure (r_move hE' rfl)) ?_
 rintro _ _ ⟨rfl, rfl⟩
 exact ⟨_, M.le.refl _, hS', ⟨rfl, hr59⟩⟩
 }
 {
 refine cplain fun pre_ post_ L_ T_ m' a' w' hl' hp' hm' hq' hS' hE' hT' => ?_
 obtain rfl := len0 hl'
 obtain rfl := len0 (lenz (a := 0) hp')
 obtain ⟨rfl, rfl⟩ := hq'
 obtain ⟨v115, e116, q117⟩ : ∃ v, a'.tmps.getD 42 undef = v ∧ (v = v43) := ⟨_, rfl, hT' 0 (by decide) 42 rfl⟩
 have hE := hE'.add (e116.trans q117)
 obtain ⟨v118, e119, q120⟩ : ∃ v, a'.tmps.getD 43 undef = v ∧ (v = (.int .i64 x58) ∧ inR .i64 x58) := ⟨_, rfl, hT' 1 (by decide) 43 rfl⟩
 obtain ⟨q120, hr121⟩ := q120
 have hE := hE.add (e119.trans q120)
 refine Step.imp (Run1.pure (r_indexG (k := (kInt .u64)) hE rfl rfl Try.underlying125 Try.sizeOf24 (hc85.mono hm') hj99 rfl)) ?_
 rintro _ _ ⟨rfl, rfl⟩
 exact ⟨_, M.le.refl _, hS', rfl⟩
 }
 {
 refine cplain fun pre_ post_ L_ T_ m' a' w' hl' hp' hm' hq' hS' hE' hT' => ?_
 obtain rfl := len0 hl'
 obtain rfl := len0 (lenz (a := 0) hp')
 obtain ⟨rfl, rfl⟩ := hq'
 obtain ⟨v123, e124, q125⟩ : ∃ v, a'.tmps.getD 44 undef = v ∧ (v = (.pointer (some ⟨b40, j98 * 1, none⟩))) := ⟨_, rfl, hT' 2 (by decide) 44 rfl⟩
 have hE := hE'.add (e124.trans q125)
 refine Step.imp (st_loadL hE hS' ty24 rfl (i := 0) rfl (GS.elem (hc85.mono hm') hx102)) ?_
 rintro v126 _ ⟨rfl, hv100⟩
 obtain ⟨rfl, hr127⟩ := RV_int hv100
 exact ⟨_, M.le.refl _, hS', ⟨rfl, hr127⟩⟩
 }
 {
 refine cplain fun pre_ post_ L_ T_ m' a' w' hl' hp' hm' hq' hS' hE' hT' => ?_
 obtain rfl := len0 hl'
 refine Step.imp (Run1.pure (r_move hE' rfl)) ?_
 rintro _ _ ⟨rfl, rfl⟩
 exact ⟨_, M.le.refl _, hS', rfl⟩
 }
 {
 refine cplain fun pre_ post_ L_ T_ m' a' w' hl' hp' hm' hq' hS' hE' hT' => ?_
 obtain rfl := len0 hl'
 refine Step.imp (Run1.pure (r_move hE' rfl)) ?_
 rintro _ _ ⟨rfl, rfl⟩
 exact ⟨_, M.le.refl _, hS', ⟨rfl, (inR_wrap _ _)⟩⟩
 }
 {
 refine cplain fun pre_ post_ L_ T_ m' a' w' hl' hp' hm' hq' hS' hE' hT' => ?_
 obtain rfl := len0 hl'
 obtain ⟨v130, e131, q132⟩ : ∃ v, a'.tmps.getD 47 undef = v ∧ (v = (.int .i64 (IntKind.i64.wrap ((IntKind.i64.wrap (x58 * p2)) + x81))) ∧ inR .i64 (IntKind.i64.wrap ((IntKind.i64.wrap (x58 * p2)) + x81))) := ⟨_, rfl, hT' 5 (by decide) 47 rfl⟩
 obtain ⟨q132, hr133⟩ := q132
 have hE := hE'.add (e131.trans q132)
 refine Step.imp (Run1.pure (r_bin hE rfl rfl (b_quo rfl (by decide)))) ?_
 rintro _ _ ⟨rfl, rfl⟩
 exact ⟨_, M.le.refl _, hS', ⟨rfl, (inR_wrap _ _)⟩⟩
 }
 {
 refine cplain fun pre_ post_ L_ T_ m' a' w' hl' hp' hm' hq' hS' hE' hT' => ?_
 obtain rfl := len0 hl'
 obtain ⟨v135, e136, q137⟩ : ∃ v, a'.tmps.getD 46 undef = v ∧ (v = v35) := ⟨_, rfl, hT' 4 (by decide) 46 rfl⟩
 have hE := hE'.add (e136.trans q137)
 obtain ⟨v138, e139, q140⟩ : ∃ v, a'.tmps.getD 48 undef = v ∧ (v = (.int .i64 (IntKind.i64.wrap ((IntKind.i64.wrap ((IntKind.i64.wrap (x58 * p2)) + x81)).tdiv 8))) ∧ inR .i64 (IntKind.i64.wrap ((IntKind.i64.wrap ((IntKind.i64.wrap (x58 * p2)) + x81)).tdiv 8))) := ⟨_, rfl, hT' 6 (by decide) 48 rfl⟩
 obtain ⟨q140, hr141⟩ := q140
 have hE := hE.add (e139.trans q140)
 refine Step.imp (st_index (k := (kInt .u8)) hE rfl rfl Try.underlying37 Try.sizeOf5 (hv34.mono (M.le.trans hm57 (M.le.trans hm80 hm'))) hx105) ?_
 rintro v142 _ ⟨rfl, hp106⟩
 exact ⟨_, M.le.refl _, hS', hp106⟩
 }
 {
 refine cplain fun pre_ post_ L_ T_ m' a' w' hl' hp' hm' hq' hS' hE' hT' => ?_
 obtain rfl := len0 hl'
 obtain ⟨v143, e144, q145⟩ : ∃ v, a'.tmps.getD 49 undef = v ∧ (PR (kInt .u8) m' v x104) := ⟨_, rfl, hT' 7 (by decide) 49 rfl⟩
 have hE := hE'.add (e144)
 refine Step.imp (st_loadM hE hS' ty5 rfl q145) ?_
 rintro v146 _ ⟨rfl, hv107⟩
 obtain ⟨rfl, hr147⟩ := RV_int hv107
 exact ⟨_, M.le.refl _, hS', ⟨rfl, hr147⟩⟩
 }
 {
 refine cplain fun pre_ post_ L_ T_ m' a' w' hl' hp' hm' hq' hS' hE' hT' => ?_
 obtain rfl := len0 hl'
 refine Step.imp (Run1.pure (r_move hE' rfl)) ?_
 rintro _ _ ⟨rfl, rfl⟩
 exact ⟨_, M.le.refl _, hS', ⟨rfl, (inR_wrap _ _)⟩⟩
 }
 {
 refine cplain fun pre_ post_ L_ T_ m' a' w' hl' hp' hm' hq' hS' hE' hT' => ?_
 obtain rfl := len0 hl'
 obtain ⟨v149, e150, q151⟩ : ∃ v, a'.tmps.getD 51 undef = v ∧ (v = (.int .i64 (IntKind.i64.wrap ((IntKind.i64.wrap (x58 * p2)) + x81))) ∧ inR .i64 (IntKind.i64.wrap ((IntKind.i64.wrap (x58 * p2)) + x81))) := ⟨_, rfl, hT' 9 (by decide) 51 rfl⟩
 obtain ⟨q151, hr152⟩ := q151
 have hE := hE'.add (e150.trans q151)
 refine Step.imp (Run1.pure (r_bin hE rfl rfl (b_rem rfl (by decide)))) ?_
 rintro _ _ ⟨rfl, rfl⟩
 exact ⟨_, M.le.refl _, hS', ⟨rfl, (inR_mod hr152)⟩⟩
 }
 {
 refine cplain fun pre_ post_ L_ T_ m' a' w' hl' hp' hm' hq' hS' hE' hT' => ?_
 obtain rfl := len0 hl'
 obtain ⟨v154, e155, q156⟩ : ∃ v, a'.tmps.getD 50 undef = v ∧ (v = (.int .u8 x104) ∧ inR .u8 x104) := ⟨_, rfl, hT' 8 (by decide) 50 rfl⟩
 obtain ⟨q156, hr157⟩ := q156
 have hE := hE'.add (e155.trans q156)
 obtain ⟨v158, e159, q160⟩ : ∃ v, a'.tmps.getD 52 undef = v ∧ (v = (.int .i64 ((IntKind.i64.wrap ((IntKind.i64.wrap (x58 * p2)) + x81)).tmod 8)) ∧ inR .i64 ((IntKind.i64.wrap ((IntKind.i64.wrap (x58 * p2)) + x81)).tmod 8)) := ⟨_, rfl, hT' 10 (by decide) 52 rfl⟩
 obtain ⟨q160, hr161⟩ := q160
 have hE := hE.add (e159.trans q160)
 refine Step.imp (Run1.pure (r_bin hE rfl rfl (b_shr rfl (of_decide_eq_true (chk_some hu110))))) ?_
 rintro _ _ ⟨rfl, rfl⟩
 exact ⟨_, M.le.refl _, hS', ⟨rfl, (inR_shr hr157 _)⟩⟩
 }
 {
 refine cplain fun pre_ post_ L_ T_ m' a' w' hl' hp' hm' hq' hS' hE' hT' => ?_
 obtain rfl := len0 hl'
 obtain ⟨v163, e164, q165⟩ : ∃ v, a'.tmps.getD 53 undef = v ∧ (v = (.int .u8 (iShr .u8 x104 ((IntKind.i64.wrap ((IntKind.i64.wrap (x58 * p2)) + x81)).tmod 8))) ∧ inR .u8 (iShr .u8 x104 ((IntKind.i64.wrap ((IntKind.i64.wrap (x58 * p2)) + x81)).tmod 8))) := ⟨_, rfl, hT' 11 (by decide) 53 rfl⟩
 obtain ⟨q165, hr166⟩ := q165
 have hE := hE'.add (e164.trans q165)
 refine Step.imp (Run1.pure (r_bin hE rfl rfl (b_and rfl))) ?_
 rintro _ _ ⟨rfl, rfl⟩
 exact ⟨_, M.le.refl _, hS', ⟨rfl, (inR_and _ _ _)⟩⟩
 }
 {
 refine cplain fun pre_ post_ L_ T_ m' a' w' hl' hp' hm' hq' hS' hE' hT' => ?_
 obtain rfl := len0 hl'
 obtain ⟨v168, e169, q170⟩ : ∃ v, a'.tmps.getD 54 undef = v ∧ (v = (.int .u8 (bAnd .u8 (iShr .u8 x104 ((IntKind.i64.wrap ((IntKind.i64.wrap (x58 * p2)) + x81)).tmod 8)) 1)) ∧ inR .u8 (bAnd .u8 (iShr .u8 x104 ((IntKind.i64.wrap ((IntKind.i64.wrap (x58 * p2)) + x81)).tmod 8)) 1)) := ⟨_, rfl, hT' 12 (by decide) 54 rfl⟩
 obtain ⟨q170, hr171⟩ := q170
 have hE := hE'.add (e169.trans q170)
 refine Step.imp (Run1.pure (r_conv hE rfl Try.underlying5 Try.underlying24 rfl)) ?_
 rintro _ _ ⟨rfl, rfl⟩
 exact ⟨_, M.le.refl _, hS', ⟨rfl, (inR_wrap _ _)⟩⟩
 }
 {
 refine cplain fun pre_ post_ L_ T_ m' a' w' hl' hp' hm' hq' hS' hE' hT' => ?_
 obtain rfl := len0 hl'
 refine Step.imp (Run1.pure (r_move hE' rfl)) ?_
 rintro _ _ ⟨rfl, rfl⟩
 exact ⟨_, M.le.refl _, hS', ⟨rfl, hr82⟩⟩
 }
 {
 refine cplain fun pre_ post_ L_ T_ m' a' w' hl' hp' hm' hq' hS' hE' hT' => ?_
 obtain rfl := len0 hl'
 obtain ⟨v174, e175, q176⟩ : ∃ v, a'.tmps.getD 55 undef = v ∧ (v = (.int .u64 (IntKind.u64.wrap (bAnd .u8 (iShr .u8 x104 ((IntKind.i64.wrap ((IntKind.i64.wrap (x58 * p2)) + x81)).tmod 8)) 1))) ∧ inR .u64 (IntKind.u64.wrap (bAnd .u8 (iShr .u8 x104 ((IntKind.i64.wrap ((IntKind.i64.wrap (x58 * p2)) + x81)).tmod 8)) 1))) := ⟨_, rfl, hT' 13 (by decide) 55 rfl⟩
 obtain ⟨q176, hr177⟩ := q176
 have hE := hE'.add (e175.trans q176)
 obtain ⟨v178, e179, q180⟩ : ∃ v, a'.tmps.getD 56 undef = v ∧ (v = (.int .i64 x81) ∧ inR .i64 x81) := ⟨_, rfl, hT' 14 (by decide) 56 rfl⟩
 obtain ⟨q180, hr181⟩ := q180
 have hE := hE.add (e179.trans q180)
 refine Step.imp (Run1.pure (r_bin hE rfl rfl (b_shl rfl (of_decide_eq_true (chk_some hu112))))) ?_
 rintro _ _ ⟨rfl, rfl⟩
 exact ⟨_, M.le.refl _, hS', ⟨rfl, (inR_shl _ _ _)⟩⟩
 }
 }
 {
 intro ws_ L_ T_ m183 a w hl184 hm185 hq186 hS hd187 hn188 ho189 hT190
 obtain rfl := len0 hl184
 obtain ⟨rfl, rfl⟩ := hq186
 have hE := EnvD.of (k := 16) (l' := [(2, (.int .i64 p2)), (7, v35), (8, v43), (9, (.int .i64 x58)), (10, (.int .i64 x81)), (11, (.int .i64 (IntKind.i64.wrap ((IntKind.i64.wrap (x58 * p2)) + x81)))), (29, (.int .i64 (z38.length : Int))), (30, (.int .i64 x58)), (33, (.int .i64 p2)), (34, (.int .i64 x81)), (35, (.bool (decide (x81 < p2)))), (36, (.int .i64 x81)), (37, (.int .i64 x58)), (38, (.int .i64 p2)), (39, (.int .i64 (IntKind.i64.wrap (x58 * p2)))), (40, (.int .i64 x81)), (41, (.int .i64 (IntKind.i64.wrap ((IntKind.i64.wrap (x58 * p2)) + x81))))]) hd187 hn188 ho189 ⟨rfl, rfl, rfl, rfl, rfl, rfl, rfl, rfl, rfl, rfl, rfl, rfl, rfl, rfl, rfl, rfl, rfl, trivial⟩ rfl
 obtain ⟨v191, e192, q193⟩ : ∃ v, a.tmps.getD 42 undef = v ∧ (v = v43) := ⟨_, rfl, hT190 0 (by decide) 42 rfl⟩
 have hE := hE.add (e192.trans q193)
 obtain ⟨v194, e195, q196⟩ : ∃ v, a.tmps.getD 43 undef = v ∧ (v = (.int .i64 x58) ∧ inR .i64 x58) := ⟨_, rfl, hT190 1 (by decide) 43 rfl⟩
 obtain ⟨q196, hr197⟩ := q196
 have hE := hE.add (e195.trans q196)
 obtain ⟨v198, e199, q200⟩ : ∃ v, a.tmps.getD 45 undef = v ∧ (v = (.int .u64 x101) ∧ inR .u64 x101) := ⟨_, rfl, hT190 3 (by decide) 45 rfl⟩
 obtain ⟨q200, hr201⟩ := q200
 have hE := hE.add (e199.trans q200)
 obtain ⟨v202, e203, q204⟩ : ∃ v, a.tmps.getD 57 undef = v ∧ (v = (.int .u64 (iShl .u64 (IntKind.u64.wrap (bAnd .u8 (iShr .u8 x104 ((IntKind.i64.wrap ((IntKind.i64.wrap (x58 * p2)) + x81)).tmod 8)) 1)) x81)) ∧ inR .u64 (iShl .u64 (IntKind.u64.wrap (bAnd .u8 (iShr .u8 x104 ((IntKind.i64.wrap ((IntKind.i64.wrap (x58 * p2)) + x81)).tmod 8)) 1)) x81)) := ⟨_, rfl, hT190 15 (by decide) 57 rfl⟩
 obtain ⟨q204, hr205⟩ := q204
 have hE := hE.add (e203.trans q204)
 refine sp hE (r_bin hE rfl rfl (b_or rfl)) rfl fun a hE => ?_
 obtain ⟨j207, hj208, h⟩ := ob h
 refine sp hE (r_indexG (k := (kInt .u64)) hE rfl rfl Try.underlying125 Try.sizeOf24 (hc85.mono hm185) hj208 rfl) rfl fun a hE => ?_
 obtain ⟨x212, hx213, h⟩ := ob h
 refine st0 hE (st_storeG (k := (kInt .u64)) hE hS ty24 StF_self (hc85.mono hm185) hx213 rfl rfl (RV_of_int (inR_or _ _ _)) (i := 0) rfl) ?_
 rintro _ w ⟨cs210, hc211, hS⟩ hE
 refine knil (kreg ?_)
 refine sp hE (r_bin hE rfl rfl (b_add rfl)) rfl fun a hE => ?_
 refine qm hE rfl rfl fun a hE => ?_
 refine knil ?_
 exact ⟨(IntKind.i64.wrap (x81 + 1), (x83.set j207 (bOr .u64 x101 (iShl .u64 (IntKind.u64.wrap (bAnd .u8 (iShr .u8 x104 ((IntKind.i64.wrap ((IntKind.i64.wrap (x58 * p2)) + x81)).tmod 8)) 1)) x81)))), (Option.some.inj h).symm, _, (M.le.trans hm80 hm185), cs210, (inR_wrap _ _), hc211, hS, hE.cut ⟨rfl, rfl, rfl, rfl, rfl, rfl, rfl, rfl, trivial⟩⟩
 }
 }
 {
 have h := ite_F hd89 h
 refine kexit rfl rfl ?_
 have h := unwrap h hb87
 exact ⟨x83, h, _, hm80, cs84, hc85, hS, hE.cut ⟨rfl, rfl, rfl, rfl, rfl, trivial⟩⟩
 }
 }
 }
 {
 rintro a w ⟨x69, h, m67, hm68, cs70, hc71, hS, hE⟩
 unfold encode_reader_unpacked_j2 at h
 refine kreg ?_
 refine sp hE (r_bin hE rfl rfl (b_add rfl)) rfl fun a hE => ?_
 refine qm hE rfl rfl fun a hE => ?_
 refine knil ?_
 exact ⟨(IntKind.i64.wrap (x58 + 1), x69), (Option.some.inj h).symm, _, (M.le.trans hm57 hm68), cs70, (inR_wrap _ _), hc71, hS, hE.cut ⟨rfl, rfl, rfl, rfl, rfl, trivial⟩⟩
 }
 }
 {
 have h := ite_F hd66 h
 obtain ⟨m217, hm218, hS, hv219⟩ := S.freeze hS hc62
 refine kexit rfl rfl ?_
 have h := unwrap h hb64
 exact ⟨x60, h, _, (M.le.trans hm57 hm218), v43, hv219, hS, hE.cut ⟨rfl, trivial⟩⟩
 }
 }
 }
 {
 rintro a w ⟨x50, h, m48, hm49, v51, hv52, hS, hE⟩
 unfold encode_reader_unpacked_j1 at h
 refine kseq (kreg ?_)
 refine qm hE rfl rfl fun a hE => ?_
 refine qa hE rfl rfl fun a hE => ?_
 refine knil (kret ?_)
 obtain rfl := oi h
 try dsimp only
 refine Fin.mk hE (rs := [.tmp 6]) rfl (ResL.tmp hE rfl ResL.nil) ?_
 exact ⟨_, (M.le.trans hm31 hm49), c0_32, hS, (kEncode_reader.mono hm49 hc0_33), hv52⟩
 }
 }
theorem c_encode_reader_guess {W0 : Bse} {m : M} {w : World} {L : List (Nat × List Value)} {TL : List (Nat × Value)} {b0_ : Nat} {c0_ : List Value} (hS : S W0 m w ((b0_, c0_) :: L) (TL)) {p0 : Encode_reader} (ha0 : kEncode_reader.R m c0_ p0) {p1 : Int} (ha1 : inR .i64 p1) {p2 : Int} (ha2 : inR .i64 p2) {r : ((List AV) × Encode_reader)} (h : encode_reader_guess p0 p1 p2 = some r) :
    Calls Try.prog 45 [(.pointer (some ⟨b0_, 0, none⟩)), (.int .i64 p1), (.int .i64 p2)].toArray w (Ret fun v w' => ∃ m', M.le m m' ∧ ∃ q0_ : List Value, S W0 m' w' ((b0_, q0_) :: L) ((4, v) :: TL) ∧ kEncode_reader.R m' q0_ r.2 ∧ RV (kSl kAV) m' v r.1) := by
 refine kcall Try.func45 rfl Try.ntmps45 (Nat.le_of_ble_eq_true rfl) fun a hE => ?_
 have hE : Env 167 a [(0, (.pointer (some ⟨b0_, 0, none⟩))), (1, (.int .i64 p1)), (2, (.int .i64 p2))] := hE
 unfold encode_reader_guess at h
 refine kseq (kreg ?_)
 refine qa hE rfl rfl fun a hE => ?_
 refine knil (kseq (kreg ?_))
 refine qa hE rfl rfl fun a hE => ?_
 refine knil (kseq (kseq (kreg ?_)))
 refine qm hE rfl rfl fun a hE => ?_
 refine knil ?_
 refine kcut (fun a w => ∃ x6 : (List AV), ∃ x9 : Encode_reader, encode_reader_guess_j1 x6 x9 = some r ∧ ∃ m', M.le m m' ∧ ∃ (v7 : Value), ∃ (cs10 : List Value), RV (kSl kAV) m' v7 x6 ∧ kEncode_reader.R m' cs10 x9 ∧ S W0 m' w ((b0_, cs10) :: L) ((4, v7) :: TL) ∧ Env 167 a [(7, v7)]) ?_ ?_
 {
 refine kblock (kseq (kreg ?_))
 refine sp hE (r_bin hE rfl rfl b_eql) rfl fun a hE => ?_
 refine qa hE rfl rfl fun a hE => ?_
 refine knil ?_
 refine kif hE rfl (fun hd17 => ?_) (fun hd17 => ?_)
 {
 have h := ite_T hd17 h
 refine kblock ?_
 refine kloop h (fun (s : ((List AV) × Encode_reader)) a w => ∃ m', M.le m m' ∧ ∃ (v21 : Value), ∃ (cs24 : List Value), RV (kSl kAV) m' v21 s.1 ∧ kEncode_reader.R m' cs24 s.2 ∧ S W0 m' w ((b0_, cs24) :: L) ((4, v21) :: TL) ∧ Env 167 a [(0, (.pointer (some ⟨b0_, 0, none⟩))), (2, (.int .i64 p2)), (7, v21)]) ?_ ?_
 {
 exact ⟨_, (M.le.refl _), (.slice none 0 0), c0_, RV_nil, ha0, (hS.tail0 4), hE.cut ⟨rfl, rfl, rfl, trivial⟩⟩
 }
 {
 rintro ⟨x20, x23⟩ a w ⟨m18, hm19, v21, cs24, hv22, hc25, hS, hE⟩ r26 h hb27
 have h : encode_reader_guess_b1 p2 x20 x23 = some r26 := h
 unfold encode_reader_guess_b1 at h
 refine kseq (kseq ?_)
 refine kcut (fun a w => ∃ x30 : Bool, encode_reader_guess_j2 x20 x23 x30 = some r26 ∧ ∃ m', M.le m18 m' ∧ S W0 m' w ((b0_, cs24) :: L) ((4, v21) :: TL) ∧ Env 167 a [(0, (.pointer (some ⟨b0_, 0, none⟩))), (2, (.int .i64 p2)), (7, v21), (53, (.bool x30))]) ?_ ?_
 {
 refine kreg ?_
 refine qm hE rfl rfl fun a hE => ?_
 refine sp hE (r_lenSl (k := kAV) hE rfl rfl Try.underlying29 hv22) rfl fun a hE => ?_
 refine qm hE rfl rfl fun a hE => ?_
 refine sp hE (r_bin hE rfl rfl b_lss) rfl fun a hE => ?_
 refine qm hE rfl rfl fun a hE => ?_
 rcases Bool.eq_false_or_eq_true (decide ((x20.length : Int) < p2)) with hd59 | hd59
 {
 have h := ite_T hd59 h
 refine spg hE rfl rfl rfl rfl hd59 (r_move hE rfl) rfl fun a hE => ?_
 refine spg hE rfl rfl rfl rfl hd59 (r_nilCheck hE rfl) rfl fun a hE => ?_
 refine spg hE rfl rfl rfl rfl hd59 (r_fieldL hE fo87_1 rfl) rfl fun a hE => ?_
 refine stg hE rfl rfl rfl rfl hd59 (st_loadL hE hS ty4 rfl (i := 0) rfl (fl87_1.R_drop (R_whole hc25))) rfl ?_
 rintro v64 a _ ⟨rfl, hv63⟩ hE
 obtain rfl := RV_bool hv63
 refine sp hE (r_pickT hE rfl hd59 rfl) rfl fun a hE => ?_
 refine knil ?_
 exact ⟨x23.fOk, h, _, (M.le.refl _), hS, hE.cut ⟨rfl, rfl, rfl, rfl, trivial⟩⟩
 }
 {
 have h := ite_F hd59 h
 refine sx hE rfl rfl rfl rfl hd59 rfl fun a hE => ?_
 refine sx hE rfl rfl rfl rfl hd59 rfl fun a hE => ?_
 refine sx hE rfl rfl rfl rfl hd59 rfl fun a hE => ?_
 refine sx hE rfl rfl rfl rfl hd59 rfl fun a hE => ?_
 refine sp hE (r_pickF hE rfl hd59 rfl) rfl fun a hE => ?_
 refine knil ?_
 exact ⟨false, h, _, (M.le.refl _), hS, hE.cut ⟨rfl, rfl, rfl, rfl, trivial⟩⟩
 }
 }
 {
 rintro a w ⟨x30, h, m28, hm29, hS, hE⟩
 unfold encode_reader_guess_j2 at h
 refine kif hE rfl (fun hd32 => ?_) (fun hd32 => ?_)
 {
 have h := ite_T hd32 h
 refine kskip (kblock (kreg ?_))
 refine qm hE rfl rfl fun a hE => ?_
 refine qm hE rfl rfl fun a hE => ?_
 obtain ⟨r35, hr36, h⟩ := ob h
 refine st hE (st_call (vs := [(.pointer (some ⟨b0_, 0, none⟩))]) hE rfl Try.call86 (c_encode_reader_value (hS := hS) (kEncode_reader.mono hm29 hc25) hr36)) rfl ?_
 rintro v42 a w ⟨m37, hm38, c0_39, hS, hc0_40, hv41⟩ hE
 refine st hE (st_lit (k := kAV) (xs := [r35.1]) (vs := [v42]) hE hS rfl Try.underlying29 Try.sizeOf53 Try.zeroValue53 ⟨hv41, trivial⟩ rfl (by decide)) rfl ?_
 rintro v46 a w ⟨m44, hm45, hS, hv43⟩ hE
 obtain ⟨z47, hz48, h⟩ := ob h
 refine st hE (st_app (k := kAV) (N := 3518437208883) hE hS rfl rfl Try.underlying29 Try.underlying29 el53 (i := 1) rfl (hv22.mono (M.le.trans hm29 (M.le.trans hm38 hm45))) hv43 hz48 rfl rfl) rfl ?_
 rintro v52 a w ⟨m50, hm51, hS, hv49⟩ hE
 refine qa hE rfl rfl fun a hE => ?_
 refine knil ?_
 exact ⟨(z47, r35.2), (Option.some.inj h).symm, _, (M.le.trans hm19 (M.le.trans hm29 (M.le.trans hm38 (M.le.trans hm45 hm51)))), v52, c0_39, hv49, (kEncode_reader.mono (M.le.trans hm45 hm51) hc0_40), (hS.pickT 2 [1] rfl rfl rfl), hE.cut ⟨rfl, rfl, rfl, trivial⟩⟩
 }
 {
 have h := ite_F hd32 h
 refine kexit rfl rfl ?_
 have h := unwrap h hb27
 exact ⟨x20, x23, h, _, (M.le.trans hm19 hm29), v21, cs24, (hv22.mono hm29), (kEncode_reader.mono hm29 hc25), hS, hE.cut ⟨rfl, trivial⟩⟩
 }
 }
 }
 }
 {
 have h := ite_F hd17 h
 refine kseq (kreg ?_)
 refine sp hE (r_bin hE rfl rfl b_eql) rfl fun a hE => ?_
 refine qa hE rfl rfl fun a hE => ?_
 refine knil ?_
 refine kif hE rfl (fun hd69 => ?_) (fun hd69 => ?_)
 {
 have h := ite_T hd69 h
 refine kblock ?_
 refine kloop h (fun (s : ((List AV) × Encode_reader)) a w => ∃ m', M.le m m' ∧ ∃ (v73 : Value), ∃ (cs76 : List Value), RV (kSl kAV) m' v73 s.1 ∧ kEncode_reader.R m' cs76 s.2 ∧ S W0 m' w ((b0_, cs76) :: L) ((4, v73) :: TL) ∧ Env 167 a [(0, (.pointer (some ⟨b0_, 0, none⟩))), (2, (.int .i64 p2)), (7, v73)]) ?_ ?_
 {
 exact ⟨_, (M.le.refl _), (.slice none 0 0), c0_, RV_nil, ha0, (hS.tail0 4), hE.cut ⟨rfl, rfl, rfl, trivial⟩⟩
 }
 {
 rintro ⟨x72, x75⟩ a w ⟨m70, hm71, v73, cs76, hv74, hc77, hS, hE⟩ r78 h hb79
 have h : encode_reader_guess_b2 p2 x72 x75 = some r78 := h
 unfold encode_reader_guess_b2 at h
 refine kseq (kseq ?_)
 refine kcut (fun a w => ∃ x82 : Bool, encode_reader_guess_j3 p2 x72 x75 x82 = some r78 ∧ ∃ m', M.le m70 m' ∧ S W0 m' w ((b0_, cs76) :: L) ((4, v73) :: TL) ∧ Env 167 a [(0, (.pointer (some ⟨b0_, 0, none⟩))), (2, (.int .i64 p2)), (7, v73), (70, (.bool x82))]) ?_ ?_
 {
 refine kreg ?_
 refine qm hE rfl rfl fun a hE => ?_
 refine sp hE (r_lenSl (k := kAV) hE rfl rfl Try.underlying29 hv74) rfl fun a hE => ?_
 refine qm hE rfl rfl fun a hE => ?_
 refine sp hE (r_bin hE rfl rfl b_lss) rfl fun a hE => ?_
 refine qm hE rfl rfl fun a hE => ?_
 rcases Bool.eq_false_or_eq_true (decide ((x72.length : Int) < p2)) with hd141 | hd141
 {
 have h := ite_T hd141 h
 refine spg hE rfl rfl rfl rfl hd141 (r_move hE rfl) rfl fun a hE => ?_
 refine spg hE rfl rfl rfl rfl hd141 (r_nilCheck hE rfl) rfl fun a hE => ?_
 refine spg hE rfl rfl rfl rfl hd141 (r_fieldL hE fo87_1 rfl) rfl fun a hE => ?_
 refine stg hE rfl rfl rfl rfl hd141 (st_loadL hE hS ty4 rfl (i := 0) rfl (fl87_1.R_drop (R_whole hc77))) rfl ?_
 rintro v146 a _ ⟨rfl, hv145⟩ hE
 obtain rfl := RV_bool hv145
 refine sp hE (r_pickT hE rfl hd141 rfl) rfl fun a hE => ?_
 refine knil ?_
 exact ⟨x75.fOk, h, _, (M.le.refl _), hS, hE.cut ⟨rfl, rfl, rfl, rfl, trivial⟩⟩
 }
 {
 have h := ite_F hd141 h
 refine sx hE rfl rfl rfl rfl hd141 rfl fun a hE => ?_
 refine sx hE rfl rfl rfl rfl hd141 rfl fun a hE => ?_
 refine sx hE rfl rfl rfl rfl hd141 rfl fun a hE => ?_
 refine sx hE rfl rfl rfl rfl hd141 rfl fun a hE => ?_
 refine sp hE (r_pickF hE rfl hd141 rfl) rfl fun a hE => ?_
 refine knil ?_
 exact ⟨false, h, _, (M.le.refl _), hS, hE.cut ⟨rfl, rfl, rfl, rfl, trivial⟩⟩
 }
 }
 {
 rintro a w ⟨x82, h, m80, hm81, hS, hE⟩
 unfold encode_reader_guess_j3 at h
 refine kif hE rfl (fun hd84 => ?_) (fun hd84 => ?_)
 {
 have h := ite_T hd84 h
 refine kskip (kblock (kseq (kreg ?_)))
 refine qm hE rfl rfl fun a hE => ?_
 obtain ⟨r86, hr87, h⟩ := ob h
 refine st hE (st_call (vs := [(.pointer (some ⟨b0_, 0, none⟩)), (.int .i64 1)]) hE rfl Try.call87 (c_encode_reader_take (hS := hS) (kEncode_reader.mono hm81 hc77) (show inR .i64 1 from inR_lit (by decide)) hr87)) rfl ?_
 rintro v93 a w ⟨m88, hm89, c0_90, hS, hc0_91, hv92⟩ hE
 obtain ⟨x94, hx95, h⟩ := ob h
 refine st hE (st_index (k := (kInt .u8)) hE rfl rfl Try.underlying37 Try.sizeOf5 hv92 hx95) rfl ?_
 rintro v97 a _ ⟨rfl, hp96⟩ hE
 refine st hE (st_loadM hE hS ty5 rfl hp96) rfl ?_
 rintro v99 a _ ⟨rfl, hv98⟩ hE
 obtain ⟨rfl, hr100⟩ := RV_int hv98
 refine sp hE (r_conv hE rfl Try.underlying5 Try.underlying3 rfl) rfl fun a hE => ?_
 refine qm hE rfl rfl fun a hE => ?_
 refine qm hE rfl rfl fun a hE => ?_
 refine sp hE (r_lenSl (k := kAV) hE rfl rfl Try.underlying29 (hv74.mono (M.le.trans hm81 hm89))) rfl fun a hE => ?_
 refine sp hE (r_bin hE rfl rfl (b_sub rfl)) rfl fun a hE => ?_
 refine sp hE (r_min2 hE rfl rfl) rfl fun a hE => ?_
 refine qa hE rfl rfl fun a hE => ?_
 refine knil (kreg ?_)
 refine qm hE rfl rfl fun a hE => ?_
 refine qm hE rfl rfl fun a hE => ?_
 obtain ⟨r110, hr111, h⟩ := ob h
 refine st hE (st_call (vs := [(.pointer (some ⟨b0_, 0, none⟩))]) hE rfl Try.call86 (c_encode_reader_value (hS := hS) hc0_91 hr111)) rfl ?_
 rintro v117 a w ⟨m112, hm113, c0_114, hS, hc0_115, hv116⟩ hE
 refine st hE (st_lit (k := kAV) (xs := [r110.1]) (vs := [v117]) hE hS rfl Try.underlying29 Try.sizeOf53 Try.zeroValue53 ⟨hv116, trivial⟩ rfl (by decide)) rfl ?_
 rintro v121 a w ⟨m119, hm120, hS, hv118⟩ hE
 refine qm hE rfl rfl fun a hE => ?_
 obtain ⟨r123, hr124, h⟩ := ob h
 refine st hE (st_call (vs := [v121, (.int .i64 (if (IntKind.i64.wrap (p2 - (x72.length : Int))) < (IntKind.i64.wrap x94) then IntKind.i64.wrap (p2 - (x72.length : Int)) else IntKind.i64.wrap x94))]) hE rfl Try.call88 (c_slices_Repeat_Value (hS := hS) hv118 (inR_min (inR_wrap _ _) (inR_wrap _ _)) hr124)) rfl ?_
 rintro v128 a w ⟨m125, hm126, hS, hv127⟩ hE
 obtain ⟨z129, hz130, h⟩ := ob h
 refine st hE (st_app (k := kAV) (N := 3518437208883) hE hS rfl rfl Try.underlying29 Try.underlying29 el53 (i := 1) rfl (hv74.mono (M.le.trans hm81 (M.le.trans hm89 (M.le.trans hm113 (M.le.trans hm120 hm126))))) hv127 hz130 rfl rfl) rfl ?_
 rintro v134 a w ⟨m132, hm133, hS, hv131⟩ hE
 refine qa hE rfl rfl fun a hE => ?_
 refine knil ?_
 exact ⟨(z129, r110.2), (Option.some.inj h).symm, _, (M.le.trans hm71 (M.le.trans hm81 (M.le.trans hm89 (M.le.trans hm113 (M.le.trans hm120 (M.le.trans hm126 hm133)))))), v134, c0_114, hv131, (kEncode_reader.mono (M.le.trans hm120 (M.le.trans hm126 hm133)) hc0_115), (hS.pickT 2 [1] rfl rfl rfl), hE.cut ⟨rfl, rfl, rfl, trivial⟩⟩
 }
 {
 have h := ite_F hd84 h
 refine kexit rfl rfl ?_
 have h := unwrap h hb79
 exact ⟨x72, x75, h, _, (M.le.trans hm71 hm81), v73, cs76, (hv74.mono hm81), (kEncode_reader.mono hm81 hc77), hS, hE.cut ⟨rfl, trivial⟩⟩
 }
 }
 }
 }
 {
 have h := ite_F hd69 h
 refine kseq (kreg ?_)
 refine sp hE (r_bin hE rfl rfl b_eql) rfl fun a hE => ?_
 refine qa hE rfl rfl fun a hE => ?_
 refine knil ?_
 refine kif hE rfl (fun hd151 => ?_) (fun hd151 => ?_)
 {
 have h := ite_T hd151 h
 refine kseq (kreg ?_)
 refine qm hE rfl rfl fun a hE => ?_
 obtain ⟨r153, hr154, h⟩ := ob h
 refine st hE (st_call (vs := [(.pointer (some ⟨b0_, 0, none⟩))]) hE rfl Try.call89 (c_encode_reader_number (hS := hS) ha0 hr154)) rfl ?_
 rintro v160 a w ⟨m155, hm156, c0_157, hS, hc0_158, hv159⟩ hE
 obtain ⟨rfl, hr161⟩ := RV_int hv159
 refine sp hE (r_conv hE rfl Try.underlying24 Try.underlying2 rfl) rfl fun a hE => ?_
 refine qa hE rfl rfl fun a hE => ?_
 refine knil (kseq (kreg ?_))
 refine qm hE rfl rfl fun a hE => ?_
 refine qm hE rfl rfl fun a hE => ?_
 obtain ⟨r166, hr167, h⟩ := ob h
 refine st hE (st_call (vs := [(.int .i64 (IntKind.i64.wrap r153.1))]) hE rfl Try.call90 (c_value_Int (hS := hS) (inR_wrap _ _) hr167)) rfl ?_
 rintro v171 a w ⟨m168, hm169, hS, hv170⟩ hE
 refine st hE (st_lit (k := kAV) (xs := [r166]) (vs := [v171]) hE hS rfl Try.underlying29 Try.sizeOf53 Try.zeroValue53 ⟨hv170, trivial⟩ rfl (by decide)) rfl ?_
 rintro v175 a w ⟨m173, hm174, hS, hv172⟩ hE
 obtain ⟨z176, hz177, h⟩ := ob h
 refine st hE (st_app (k := kAV) (N := 3518437208883) hE (hS.tail0 4) rfl rfl Try.underlying29 Try.underlying29 el53 (i := 0) rfl RV_nil hv172 hz177 rfl rfl) rfl ?_
 rintro v181 a w ⟨m179, hm180, hS, hv178⟩ hE
 refine qa hE rfl rfl fun a hE => ?_
 refine knil (kblock ?_)
 refine kloop h (fun (s : ((List AV) × Int × Encode_reader)) a w => ∃ m', M.le m179 m' ∧ ∃ (v186 : Value), ∃ (cs191 : List Value), RV (kSl kAV) m' v186 s.1 ∧ inR .i64 s.2.1 ∧ kEncode_reader.R m' cs191 s.2.2 ∧ S W0 m' w ((b0_, cs191) :: L) ((4, v186) :: TL) ∧ Env 167 a [(0, (.pointer (some ⟨b0_, 0, none⟩))), (2, (.int .i64 p2)), (7, v186), (9, (.int .i64 s.2.1))]) ?_ ?_
 {
 exact ⟨_, (M.le.refl _), v181, c0_157, hv178, (inR_wrap _ _), (kEncode_reader.mono (M.le.trans hm169 (M.le.trans hm174 hm180)) hc0_158), (hS.pickT 2 [0] rfl rfl rfl), hE.cut ⟨rfl, rfl, rfl, rfl, trivial⟩⟩
 }
 {
 rintro ⟨x185, x188, x190⟩ a w ⟨m183, hm184, v186, cs191, hv187, hr189, hc192, hS, hE⟩ r193 h hb194
 have h : encode_reader_guess_b3 p2 x185 x188 x190 = some r193 := h
 unfold encode_reader_guess_b3 at h
 refine kseq (kseq ?_)
 refine kcut (fun a w => ∃ x197 : Bool, encode_reader_guess_j4 x185 x188 x190 x197 = some r193 ∧ ∃ m', M.le m183 m' ∧ S W0 m' w ((b0_, cs191) :: L) ((4, v186) :: TL) ∧ Env 167 a [(0, (.pointer (some ⟨b0_, 0, none⟩))), (2, (.int .i64 p2)), (7, v186), (9, (.int .i64 x188)), (107, (.bool x197))]) ?_ ?_
 {
 refine kreg ?_
 refine qm hE rfl rfl fun a hE => ?_
 refine sp hE (r_lenSl (k := kAV) hE rfl rfl Try.underlying29 hv187) rfl fun a hE => ?_
 refine qm hE rfl rfl fun a hE => ?_
 refine sp hE (r_bin hE rfl rfl b_lss) rfl fun a hE => ?_
 refine qm hE rfl rfl fun a hE => ?_
 rcases Bool.eq_false_or_eq_true (decide ((x185.length : Int) < p2)) with hd246 | hd246
 {
 have h := ite_T hd246 h
 refine spg hE rfl rfl rfl rfl hd246 (r_move hE rfl) rfl fun a hE => ?_
 refine spg hE rfl rfl rfl rfl hd246 (r_nilCheck hE rfl) rfl fun a hE => ?_
 refine spg hE rfl rfl rfl rfl hd246 (r_fieldL hE fo87_1 rfl) rfl fun a hE => ?_
 refine stg hE rfl rfl rfl rfl hd246 (st_loadL hE hS ty4 rfl (i := 0) rfl (fl87_1.R_drop (R_whole hc192))) rfl ?_
 rintro v251 a _ ⟨rfl, hv250⟩ hE
 obtain rfl := RV_bool hv250
 refine sp hE (r_pickT hE rfl hd246 rfl) rfl fun a hE => ?_
 refine knil ?_
 exact ⟨x190.fOk, h, _, (M.le.refl _), hS, hE.cut ⟨rfl, rfl, rfl, rfl, rfl, trivial⟩⟩
 }
 {
 have h := ite_F hd246 h
 refine sx hE rfl rfl rfl rfl hd246 rfl fun a hE => ?_
 refine sx hE rfl rfl rfl rfl hd246 rfl fun a hE => ?_
 refine sx hE rfl rfl rfl rfl hd246 rfl fun a hE => ?_
 refine sx hE rfl rfl rfl rfl hd246 rfl fun a hE => ?_
 refine sp hE (r_pickF hE rfl hd246 rfl) rfl fun a hE => ?_
 refine knil ?_
 exact ⟨false, h, _, (M.le.refl _), hS, hE.cut ⟨rfl, rfl, rfl, rfl, rfl, trivial⟩⟩
 }
 }
 {
 rintro a w ⟨x197, h, m195, hm196, hS, hE⟩
 unfold encode_reader_guess_j4 at h
 refine kif hE rfl (fun hd199 => ?_) (fun hd199 => ?_)
 {
 have h := ite_T hd199 h
 refine kskip (kblock (kseq (kreg ?_)))
 refine qm hE rfl rfl fun a hE => ?_
 obtain ⟨r201, hr202, h⟩ := ob h
 refine st hE (st_call (vs := [(.pointer (some ⟨b0_, 0, none⟩))]) hE rfl Try.call91 (c_encode_reader_short (hS := hS) (kEncode_reader.mono hm196 hc192) hr202)) rfl ?_
 rintro v208 a w ⟨m203, hm204, c0_205, hS, hc0_206, hv207⟩ hE
 obtain ⟨rfl, hr209⟩ := RV_int hv207
 refine qa hE rfl rfl fun a hE => ?_
 refine knil (kseq (kreg ?_))
 refine qm hE rfl rfl fun a hE => ?_
 refine qm hE rfl rfl fun a hE => ?_
 refine sp hE (r_bin hE rfl rfl (b_shr rfl (by decide))) rfl fun a hE => ?_
 refine sp hE (r_conv hE rfl Try.underlying24 Try.underlying2 rfl) rfl fun a hE => ?_
 refine qm hE rfl rfl fun a hE => ?_
 refine sp hE (r_bin hE rfl rfl (b_and rfl)) rfl fun a hE => ?_
 refine sp hE (r_conv hE rfl Try.underlying24 Try.underlying2 rfl) rfl fun a hE => ?_
 refine sp hE (r_neg hE rfl rfl) rfl fun a hE => ?_
 refine sp hE (r_bin hE rfl rfl (b_xor rfl)) rfl fun a hE => ?_
 refine sp hE (r_bin hE rfl rfl (b_add rfl)) rfl fun a hE => ?_
 refine qa hE rfl rfl fun a hE => ?_
 refine knil (kreg ?_)
 refine qm hE rfl rfl fun a hE => ?_
 refine qm hE rfl rfl fun a hE => ?_
 obtain ⟨r224, hr225, h⟩ := ob h
 refine st hE (st_call (vs := [(.int .i64 (IntKind.i64.wrap (x188 + (bXor .i64 (IntKind.i64.wrap (iShr .u64 r201.1 1)) (IntKind.i64.wrap (0 - (IntKind.i64.wrap (bAnd .u64 r201.1 1))))))))]) hE rfl Try.call90 (c_value_Int (hS := hS) (inR_wrap _ _) hr225)) rfl ?_
 rintro v229 a w ⟨m226, hm227, hS, hv228⟩ hE
 refine st hE (st_lit (k := kAV) (xs := [r224]) (vs := [v229]) hE hS rfl Try.underlying29 Try.sizeOf53 Try.zeroValue53 ⟨hv228, trivial⟩ rfl (by decide)) rfl ?_
 rintro v233 a w ⟨m231, hm232, hS, hv230⟩ hE
 obtain ⟨z234, hz235, h⟩ := ob h
 refine st hE (st_app (k := kAV) (N := 3518437208883) hE hS rfl rfl Try.underlying29 Try.underlying29 el53 (i := 1) rfl (hv187.mono (M.le.trans hm196 (M.le.trans hm204 (M.le.trans hm227 hm232)))) hv230 hz235 rfl rfl) rfl ?_
 rintro v239 a w ⟨m237, hm238, hS, hv236⟩ hE
 refine qa hE rfl rfl fun a hE => ?_
 refine knil ?_
 exact ⟨(z234, IntKind.i64.wrap (x188 + (bXor .i64 (IntKind.i64.wrap (iShr .u64 r201.1 1)) (IntKind.i64.wrap (0 - (IntKind.i64.wrap (bAnd .u64 r201.1 1)))))), r201.2), (Option.some.inj h).symm, _, (M.le.trans hm184 (M.le.trans hm196 (M.le.trans hm204 (M.le.trans hm227 (M.le.trans hm232 hm238))))), v239, c0_205, hv236, (inR_wrap _ _), (kEncode_reader.mono (M.le.trans hm227 (M.le.trans hm232 hm238)) hc0_206), (hS.pickT 2 [1] rfl rfl rfl), hE.cut ⟨rfl, rfl, rfl, rfl, trivial⟩⟩
 }
 {
 have h := ite_F hd199 h
 refine kexit rfl rfl ?_
 have h := unwrap h hb194
 exact ⟨x185, x190, h, _, (M.le.trans hm156 (M.le.trans hm169 (M.le.trans hm174 (M.le.trans hm180 (M.le.trans hm184 hm196))))), v186, cs191, (hv187.mono hm196), (kEncode_reader.mono hm196 hc192), hS, hE.cut ⟨rfl, trivial⟩⟩
 }
 }
 }
 }
 {
 have h := ite_F hd151 h
 refine kseq (kreg ?_)
 refine sp hE (r_bin hE rfl rfl b_eql) rfl fun a hE => ?_
 refine qa hE rfl rfl fun a hE => ?_
 refine knil ?_
 refine kif hE rfl (fun hd256 => ?_) (fun hd256 => ?_)
 {
 have h := ite_T hd256 h
 refine kseq (kreg ?_)
 refine qa hE rfl rfl fun a hE => ?_
 refine knil (kseq (kseq (kreg ?_)))
 refine qm hE rfl rfl fun a hE => ?_
 obtain ⟨r259, hr260, h⟩ := ob h
 refine st hE (st_call (vs := [(.pointer (some ⟨b0_, 0, none⟩)), (.int .i64 1)]) hE rfl Try.call87 (c_encode_reader_take (hS := hS) ha0 (show inR .i64 1 from inR_lit (by decide)) hr260)) rfl ?_
 rintro v266 a w ⟨m261, hm262, c0_263, hS, hc0_264, hv265⟩ hE
 obtain ⟨x267, hx268, h⟩ := ob h
 refine st hE (st_index (k := (kInt .u8)) hE rfl rfl Try.underlying37 Try.sizeOf5 hv265 hx268) rfl ?_
 rintro v270 a _ ⟨rfl, hp269⟩ hE
 refine st hE (st_loadM hE hS ty5 rfl hp269) rfl ?_
 rintro v272 a _ ⟨rfl, hv271⟩ hE
 obtain ⟨rfl, hr273⟩ := RV_int hv271
 refine qm hE rfl rfl fun a hE => ?_
 refine knil ?_
 refine kcut (fun a w => ∃ x277 : (List AV), ∃ x280 : Encode_reader, encode_reader_guess_j5 p2 x277 x280 = some r ∧ ∃ m', M.le m261 m' ∧ ∃ (v278 : Value), ∃ (cs281 : List Value), RV (kSl kAV) m' v278 x277 ∧ kEncode_reader.R m' cs281 x280 ∧ S W0 m' w ((b0_, cs281) :: L) ((4, v278) :: TL) ∧ Env 167 a [(0, (.pointer (some ⟨b0_, 0, none⟩))), (2, (.int .i64 p2)), (7, (.slice none 0 0)), (11, v278)]) ?_ ?_
 {
 refine kblock ?_
 refine kloop h (fun (s : ((List AV) × Int × Encode_reader)) a w => ∃ m', M.le m261 m' ∧ ∃ (v359 : Value), ∃ (cs364 : List Value), RV (kSl kAV) m' v359 s.1 ∧ inR .u8 s.2.1 ∧ kEncode_reader.R m' cs364 s.2.2 ∧ S W0 m' w ((b0_, cs364) :: L) ((4, v359) :: TL) ∧ Env 167 a [(0, (.pointer (some ⟨b0_, 0, none⟩))), (2, (.int .i64 p2)), (7, (.slice none 0 0)), (11, v359), (130, (.int .u8 x267)), (131, (.int .u8 s.2.1))]) ?_ ?_
 {
 exact ⟨_, (M.le.refl _), (.slice none 0 0), c0_263, RV_nil, (show inR .u8 0 from inR_lit (by decide)), hc0_264, (hS.tail0 4), hE.cut ⟨rfl, rfl, rfl, rfl, rfl, rfl, trivial⟩⟩
 }
 {
 rintro ⟨x358, x361, x363⟩ a w ⟨m356, hm357, v359, cs364, hv360, hr362, hc365, hS, hE⟩ r366 h hb367
 have h : encode_reader_guess_b5 p2 x267 x358 x361 x363 = some r366 := h
 unfold encode_reader_guess_b5 at h
 refine kseq (kreg ?_)
 refine sp hE (r_bin hE rfl rfl b_lss) rfl fun a hE => ?_
 refine knil (kseq ?_)
 refine kif hE rfl (fun hd369 => ?_) (fun hd369 => ?_)
 {
 have h := ite_T hd369 h
 refine kskip (kseq (kblock (kreg ?_)))
 refine qm hE rfl rfl fun a hE => ?_
 refine qm hE rfl rfl fun a hE => ?_
 obtain ⟨r372, hr373, h⟩ := ob h
 refine st hE (st_call (vs := [(.pointer (some ⟨b0_, 0, none⟩))]) hE rfl Try.call86 (c_encode_reader_value (hS := hS) hc365 hr373)) rfl ?_
 rintro v379 a w ⟨m374, hm375, c0_376, hS, hc0_377, hv378⟩ hE
 refine st hE (st_lit (k := kAV) (xs := [r372.1]) (vs := [v379]) hE hS rfl Try.underlying29 Try.sizeOf53 Try.zeroValue53 ⟨hv378, trivial⟩ rfl (by decide)) rfl ?_
 rintro v383 a w ⟨m381, hm382, hS, hv380⟩ hE
 obtain ⟨z384, hz385, h⟩ := ob h
 refine st hE (st_app (k := kAV) (N := 3518437208883) hE hS rfl rfl Try.underlying29 Try.underlying29 el53 (i := 1) rfl (hv360.mono (M.le.trans hm375 hm382)) hv380 hz385 rfl rfl) rfl ?_
 rintro v389 a w ⟨m387, hm388, hS, hv386⟩ hE
 refine qa hE rfl rfl fun a hE => ?_
 refine knil (kreg ?_)
 refine sp hE (r_bin hE rfl rfl (b_add rfl)) rfl fun a hE => ?_
 refine qm hE rfl rfl fun a hE => ?_
 refine knil ?_
 exact ⟨(z384, IntKind.u8.wrap (x361 + 1), r372.2), (Option.some.inj h).symm, _, (M.le.trans hm357 (M.le.trans hm375 (M.le.trans hm382 hm388))), v389, c0_376, hv386, (inR_wrap _ _), (kEncode_reader.mono (M.le.trans hm382 hm388) hc0_377), (hS.pickT 2 [1] rfl rfl rfl), hE.cut ⟨rfl, rfl, rfl, rfl, rfl, rfl, trivial⟩⟩
 }
 {
 have h := ite_F hd369 h
 refine kexit rfl rfl ?_
 have h := unwrap h hb367
 exact ⟨x358, x363, h, _, hm357, v359, cs364, hv360, hc365, hS, hE.cut ⟨rfl, rfl, rfl, rfl, trivial⟩⟩
 }
 }
 }
 {
 rintro a w ⟨x277, x280, h, m275, hm276, v278, cs281, hv279, hc282, hS, hE⟩
 unfold encode_reader_guess_j5 at h
 refine kseq (kreg ?_)
 refine qm hE rfl rfl fun a hE => ?_
 refine qm hE rfl rfl fun a hE => ?_
 refine qm hE rfl rfl fun a hE => ?_
 refine sp hE (r_lenSl (k := kAV) hE rfl rfl Try.underlying29 hv279) rfl fun a hE => ?_
 refine sp hE (r_max2 hE rfl rfl) rfl fun a hE => ?_
 refine sp hE (r_bin hE rfl rfl (b_sub rfl)) rfl fun a hE => ?_
 refine sp hE (r_conv hE rfl Try.underlying3 Try.underlying101 rfl) rfl fun a hE => ?_
 obtain ⟨r291, hr292, h⟩ := ob h
 refine st hE (st_call (vs := [(.int .u64 (IntKind.u64.wrap (IntKind.i64.wrap ((if (x277.length : Int) < 1 then 1 else (x277.length : Int)) - 1))))]) hE rfl Try.call93 (c_bits_Len (hS := hS) (inR_wrap _ _) hr292)) rfl ?_
 rintro v296 a w ⟨m293, hm294, hS, hv295⟩ hE
 obtain ⟨rfl, hr297⟩ := RV_int hv295
 obtain ⟨r298, hr299, h⟩ := ob h
 refine st hE (st_call (vs := [(.pointer (some ⟨b0_, 0, none⟩)), (.int .i64 p2), (.int .i64 r291)]) hE rfl Try.call92 (c_encode_reader_unpacked (hS := hS) (kEncode_reader.mono hm294 hc282) ha2 hr297 hr299)) rfl ?_
 rintro v305 a w ⟨m300, hm301, c0_302, hS, hc0_303, hv304⟩ hE
 refine sp hE (r_lenSl (k := (kInt .u64)) hE rfl rfl Try.underlying125 hv304) rfl fun a hE => ?_
 refine qm hE rfl rfl fun a hE => ?_
 refine knil (kblock ?_)
 refine kloop h (fun (s : ((List AV) × Int)) a w => ∃ m', M.le m300 m' ∧ ∃ (v311 : Value), RV (kSl kAV) m' v311 s.1 ∧ inR .i64 s.2 ∧ S W0 m' w ((b0_, c0_302) :: L) ((4, v311) :: (4, v278) :: TL) ∧ Env 167 a [(7, v311), (11, v278), (147, v305), (148, (.int .i64 (r298.1.length : Int))), (149, (.int .i64 s.2))]) ?_ ?_
 {
 exact ⟨_, (M.le.refl _), (.slice none 0 0), RV_nil, (show inR .i64 0 from inR_lit (by decide)), (hS.tail0 4), hE.cut ⟨rfl, rfl, rfl, rfl, rfl, trivial⟩⟩
 }
 {
 rintro ⟨x310, x313⟩ a w ⟨m308, hm309, v311, hv312, hr314, hS, hE⟩ r315 h hb316
 have h : encode_reader_guess_b4 x277 r298 x310 x313 = some r315 := h
 unfold encode_reader_guess_b4 at h
 refine kseq (kreg ?_)
 refine sp hE (r_bin hE rfl rfl b_lss) rfl fun a hE => ?_
 refine knil (kseq ?_)
 refine kif hE rfl (fun hd318 => ?_) (fun hd318 => ?_)
 {
 have h := ite_T hd318 h
 refine kskip (kseq (kblock (kseq (kreg ?_))))
 obtain ⟨x319, hx320, h⟩ := ob h
 refine st hE (st_index (k := (kInt .u64)) hE rfl rfl Try.underlying125 Try.sizeOf24 (hv304.mono hm309) hx320) rfl ?_
 rintro v322 a _ ⟨rfl, hp321⟩ hE
 refine st hE (st_loadM hE hS ty24 rfl hp321) rfl ?_
 rintro v324 a _ ⟨rfl, hv323⟩ hE
 obtain ⟨rfl, hr325⟩ := RV_int hv323
 refine qa hE rfl rfl fun a hE => ?_
 refine knil (kseq (kseq (kreg ?_)))
 refine qm hE rfl rfl fun a hE => ?_
 refine qm hE rfl rfl fun a hE => ?_
 refine sp hE (r_lenSl (k := kAV) hE rfl rfl Try.underlying29 (hv279.mono (M.le.trans hm294 (M.le.trans hm301 hm309)))) rfl fun a hE => ?_
 refine sp hE (r_conv hE rfl Try.underlying3 Try.underlying24 rfl) rfl fun a hE => ?_
 refine sp hE (r_bin hE rfl rfl b_geq) rfl fun a hE => ?_
 refine knil ?_
 refine kif hE rfl (fun hd332 => ?_) (fun hd332 => ?_)
 {
 have h := ite_T hd332 h
 refine kseq (kreg ?_)
 refine qa hE rfl rfl fun a hE => ?_
 refine knil (kret ?_)
 have h := unwrap h hb316
 obtain rfl := oi h
 try dsimp only
 refine Fin.mk hE (rs := [.tmp 6]) rfl (ResL.tmp hE rfl ResL.nil) ?_
 exact ⟨_, (M.le.trans hm262 (M.le.trans hm276 (M.le.trans hm294 (M.le.trans hm301 hm309)))), c0_302, ((hS.dropT 2).tail0 4), (kEncode_reader.mono hm309 hc0_303), RV_nil⟩
 }
 {
 have h := ite_F hd332 h
 refine kskip (kreg ?_)
 refine qm hE rfl rfl fun a hE => ?_
 refine qm hE rfl rfl fun a hE => ?_
 refine qm hE rfl rfl fun a hE => ?_
 obtain ⟨x337, hx338, h⟩ := ob h
 refine st hE (st_index (k := kAV) hE rfl rfl Try.underlying29 Try.sizeOf53 (hv279.mono (M.le.trans hm294 (M.le.trans hm301 hm309))) hx338) rfl ?_
 rintro v340 a _ ⟨rfl, hp339⟩ hE
 refine st hE (st_loadM hE hS ty53 rfl hp339) rfl ?_
 rintro v342 a _ ⟨rfl, hv341⟩ hE
 refine st hE (st_lit (k := kAV) (xs := [x337]) (vs := [v342]) hE hS rfl Try.underlying29 Try.sizeOf53 Try.zeroValue53 ⟨hv341, trivial⟩ rfl (by decide)) rfl ?_
 rintro v346 a w ⟨m344, hm345, hS, hv343⟩ hE
 obtain ⟨z347, hz348, h⟩ := ob h
 refine st hE (st_app (k := kAV) (N := 3518437208883) hE hS rfl rfl Try.underlying29 Try.underlying29 el53 (i := 1) rfl (hv312.mono hm345) hv343 hz348 rfl rfl) rfl ?_
 rintro v352 a w ⟨m350, hm351, hS, hv349⟩ hE
 refine qa hE rfl rfl fun a hE => ?_
 refine knil (kreg ?_)
 refine sp hE (r_bin hE rfl rfl (b_add rfl)) rfl fun a hE => ?_
 refine qm hE rfl rfl fun a hE => ?_
 refine knil ?_
 exact ⟨(z347, IntKind.i64.wrap (x313 + 1)), (Option.some.inj h).symm, _, (M.le.trans hm309 (M.le.trans hm345 hm351)), v352, hv349, (inR_wrap _ _), (hS.pickT 3 [1, 2] rfl rfl rfl), hE.cut ⟨rfl, rfl, rfl, rfl, rfl, trivial⟩⟩
 }
 }
 {
 have h := ite_F hd318 h
 refine kexit rfl rfl ?_
 have h := unwrap h hb316
 exact ⟨x310, r298.2, h, _, (M.le.trans hm262 (M.le.trans hm276 (M.le.trans hm294 (M.le.trans hm301 hm309)))), v311, c0_302, hv312, (kEncode_reader.mono hm309 hc0_303), (hS.pickT 2 [0] rfl rfl rfl), hE.cut ⟨rfl, trivial⟩⟩
 }
 }
 }
 }
 {
 have h := ite_F hd256 h
 refine kseq (kreg ?_)
 refine qm hE rfl rfl fun a hE => ?_
 obtain ⟨r394, hr395, h⟩ := ob h
 refine st hE (st_call (vs := [(.pointer (some ⟨b0_, 0, none⟩))]) hE rfl Try.call89 (c_encode_reader_number (hS := hS) ha0 hr395)) rfl ?_
 rintro v401 a w ⟨m396, hm397, c0_398, hS, hc0_399, hv400⟩ hE
 obtain ⟨rfl, hr402⟩ := RV_int hv400
 refine qa hE rfl rfl fun a hE => ?_
 refine knil (kseq (kreg ?_))
 refine qm hE rfl rfl fun a hE => ?_
 refine qm hE rfl rfl fun a hE => ?_
 refine qm hE rfl rfl fun a hE => ?_
 obtain ⟨r407, hr408, h⟩ := ob h
 refine st hE (st_call (vs := [(.pointer (some ⟨b0_, 0, none⟩)), (.int .i64 1)]) hE rfl Try.call87 (c_encode_reader_take (hS := hS) hc0_399 (show inR .i64 1 from inR_lit (by decide)) hr408)) rfl ?_
 rintro v414 a w ⟨m409, hm410, c0_411, hS, hc0_412, hv413⟩ hE
 obtain ⟨x415, hx416, h⟩ := ob h
 refine st hE (st_index (k := (kInt .u8)) hE rfl rfl Try.underlying37 Try.sizeOf5 hv413 hx416) rfl ?_
 rintro v418 a _ ⟨rfl, hp417⟩ hE
 refine st hE (st_loadM hE hS ty5 rfl hp417) rfl ?_
 rintro v420 a _ ⟨rfl, hv419⟩ hE
 obtain ⟨rfl, hr421⟩ := RV_int hv419
 refine sp hE (r_conv hE rfl Try.underlying5 Try.underlying3 rfl) rfl fun a hE => ?_
 obtain ⟨r423, hr424, h⟩ := ob h
 refine st hE (st_call (vs := [(.pointer (some ⟨b0_, 0, none⟩)), (.int .i64 p2), (.int .i64 (IntKind.i64.wrap x415))]) hE rfl Try.call92 (c_encode_reader_unpacked (hS := hS) hc0_412 ha2 (inR_wrap _ _) hr424)) rfl ?_
 rintro v430 a w ⟨m425, hm426, c0_427, hS, hc0_428, hv429⟩ hE
 refine sp hE (r_lenSl (k := (kInt .u64)) hE rfl rfl Try.underlying125 hv429) rfl fun a hE => ?_
 refine qm hE rfl rfl fun a hE => ?_
 refine knil (kblock ?_)
 refine kloop h (fun (s : ((List AV) × Int)) a w => ∃ m', M.le m425 m' ∧ ∃ (v436 : Value), RV (kSl kAV) m' v436 s.1 ∧ inR .i64 s.2 ∧ S W0 m' w ((b0_, c0_427) :: L) ((4, v436) :: TL) ∧ Env 167 a [(7, v436), (14, (.int .u64 r394.1)), (27, v430), (28, (.int .i64 (r423.1.length : Int))), (29, (.int .i64 s.2))]) ?_ ?_
 {
 exact ⟨_, (M.le.refl _), (.slice none 0 0), RV_nil, (show inR .i64 0 from inR_lit (by decide)), (hS.tail0 4), hE.cut ⟨rfl, rfl, rfl, rfl, rfl, trivial⟩⟩
 }
 {
 rintro ⟨x435, x438⟩ a w ⟨m433, hm434, v436, hv437, hr439, hS, hE⟩ r440 h hb441
 have h : encode_reader_guess_b6 r394 r423 x435 x438 = some r440 := h
 unfold encode_reader_guess_b6 at h
 refine kseq (kreg ?_)
 refine sp hE (r_bin hE rfl rfl b_lss) rfl fun a hE => ?_
 refine knil (kseq ?_)
 refine kif hE rfl (fun hd443 => ?_) (fun hd443 => ?_)
 {
 have h := ite_T hd443 h
 refine kskip (kseq (kblock (kseq (kreg ?_))))
 obtain ⟨x444, hx445, h⟩ := ob h
 refine st hE (st_index (k := (kInt .u64)) hE rfl rfl Try.underlying125 Try.sizeOf24 (hv429.mono hm434) hx445) rfl ?_
 rintro v447 a _ ⟨rfl, hp446⟩ hE
 refine st hE (st_loadM hE hS ty24 rfl hp446) rfl ?_
 rintro v449 a _ ⟨rfl, hv448⟩ hE
 obtain ⟨rfl, hr450⟩ := RV_int hv448
 refine qa hE rfl rfl fun a hE => ?_
 refine knil (kreg ?_)
 refine qm hE rfl rfl fun a hE => ?_
 refine qm hE rfl rfl fun a hE => ?_
 refine qm hE rfl rfl fun a hE => ?_
 refine sp hE (r_bin hE rfl rfl (b_add rfl)) rfl fun a hE => ?_
 refine sp hE (r_conv hE rfl Try.underlying24 Try.underlying2 rfl) rfl fun a hE => ?_
 obtain ⟨r457, hr458, h⟩ := ob h
 refine st hE (st_call (vs := [(.int .i64 (IntKind.i64.wrap (IntKind.u64.wrap (r394.1 + x444))))]) hE rfl Try.call90 (c_value_Int (hS := hS) (inR_wrap _ _) hr458)) rfl ?_
 rintro v462 a w ⟨m459, hm460, hS, hv461⟩ hE
 refine st hE (st_lit (k := kAV) (xs := [r457]) (vs := [v462]) hE hS rfl Try.underlying29 Try.sizeOf53 Try.zeroValue53 ⟨hv461, trivial⟩ rfl (by decide)) rfl ?_
 rintro v466 a w ⟨m464, hm465, hS, hv463⟩ hE
 obtain ⟨z467, hz468, h⟩ := ob h
 refine st hE (st_app (k := kAV) (N := 3518437208883) hE hS rfl rfl Try.underlying29 Try.underlying29 el53 (i := 1) rfl (hv437.mono (M.le.trans hm460 hm465)) hv463 hz468 rfl rfl) rfl ?_
 rintro v472 a w ⟨m470, hm471, hS, hv469⟩ hE
 refine qa hE rfl rfl fun a hE => ?_
 refine knil (kreg ?_)
 refine sp hE (r_bin hE rfl rfl (b_add rfl)) rfl fun a hE => ?_
 refine qm hE rfl rfl fun a hE => ?_
 refine knil ?_
 exact ⟨(z467, IntKind.i64.wrap (x438 + 1)), (Option.some.inj h).symm, _, (M.le.trans hm434 (M.le.trans hm460 (M.le.trans hm465 hm471))), v472, hv469, (inR_wrap _ _), (hS.pickT 2 [1] rfl rfl rfl), hE.cut ⟨rfl, rfl, rfl, rfl, rfl, trivial⟩⟩
 }
 {
 have h := ite_F hd443 h
 refine kexit rfl rfl ?_
 have h := unwrap h hb441
 exact ⟨x435, r423.2, h, _, (M.le.trans hm397 (M.le.trans hm410 (M.le.trans hm426 hm434))), v436, c0_427, hv437, (kEncode_reader.mono hm434 hc0_428), hS, hE.cut ⟨rfl, trivial⟩⟩
 }
 }
 }
 }
 }
 }
 }
 {
 rintro a w ⟨x6, x9, h, m4, hm5, v7, cs10, hv8, hc11, hS, hE⟩
 unfold encode_reader_guess_j1 at h
 refine kseq (kreg ?_)
 refine qm hE rfl rfl fun a hE => ?_
 refine qa hE rfl rfl fun a hE => ?_
 refine knil (kret ?_)
 obtain rfl := oi h
 try dsimp only
 refine Fin.mk hE (rs := [.tmp 6]) rfl (ResL.tmp hE rfl ResL.nil) ?_
 exact ⟨_, hm5, cs10, (hS.pickT 1 [0] rfl rfl rfl), hc11, hv8⟩
 }
theorem c_slices_IndexFunc_Value {W0 : Bse} {m : M} {w : World} {L : List (Nat × List Value)} {TL : List (Nat × Value)} (hS : S W0 m w (L) (TL)) {v0 : Value} {p0 : (List AV)} (ha0 : RV (kSl kAV) m v0 p0) {v1 : Value} {p1 : (AV → Option Bool)} (ha1 : Fn1 Try.prog kAV kBool m v1 p1) {r : Int} (h : slices_IndexFunc_Value p0 p1 = some r) :
    Calls Try.prog 96 [v0, v1].toArray w (Ret fun v w' => ∃ m', M.le m m' ∧ S W0 m' w' (L) (TL) ∧ RV (kInt .i64) m' v r) := by
 refine kcall Try.func96 rfl Try.ntmps96 (Nat.le_of_ble_eq_true rfl) fun a hE => ?_
 have hE : Env 19 a [(0, v0), (1, v1)] := hE
 unfold slices_IndexFunc_Value at h
 refine kseq (kreg ?_)
 refine qa hE rfl rfl fun a hE => ?_
 refine knil (kseq (kseq (kreg ?_)))
 refine qm hE rfl rfl fun a hE => ?_
 refine sp hE (r_lenSl (k := kAV) hE rfl rfl Try.underlying29 ha0) rfl fun a hE => ?_
 refine qm hE rfl rfl fun a hE => ?_
 refine knil ?_
 refine kcut (fun a w => slices_IndexFunc_Value_j1 = some r ∧ ∃ m', M.le m m' ∧ S W0 m' w (L) (TL) ∧ Env 19 a []) ?_ ?_
 {
 refine kblock ?_
 refine kloop h (fun (s : Int) a w => ∃ m', M.le m m' ∧ inR .i64 s ∧ S W0 m' w (L) (TL) ∧ Env 19 a [(0, v0), (1, v1), (7, (.int .i64 (p0.length : Int))), (8, (.int .i64 s))]) ?_ ?_
 {
 exact ⟨_, (M.le.refl _), (show inR .i64 0 from inR_lit (by decide)), hS, hE.cut ⟨rfl, rfl, rfl, rfl, trivial⟩⟩
 }
 {
 rintro x11 a w ⟨m9, hm10, hr12, hS, hE⟩ r13 h hb14
 have h : slices_IndexFunc_Value_b1 p0 p1 x11 = some r13 := h
 unfold slices_IndexFunc_Value_b1 at h
 refine kseq (kreg ?_)
 refine sp hE (r_bin hE rfl rfl b_lss) rfl fun a hE => ?_
 refine knil (kseq ?_)
 refine kif hE rfl (fun hd16 => ?_) (fun hd16 => ?_)
 {
 have h := ite_T hd16 h
 refine kskip (kseq (kblock (kseq (kreg ?_))))
 refine qm hE rfl rfl fun a hE => ?_
 refine qa hE rfl rfl fun a hE => ?_
 refine knil (kseq (kreg ?_))
 refine qm hE rfl rfl fun a hE => ?_
 refine qm hE rfl rfl fun a hE => ?_
 refine qm hE rfl rfl fun a hE => ?_
 obtain ⟨x22, hx23, h⟩ := ob h
 refine st hE (st_index (k := kAV) hE rfl rfl Try.underlying29 Try.sizeOf53 (ha0.mono hm10) hx23) rfl ?_
 rintro v25 a _ ⟨rfl, hp24⟩ hE
 refine st hE (st_loadM hE hS ty53 rfl hp24) rfl ?_
 rintro v27 a _ ⟨rfl, hv26⟩ hE
 obtain ⟨r28, hr29, h⟩ := ob h
 refine st hE (st_callF1 hE hS rfl rfl (ha1.mono hm10) hv26 hr29) rfl ?_
 rintro v33 a w ⟨m30, hm31, hS, hv32⟩ hE
 obtain rfl := RV_bool hv32
 refine knil ?_
 refine kif hE rfl (fun hd34 => ?_) (fun hd34 => ?_)
 {
 have h := ite_T hd34 h
 refine kseq (kreg ?_)
 refine qm hE rfl rfl fun a hE => ?_
 refine qa hE rfl rfl fun a hE => ?_
 refine knil (kret ?_)
 have h := unwrap h hb14
 obtain rfl := oi h
 try dsimp only
 refine Fin.mk hE (rs := [.tmp 4]) rfl (ResL.tmp hE rfl ResL.nil) ?_
 exact ⟨_, (M.le.trans hm10 hm31), hS, (RV_of_int hr12)⟩
 }
 {
 have h := ite_F hd34 h
 refine kskip (kreg ?_)
 refine sp hE (r_bin hE rfl rfl (b_add rfl)) rfl fun a hE => ?_
 refine qm hE rfl rfl fun a hE => ?_
 refine knil ?_
 exact ⟨IntKind.i64.wrap (x11 + 1), (Option.some.inj h).symm, _, (M.le.trans hm10 hm31), (inR_wrap _ _), hS, hE.cut ⟨rfl, rfl, rfl, rfl, trivial⟩⟩
 }
 }
 {
 have h := ite_F hd16 h
 refine kexit rfl rfl ?_
 have h := unwrap h hb14
 exact ⟨h, _, hm10, hS, hE.cut trivial⟩
 }
 }
 }
 {
 rintro a w ⟨h, m5, hm6, hS, hE⟩
 unfold slices_IndexFunc_Value_j1 at h
 refine kseq (kreg ?_)
 refine qa hE rfl rfl fun a hE => ?_
 refine knil (kret ?_)
 obtain rfl := oi h
 try dsimp only
 refine Fin.mk hE (rs := [.tmp 4]) rfl (ResL.tmp hE rfl ResL.nil) ?_
 exact ⟨_, hm6, hS, (RV_of_int (show inR .i64 (-1) from inR_lit (by decide)))⟩
 }
theorem c_slices_ContainsFunc_Value {W0 : Bse} {m : M} {w : World} {L : List (Nat × List Value)} {TL : List (Nat × Value)} (hS : S W0 m w (L) (TL)) {v0 : Value} {p0 : (List AV)} (ha0 : RV (kSl kAV) m v0 p0) {v1 : Value} {p1 : (AV → Option Bool)} (ha1 : Fn1 Try.prog kAV kBool m v1 p1) {r : Bool} (h : slices_ContainsFunc_Value p0 p1 = some r) :
    Calls Try.prog 52 [v0, v1].toArray w (Ret fun v w' => ∃ m', M.le m m' ∧ S W0 m' w' (L) (TL) ∧ RV kBool m' v r) := by
 refine kcall Try.func52 rfl Try.ntmps52 (Nat.le_of_ble_eq_true rfl) fun a hE => ?_
 have hE : Env 9 a [(0, v0), (1, v1)] := hE
 unfold slices_ContainsFunc_Value at h
 refine kseq (kreg ?_)
 refine qa hE rfl rfl fun a hE => ?_
 refine knil (kseq (kreg ?_))
 refine qm hE rfl rfl fun a hE => ?_
 refine qm hE rfl rfl fun a hE => ?_
 obtain ⟨r4, hr5, h⟩ := ob h
 refine st hE (st_call (vs := [v0, v1]) hE rfl Try.call96 (c_slices_IndexFunc_Value (hS := hS) ha0 ha1 hr5)) rfl ?_
 rintro v9 a w ⟨m6, hm7, hS, hv8⟩ hE
 obtain ⟨rfl, hr10⟩ := RV_int hv8
 refine sp hE (r_bin hE rfl rfl b_geq) rfl fun a hE => ?_
 refine qa hE rfl rfl fun a hE => ?_
 refine knil (kret ?_)
 obtain rfl := oi h
 try dsimp only
 refine Fin.mk hE (rs := [.tmp 4]) rfl (ResL.tmp hE rfl ResL.nil) ?_
 exact ⟨_, hm7, hS, RV_of_bool⟩
theorem c_value_Right {W0 : Bse} {m : M} {w : World} {L : List (Nat × List Value)} {TL : List (Nat × Value)} (hS : S W0 m w (L) (TL)) {v0 : Value} {p0 : AV} (ha0 : RV kAV m v0 p0) {r : Bool} (h : value_Right p0 = some r) :
    Calls Try.prog 54 [v0].toArray w (Ret fun v w' => ∃ m', M.le m m' ∧ S W0 m' w' (L) (TL) ∧ RV kBool m' v r) := by
 refine kcall Try.func54 rfl Try.ntmps54 (Nat.le_of_ble_eq_true rfl) fun a hE => ?_
 have hE : Env 43 a [(0, v0)] := hE
 unfold value_Right at h
 refine kseq (kreg ?_)
 refine st hE (st_box (k := kAV) hE hS rfl ha0) rfl ?_
 rintro _ a w ⟨b1, cs2, rfl, hc3, hS⟩ hE
 refine qa hE rfl rfl fun a hE => ?_
 refine knil (kseq (kblock (kseq (kreg ?_))))
 refine sp hE (r_fieldL hE fo53_0 rfl) rfl fun a hE => ?_
 refine st hE (st_loadL hE hS ty3 rfl (i := 0) rfl (fl53_0.R_drop (R_whole hc3))) rfl ?_
 rintro v8 a _ ⟨rfl, hv7⟩ hE
 obtain ⟨rfl, hr9⟩ := RV_int hv7
 refine sp hE (r_bin hE rfl rfl b_eql) rfl fun a hE => ?_
 refine qa hE rfl rfl fun a hE => ?_
 refine knil ?_
 refine kif hE rfl (fun hd12 => ?_) (fun hd12 => ?_)
 {
 have h := ite_T hd12 h
 refine kseq ?_
 obtain ⟨r14, hr15, h⟩ := ob h
 refine kchain (k := 2) (m := m) (es := []) (Φ := (fun i m ws v => match i with | 0 => RV kAV m v p0 | 1 => RV kAV m v r14 | _ => True)) (Q := (fun c m ws L' TL' => match c with | 0 => (b1, cs2) :: L = L' ∧ TL = TL' | _ => False)) (cs := [⟨0, 0, false, [(1, (.pointer (some ⟨b1, 0, none⟩)))]⟩, ⟨0, 0, false, []⟩]) mixed hE hS ⟨rfl, rfl⟩ rfl rfl ⟨⟨rfl, trivial⟩, trivial, trivial⟩ (by kernel_rfl) ?_ ?_ ?_ ?_
 {
 intro i m_ m2_ ws v hm_ hp_
 match i, hp_ with
 | 0, hp_ => exact RV.mono hp_ hm_
 | 1, hp_ => exact RV.mono hp_ hm_
 | _ + 2, hp_ => exact trivial
 }
 {
 intro c m_ m2_ ws L_ T_ hm_ hq_
 match c, hq_ with
 | 0, ⟨e1_, e2_⟩ => exact ⟨e1_, e2_⟩
 | _ + 1, hq_ => exact hq_.elim
 }
 {
 refine ⟨?_, ?_, trivial⟩
 {
 refine cplain fun pre_ post_ L_ T_ m' a' w' hl' hp' hm' hq' hS' hE' hT' => ?_
 obtain rfl := len0 hl'
 obtain rfl := len0 (lenz (a := 0) hp')
 obtain ⟨rfl, rfl⟩ := hq'
 refine Step.imp (st_loadL hE' hS' ty53 rfl (i := 0) rfl (R_whole (kAV.mono hm' hc3))) ?_
 rintro v19 _ ⟨rfl, hv13⟩
 exact ⟨_, M.le.refl _, hS', hv13⟩
 }
 {
 refine cplain fun pre_ post_ L_ T_ m' a' w' hl' hp' hm' hq' hS' hE' hT' => ?_
 obtain rfl := len0 hl'
 refine Step.imp (st_call (vs := []) hE' rfl Try.call97 (c_value_Null (hS := hS') hr15)) ?_
 rintro v20 w ⟨m16, hm17, hS, hv18⟩
 exact ⟨_, hm17, hS, hv18⟩
 }
 }
 {
 intro ws_ L_ T_ m21 a w hl22 hm23 hq24 hS hd25 hn26 ho27 hT28
 obtain rfl := len0 hl22
 obtain ⟨rfl, rfl⟩ := hq24
 have hE := EnvD.of (k := 2) (l' := [(0, v0), (1, (.pointer (some ⟨b1, 0, none⟩))), (2, (.bool false)), (3, (.bool (p0.fKind == 0))), (4, (.pointer (some ⟨b1, 0, none⟩))), (5, (.int .i64 p0.fKind)), (6, (.bool (p0.fKind == 0)))]) hd25 hn26 ho27 ⟨rfl, rfl, rfl, rfl, rfl, rfl, rfl, trivial⟩ rfl
 obtain ⟨v29, e30, q31⟩ : ∃ v, a.tmps.getD 7 undef = v ∧ (RV kAV m21 v p0) := ⟨_, rfl, hT28 0 (by decide) 7 rfl⟩
 have hE := hE.add (e30)
 obtain ⟨v32, e33, q34⟩ : ∃ v, a.tmps.getD 8 undef = v ∧ (RV kAV m21 v r14) := ⟨_, rfl, hT28 1 (by decide) 8 rfl⟩
 have hE := hE.add (e33)
 refine sp hE (r_eqlK hE eq53 rfl rfl q31 q34 rfl) rfl fun a hE => ?_
 refine qa hE rfl rfl fun a hE => ?_
 refine knil (kret ?_)
 obtain rfl := oi h
 try dsimp only
 refine Fin.mk hE (rs := [.tmp 2]) rfl (ResL.tmp hE rfl ResL.nil) ?_
 exact ⟨_, hm23, (hS.dropL 1), RV_of_bool⟩
 }
 }
 {
 have h := ite_F hd12 h
 refine kseq (kreg ?_)
 refine sp hE (r_fieldL hE fo53_0 rfl) rfl fun a hE => ?_
 refine st hE (st_loadL hE hS ty3 rfl (i := 0) rfl (fl53_0.R_drop (R_whole hc3))) rfl ?_
 rintro v39 a _ ⟨rfl, hv38⟩ hE
 obtain ⟨rfl, hr40⟩ := RV_int hv38
 refine sp hE (r_bin hE rfl rfl b_eql) rfl fun a hE => ?_
 refine qa hE rfl rfl fun a hE => ?_
 refine knil ?_
 refine kif hE rfl (fun hd43 => ?_) (fun hd43 => ?_)
 {
 have h := ite_T hd43 h
 refine kseq ?_
 obtain ⟨r46, hr47, h⟩ := ob h
 refine kchain (k := 4) (m := m) (es := []) (Φ := (fun i m ws v => match i with | 0 => RV kAV m v p0 | 1 => v = (.pointer (some ⟨b1, 1, none⟩)) | 2 => v = (.bool p0.fBool) | 3 => RV kAV m v r46 | _ => True)) (Q := (fun c m ws L' TL' => match c with | 0 => (b1, cs2) :: L = L' ∧ TL = TL' | _ => False)) (cs := [⟨0, 0, false, [(1, (.pointer (some ⟨b1, 0, none⟩)))]⟩, ⟨0, 0, false, [(1, (.pointer (some ⟨b1, 0, none⟩)))]⟩, ⟨0, 0, false, []⟩, ⟨0, 0, false, []⟩]) mixed hE hS ⟨rfl, rfl⟩ rfl rfl ⟨⟨rfl, trivial⟩, ⟨rfl, trivial⟩, trivial, trivial, trivial⟩ (by kernel_rfl) ?_ ?_ ?_ ?_
 {
 intro i m_ m2_ ws v hm_ hp_
 match i, hp_ with
 | 0, hp_ => exact RV.mono hp_ hm_
 | 1, hp_ => exact hp_
 | 2, hp_ => exact hp_
 | 3, hp_ => exact RV.mono hp_ hm_
 | _ + 4, hp_ => exact trivial
 }
 {
 intro c m_ m2_ ws L_ T_ hm_ hq_
 match c, hq_ with
 | 0, ⟨e1_, e2_⟩ => exact ⟨e1_, e2_⟩
 | _ + 1, hq_ => exact hq_.elim
 }
 {
 refine ⟨?_, ?_, ?_, ?_, trivial⟩
 {
 refine cplain fun pre_ post_ L_ T_ m' a' w' hl' hp' hm' hq' hS' hE' hT' => ?_
 obtain rfl := len0 hl'
 obtain rfl := len0 (lenz (a := 0) hp')
 obtain ⟨rfl, rfl⟩ := hq'
 refine Step.imp (st_loadL hE' hS' ty53 rfl (i := 0) rfl (R_whole (kAV.mono hm' hc3))) ?_
 rintro v51 _ ⟨rfl, hv44⟩
 exact ⟨_, M.le.refl _, hS', hv44⟩
 }
 {
 refine cplain fun pre_ post_ L_ T_ m' a' w' hl' hp' hm' hq' hS' hE' hT' => ?_
 obtain rfl := len0 hl'
 refine Step.imp (Run1.pure (r_fieldL hE' fo53_1 rfl)) ?_
 rintro _ _ ⟨rfl, rfl⟩
 exact ⟨_, M.le.refl _, hS', rfl⟩
 }
 {
 refine cplain fun pre_ post_ L_ T_ m' a' w' hl' hp' hm' hq' hS' hE' hT' => ?_
 obtain rfl := len0 hl'
 obtain rfl := len0 (lenz (a := 0) hp')
 obtain ⟨rfl, rfl⟩ := hq'
 obtain ⟨v53, e54, q55⟩ : ∃ v, a'.tmps.getD 15 undef = v ∧ (v = (.pointer (some ⟨b1, 1, none⟩))) := ⟨_, rfl, hT' 1 (by decide) 15 rfl⟩
 have hE := hE'.add (e54.trans q55)
 refine Step.imp (st_loadL hE hS' ty4 rfl (i := 0) rfl (fl53_1.R_drop (R_whole (kAV.mono hm' hc3)))) ?_
 rintro v56 _ ⟨rfl, hv45⟩
 obtain rfl := RV_bool hv45
 exact ⟨_, M.le.refl _, hS', rfl⟩
 }
 {
 refine cplain fun pre_ post_ L_ T_ m' a' w' hl' hp' hm' hq' hS' hE' hT' => ?_
 obtain rfl := len0 hl'
 obtain ⟨v57, e58, q59⟩ : ∃ v, a'.tmps.getD 16 undef = v ∧ (v = (.bool p0.fBool)) := ⟨_, rfl, hT' 2 (by decide) 16 rfl⟩
 have hE := hE'.add (e58.trans q59)
 refine Step.imp (st_call (vs := [(.bool p0.fBool)]) hE rfl Try.call98 (c_value_Bool (hS := hS') hr47)) ?_
 rintro v60 w ⟨m48, hm49, hS, hv50⟩
 exact ⟨_, hm49, hS, hv50⟩
 }
 }
 {
 intro ws_ L_ T_ m61 a w hl62 hm63 hq64 hS hd65 hn66 ho67 hT68
 obtain rfl := len0 hl62
 obtain ⟨rfl, rfl⟩ := hq64
 have hE := EnvD.of (k := 4) (l' := [(0, v0), (1, (.pointer (some ⟨b1, 0, none⟩))), (2, (.bool false)), (3, (.bool (p0.fKind == 0))), (4, (.pointer (some ⟨b1, 0, none⟩))), (5, (.int .i64 p0.fKind)), (6, (.bool (p0.fKind == 0))), (10, (.bool (p0.fKind == 1))), (11, (.pointer (some ⟨b1, 0, none⟩))), (12, (.int .i64 p0.fKind)), (13, (.bool (p0.fKind == 1)))]) hd65 hn66 ho67 ⟨rfl, rfl, rfl, rfl, rfl, rfl, rfl, rfl, rfl, rfl, rfl, trivial⟩ rfl
 obtain ⟨v69, e70, q71⟩ : ∃ v, a.tmps.getD 14 undef = v ∧ (RV kAV m61 v p0) := ⟨_, rfl, hT68 0 (by decide) 14 rfl⟩
 have hE := hE.add (e70)
 obtain ⟨v72, e73, q74⟩ : ∃ v, a.tmps.getD 17 undef = v ∧ (RV kAV m61 v r46) := ⟨_, rfl, hT68 3 (by decide) 17 rfl⟩
 have hE := hE.add (e73)
 refine sp hE (r_eqlK hE eq53 rfl rfl q71 q74 rfl) rfl fun a hE => ?_
 refine qa hE rfl rfl fun a hE => ?_
 refine knil (kret ?_)
 obtain rfl := oi h
 try dsimp only
 refine Fin.mk hE (rs := [.tmp 2]) rfl (ResL.tmp hE rfl ResL.nil) ?_
 exact ⟨_, hm63, (hS.dropL 1), RV_of_bool⟩
 }
 }
 {
 have h := ite_F hd43 h
 refine kseq (kreg ?_)
 refine sp hE (r_fieldL hE fo53_0 rfl) rfl fun a hE => ?_
 refine st hE (st_loadL hE hS ty3 rfl (i := 0) rfl (fl53_0.R_drop (R_whole hc3))) rfl ?_
 rintro v79 a _ ⟨rfl, hv78⟩ hE
 obtain ⟨rfl, hr80⟩ := RV_int hv78
 refine sp hE (r_bin hE rfl rfl b_eql) rfl fun a hE => ?_
 refine qa hE rfl rfl fun a hE => ?_
 refine knil ?_
 refine kif hE rfl (fun hd83 => ?_) (fun hd83 => ?_)
 {
 have h := ite_T hd83 h
 refine kseq ?_
 obtain ⟨r87, hr88, h⟩ := ob h
 refine kchain (k := 4) (m := m) (es := []) (Φ := (fun i m ws v => match i with | 0 => RV kAV m v p0 | 1 => v = (.pointer (some ⟨b1, 2, none⟩)) | 2 => v = (.int .i64 p0.fInt) ∧ inR .i64 p0.fInt | 3 => RV kAV m v r87 | _ => True)) (Q := (fun c m ws L' TL' => match c with | 0 => (b1, cs2) :: L = L' ∧ TL = TL' | _ => False)) (cs := [⟨0, 0, false, [(1, (.pointer (some ⟨b1, 0, none⟩)))]⟩, ⟨0, 0, false, [(1, (.pointer (some ⟨b1, 0, none⟩)))]⟩, ⟨0, 0, false, []⟩, ⟨0, 0, false, []⟩]) mixed hE hS ⟨rfl, rfl⟩ rfl rfl ⟨⟨rfl, trivial⟩, ⟨rfl, trivial⟩, trivial, trivial, trivial⟩ (by kernel_rfl) ?_ ?_ ?_ ?_
 {
 intro i m_ m2_ ws v hm_ hp_
 match i, hp_ with
 | 0, hp_ => exact RV.mono hp_ hm_
 | 1, hp_ => exact hp_
 | 2, hp_ => exact hp_
 | 3, hp_ => exact RV.mono hp_ hm_
 | _ + 4, hp_ => exact trivial
 }
 {
 intro c m_ m2_ ws L_ T_ hm_ hq_
 match c, hq_ with
 | 0, ⟨e1_, e2_⟩ => exact ⟨e1_, e2_⟩
 | _ + 1, hq_ => exact hq_.elim
 }
 {
 refine ⟨?_, ?_, ?_, ?_, trivial⟩
 {
 refine cplain fun pre_ post_ L_ T_ m' a' w' hl' hp' hm' hq' hS' hE' hT' => ?_
 obtain rfl := len0 hl'
 obtain rfl := len0 (lenz (a := 0) hp')
 obtain ⟨rfl, rfl⟩ := hq'
 refine Step.imp (st_loadL hE' hS' ty53 rfl (i := 0) rfl (R_whole (kAV.mono hm' hc3))) ?_
 rintro v92 _ ⟨rfl, hv84⟩
 exact ⟨_, M.le.refl _, hS', hv84⟩
 }
 {
 refine cplain fun pre_ post_ L_ T_ m' a' w' hl' hp' hm' hq' hS' hE' hT' => ?_
 obtain rfl := len0 hl'
 refine Step.imp (Run1.pure (r_fieldL hE' fo53_2 rfl)) ?_
 rintro _ _ ⟨rfl, rfl⟩
 exact ⟨_, M.le.refl _, hS', rfl⟩
 }
 {
 refine cplain fun pre_ post_ L_ T_ m' a' w' hl' hp' hm' hq' hS' hE' hT' => ?_
 obtain rfl := len0 hl'
 obtain rfl := len0 (lenz (a := 0) hp')
 obtain ⟨rfl, rfl⟩ := hq'
 obtain ⟨v94, e95, q96⟩ : ∃ v, a'.tmps.getD 24 undef = v ∧ (v = (.pointer (some ⟨b1, 2, none⟩))) := ⟨_, rfl, hT' 1 (by decide) 24 rfl⟩
 have hE := hE'.add (e95.trans q96)
 refine Step.imp (st_loadL hE hS' ty2 rfl (i := 0) rfl (fl53_2.R_drop (R_whole (kAV.mono hm' hc3)))) ?_
 rintro v97 _ ⟨rfl, hv85⟩
 obtain ⟨rfl, hr98⟩ := RV_int hv85
 exact ⟨_, M.le.refl _, hS', ⟨rfl, hr98⟩⟩
 }
 {
 refine cplain fun pre_ post_ L_ T_ m' a' w' hl' hp' hm' hq' hS' hE' hT' => ?_
 obtain rfl := len0 hl'
 obtain ⟨v99, e100, q101⟩ : ∃ v, a'.tmps.getD 25 undef = v ∧ (v = (.int .i64 p0.fInt) ∧ inR .i64 p0.fInt) := ⟨_, rfl, hT' 2 (by decide) 25 rfl⟩
 obtain ⟨q101, hr102⟩ := q101
 have hE := hE'.add (e100.trans q101)
 refine Step.imp (st_call (vs := [(.int .i64 p0.fInt)]) hE rfl Try.call90 (c_value_Int (hS := hS') hr102 hr88)) ?_
 rintro v103 w ⟨m89, hm90, hS, hv91⟩
 exact ⟨_, hm90, hS, hv91⟩
 }
 }
 {
 intro ws_ L_ T_ m104 a w hl105 hm106 hq107 hS hd108 hn109 ho110 hT111
 obtain rfl := len0 hl105
 obtain ⟨rfl, rfl⟩ := hq107
 have hE := EnvD.of (k := 4) (l' := [(0, v0), (1, (.pointer (some ⟨b1, 0, none⟩))), (2, (.bool false)), (3, (.bool (p0.fKind == 0))), (4, (.pointer (some ⟨b1, 0, none⟩))), (5, (.int .i64 p0.fKind)), (6, (.bool (p0.fKind == 0))), (10, (.bool (p0.fKind == 1))), (11, (.pointer (some ⟨b1, 0, none⟩))), (12, (.int .i64 p0.fKind)), (13, (.bool (p0.fKind == 1))), (19, (.bool (p0.fKind == 2))), (20, (.pointer (some ⟨b1, 0, none⟩))), (21, (.int .i64 p0.fKind)), (22, (.bool (p0.fKind == 2)))]) hd108 hn109 ho110 ⟨rfl, rfl, rfl, rfl, rfl, rfl, rfl, rfl, rfl, rfl, rfl, rfl, rfl, rfl, rfl, trivial⟩ rfl
 obtain ⟨v112, e113, q114⟩ : ∃ v, a.tmps.getD 23 undef = v ∧ (RV kAV m104 v p0) := ⟨_, rfl, hT111 0 (by decide) 23 rfl⟩
 have hE := hE.add (e113)
 obtain ⟨v115, e116, q117⟩ : ∃ v, a.tmps.getD 26 undef = v ∧ (RV kAV m104 v r87) := ⟨_, rfl, hT111 3 (by decide) 26 rfl⟩
 have hE := hE.add (e116)
 refine sp hE (r_eqlK hE eq53 rfl rfl q114 q117 rfl) rfl fun a hE => ?_
 refine qa hE rfl rfl fun a hE => ?_
 refine knil (kret ?_)
 obtain rfl := oi h
 try dsimp only
 refine Fin.mk hE (rs := [.tmp 2]) rfl (ResL.tmp hE rfl ResL.nil) ?_
 exact ⟨_, hm106, (hS.dropL 1), RV_of_bool⟩
 }
 }
 {
 have h := ite_F hd83 h
 refine kseq (kreg ?_)
 refine sp hE (r_fieldL hE fo53_0 rfl) rfl fun a hE => ?_
 refine st hE (st_loadL hE hS ty3 rfl (i := 0) rfl (fl53_0.R_drop (R_whole hc3))) rfl ?_
 rintro v122 a _ ⟨rfl, hv121⟩ hE
 obtain ⟨rfl, hr123⟩ := RV_int hv121
 refine sp hE (r_bin hE rfl rfl b_eql) rfl fun a hE => ?_
 refine qa hE rfl rfl fun a hE => ?_
 refine knil ?_
 refine kif hE rfl (fun hd126 => ?_) (fun hd126 => ?_)
 {
 have h := ite_T hd126 h
 refine kseq ?_
 refine kcut (fun a w => ∃ x129 : Bool, value_Right_j1 x129 = some r ∧ ∃ m', M.le m m' ∧ S W0 m' w ((b1, cs2) :: L) (TL) ∧ Env 43 a [(2, (.bool x129))]) ?_ ?_
 {
 obtain ⟨r135, hr136, h⟩ := ob h
 refine kchain (k := 4) (m := m) (es := []) (Φ := (fun i m ws v => match i with | 0 => RV kAV m v p0 | 1 => v = (.pointer (some ⟨b1, 3, none⟩)) | 2 => v = (.string (bts p0.fText)) ∧ (∀ n ∈ p0.fText, 0 ≤ n ∧ n < 256) ∧ p0.fText.length ≤ maxSz | 3 => RV kAV m v r135 | _ => True)) (Q := (fun c m ws L' TL' => match c with | 0 => (b1, cs2) :: L = L' ∧ TL = TL' | _ => False)) (cs := [⟨0, 0, false, [(1, (.pointer (some ⟨b1, 0, none⟩)))]⟩, ⟨0, 0, false, [(1, (.pointer (some ⟨b1, 0, none⟩)))]⟩, ⟨0, 0, false, []⟩, ⟨0, 0, false, []⟩]) mixed hE hS ⟨rfl, rfl⟩ rfl rfl ⟨⟨rfl, trivial⟩, ⟨rfl, trivial⟩, trivial, trivial, trivial⟩ (by kernel_rfl) ?_ ?_ ?_ ?_
 {
 intro i m_ m2_ ws v hm_ hp_
 match i, hp_ with
 | 0, hp_ => exact RV.mono hp_ hm_
 | 1, hp_ => exact hp_
 | 2, hp_ => exact hp_
 | 3, hp_ => exact RV.mono hp_ hm_
 | _ + 4, hp_ => exact trivial
 }
 {
 intro c m_ m2_ ws L_ T_ hm_ hq_
 match c, hq_ with
 | 0, ⟨e1_, e2_⟩ => exact ⟨e1_, e2_⟩
 | _ + 1, hq_ => exact hq_.elim
 }
 {
 refine ⟨?_, ?_, ?_, ?_, trivial⟩
 {
 refine cplain fun pre_ post_ L_ T_ m' a' w' hl' hp' hm' hq' hS' hE' hT' => ?_
 obtain rfl := len0 hl'
 obtain rfl := len0 (lenz (a := 0) hp')
 obtain ⟨rfl, rfl⟩ := hq'
 refine Step.imp (st_loadL hE' hS' ty53 rfl (i := 0) rfl (R_whole (kAV.mono hm' hc3))) ?_
 rintro v140 _ ⟨rfl, hv131⟩
 exact ⟨_, M.le.refl _, hS', hv131⟩
 }
 {
 refine cplain fun pre_ post_ L_ T_ m' a' w' hl' hp' hm' hq' hS' hE' hT' => ?_
 obtain rfl := len0 hl'
 refine Step.imp (Run1.pure (r_fieldL hE' fo53_3 rfl)) ?_
 rintro _ _ ⟨rfl, rfl⟩
 exact ⟨_, M.le.refl _, hS', rfl⟩
 }
 {
 refine cplain fun pre_ post_ L_ T_ m' a' w' hl' hp' hm' hq' hS' hE' hT' => ?_
 obtain rfl := len0 hl'
 obtain rfl := len0 (lenz (a := 0) hp')
 obtain ⟨rfl, rfl⟩ := hq'
 obtain ⟨v142, e143, q144⟩ : ∃ v, a'.tmps.getD 33 undef = v ∧ (v = (.pointer (some ⟨b1, 3, none⟩))) := ⟨_, rfl, hT' 1 (by decide) 33 rfl⟩
 have hE := hE'.add (e143.trans q144)
 refine Step.imp (st_loadL hE hS' ty9 rfl (i := 0) rfl (fl53_3.R_drop (R_whole (kAV.mono hm' hc3)))) ?_
 rintro v145 _ ⟨rfl, hv132⟩
 obtain ⟨rfl, hb146, hl147⟩ := RV_str hv132
 exact ⟨_, M.le.refl _, hS', ⟨rfl, hb146, hl147⟩⟩
 }
 {
 refine cplain fun pre_ post_ L_ T_ m' a' w' hl' hp' hm' hq' hS' hE' hT' => ?_
 obtain rfl := len0 hl'
 obtain ⟨v148, e149, q150⟩ : ∃ v, a'.tmps.getD 34 undef = v ∧ (v = (.string (bts p0.fText)) ∧ (∀ n ∈ p0.fText, 0 ≤ n ∧ n < 256) ∧ p0.fText.length ≤ maxSz) := ⟨_, rfl, hT' 2 (by decide) 34 rfl⟩
 obtain ⟨q150, hb151, hl152⟩ := q150
 have hE := hE'.add (e149.trans q150)
 refine Step.imp (st_call (vs := [(.string (bts p0.fText))]) hE rfl Try.call99 (c_value_Text (hS := hS') hb151 hl152 hr136)) ?_
 rintro v153 w ⟨m137, hm138, hS, hv139⟩
 exact ⟨_, hm138, hS, hv139⟩
 }
 }
 {
 intro ws_ L_ T_ m154 a w hl155 hm156 hq157 hS hd158 hn159 ho160 hT161
 obtain rfl := len0 hl155
 obtain ⟨rfl, rfl⟩ := hq157
 have hE := EnvD.of (k := 4) (l' := [(0, v0), (1, (.pointer (some ⟨b1, 0, none⟩))), (2, (.bool false)), (3, (.bool (p0.fKind == 0))), (4, (.pointer (some ⟨b1, 0, none⟩))), (5, (.int .i64 p0.fKind)), (6, (.bool (p0.fKind == 0))), (10, (.bool (p0.fKind == 1))), (11, (.pointer (some ⟨b1, 0, none⟩))), (12, (.int .i64 p0.fKind)), (13, (.bool (p0.fKind == 1))), (19, (.bool (p0.fKind == 2))), (20, (.pointer (some ⟨b1, 0, none⟩))), (21, (.int .i64 p0.fKind)), (22, (.bool (p0.fKind == 2))), (28, (.bool (p0.fKind == 3))), (29, (.pointer (some ⟨b1, 0, none⟩))), (30, (.int .i64 p0.fKind)), (31, (.bool (p0.fKind == 3)))]) hd158 hn159 ho160 ⟨rfl, rfl, rfl, rfl, rfl, rfl, rfl, rfl, rfl, rfl, rfl, rfl, rfl, rfl, rfl, rfl, rfl, rfl, rfl, trivial⟩ rfl
 obtain ⟨v162, e163, q164⟩ : ∃ v, a.tmps.getD 32 undef = v ∧ (RV kAV m154 v p0) := ⟨_, rfl, hT161 0 (by decide) 32 rfl⟩
 have hE := hE.add (e163)
 obtain ⟨v165, e166, q167⟩ : ∃ v, a.tmps.getD 35 undef = v ∧ (RV kAV m154 v r135) := ⟨_, rfl, hT161 3 (by decide) 35 rfl⟩
 have hE := hE.add (e166)
 refine sp hE (r_eqlK hE eq53 rfl rfl q164 q167 rfl) rfl fun a hE => ?_
 refine qm hE rfl rfl fun a hE => ?_
 rcases Bool.eq_false_or_eq_true (decide (p0 = r135)) with hd170 | hd170
 {
 have h := ite_T hd170 h
 refine spg hE rfl rfl rfl rfl hd170 (r_fieldL hE fo53_3 rfl) rfl fun a hE => ?_
 refine stg hE rfl rfl rfl rfl hd170 (st_loadL hE hS ty9 rfl (i := 0) rfl (fl53_3.R_drop (R_whole (kAV.mono hm156 hc3)))) rfl ?_
 rintro v173 a _ ⟨rfl, hv172⟩ hE
 obtain ⟨rfl, hb174, hl175⟩ := RV_str hv172
 refine spg hE rfl rfl rfl rfl hd170 (r_lenStr hE rfl rfl Try.underlying9) rfl fun a hE => ?_
 refine spg hE rfl rfl rfl rfl hd170 (r_bin hE rfl rfl b_leq) rfl fun a hE => ?_
 refine sp hE (r_pickT hE rfl hd170 rfl) rfl fun a hE => ?_
 refine qa hE rfl rfl fun a hE => ?_
 refine knil ?_
 exact ⟨(decide ((p0.fText.length : Int) ≤ 64)), h, _, hm156, hS, hE.cut ⟨rfl, trivial⟩⟩
 }
 {
 have h := ite_F hd170 h
 refine sx hE rfl rfl rfl rfl hd170 rfl fun a hE => ?_
 refine sx hE rfl rfl rfl rfl hd170 rfl fun a hE => ?_
 refine sx hE rfl rfl rfl rfl hd170 rfl fun a hE => ?_
 refine sx hE rfl rfl rfl rfl hd170 rfl fun a hE => ?_
 refine sp hE (r_pickF hE rfl hd170 rfl) rfl fun a hE => ?_
 refine qa hE rfl rfl fun a hE => ?_
 refine knil ?_
 exact ⟨false, h, _, hm156, hS, hE.cut ⟨rfl, trivial⟩⟩
 }
 }
 }
 {
 rintro a w ⟨x129, h, m127, hm128, hS, hE⟩
 unfold value_Right_j1 at h
 refine kret ?_
 obtain rfl := oi h
 try dsimp only
 refine Fin.mk hE (rs := [.tmp 2]) rfl (ResL.tmp hE rfl ResL.nil) ?_
 exact ⟨_, hm128, (hS.dropL 1), RV_of_bool⟩
 }
 }
 {
 have h := ite_F hd126 h
 refine kskip (kseq (kreg ?_))
 refine qa hE rfl rfl fun a hE => ?_
 refine knil (kret ?_)
 obtain rfl := oi h
 try dsimp only
 refine Fin.mk hE (rs := [.tmp 2]) rfl (ResL.tmp hE rfl ResL.nil) ?_
 exact ⟨_, (M.le.refl _), (hS.dropL 1), RV_of_bool⟩
 }
 }
 }
 }
theorem c_encode_Encode_1 {W0 : Bse} {m : M} {w : World} {L : List (Nat × List Value)} {TL : List (Nat × Value)} (hS : S W0 m w (L) (TL)) {v0 : Value} {p0 : AV} (ha0 : RV kAV m v0 p0) {r : Bool} (h : encode_Encode_1 p0 = some r) :
    Calls Try.prog 53 [v0].toArray w (Ret fun v w' => ∃ m', M.le m m' ∧ S W0 m' w' (L) (TL) ∧ RV kBool m' v r) := by
 refine kcall Try.func53 rfl Try.ntmps53 (Nat.le_of_ble_eq_true rfl) fun a hE => ?_
 have hE : Env 6 a [(0, v0)] := hE
 unfold encode_Encode_1 at h
 refine kseq (kreg ?_)
 refine st hE (st_box (k := kAV) hE hS rfl ha0) rfl ?_
 rintro _ a w ⟨b1, cs2, rfl, hc3, hS⟩ hE
 refine qa hE rfl rfl fun a hE => ?_
 refine knil (kseq (kreg ?_))
 refine st hE (st_loadL hE hS ty53 rfl (i := 0) rfl (R_whole hc3)) rfl ?_
 rintro v7 a _ ⟨rfl, hv6⟩ hE
 obtain ⟨r8, hr9, h⟩ := ob h
 refine st hE (st_call (vs := [v7]) hE rfl Try.call54 (c_value_Right (hS := hS) hv6 hr9)) rfl ?_
 rintro v13 a w ⟨m10, hm11, hS, hv12⟩ hE
 obtain rfl := RV_bool hv12
 refine sp hE (r_not hE rfl) rfl fun a hE => ?_
 refine qa hE rfl rfl fun a hE => ?_
 refine knil (kret ?_)
 obtain rfl := oi h
 try dsimp only
 refine Fin.mk hE (rs := [.tmp 2]) rfl (ResL.tmp hE rfl ResL.nil) ?_
 exact ⟨_, hm11, (hS.dropL 1), RV_of_bool⟩
theorem c_encode_ints {W0 : Bse} {m : M} {w : World} {L : List (Nat × List Value)} {TL : List (Nat × Value)} (hS : S W0 m w (L) (TL)) {v0 : Value} {p0 : (List AV)} (ha0 : RV (kSl kAV) m v0 p0) {r : ((List Int) × Bool)} (h : encode_ints p0 = some r) :
    Calls Try.prog 55 [v0].toArray w (Ret fun v w' => ∃ m', M.le m m' ∧ S W0 m' w' (L) (TL) ∧ ∃ v0_ v1_ : Value, v = .tuple #[v0_, v1_] ∧ RV (kSl (kInt .i64)) m' v0_ r.1 ∧ RV kBool m' v1_ r.2) := by
 refine kcall Try.func55 rfl Try.ntmps55 (Nat.le_of_ble_eq_true rfl) fun a hE => ?_
 have hE : Env 23 a [(0, v0)] := hE
 unfold encode_ints at h
 refine kseq (kreg ?_)
 refine qa hE rfl rfl fun a hE => ?_
 refine qa hE rfl rfl fun a hE => ?_
 refine knil (kseq (kreg ?_))
 refine qa hE rfl rfl fun a hE => ?_
 refine knil (kseq (kseq (kreg ?_)))
 refine qm hE rfl rfl fun a hE => ?_
 refine sp hE (r_lenSl (k := kAV) hE rfl rfl Try.underlying29 ha0) rfl fun a hE => ?_
 refine qm hE rfl rfl fun a hE => ?_
 refine knil ?_
 refine kcut (fun a w => ∃ x9 : (List Int), encode_ints_j1 x9 = some r ∧ ∃ m', M.le m m' ∧ ∃ (v10 : Value), RV (kSl (kInt .i64)) m' v10 x9 ∧ S W0 m' w (L) ((1, v10) :: TL) ∧ Env 23 a [(4, v10)]) ?_ ?_
 {
 refine kblock ?_
 refine kloop h (fun (s : ((List Int) × Int)) a w => ∃ m', M.le m m' ∧ ∃ (v19 : Value), RV (kSl (kInt .i64)) m' v19 s.1 ∧ inR .i64 s.2 ∧ S W0 m' w (L) ((1, v19) :: TL) ∧ Env 23 a [(4, v19), (7, v0), (8, (.int .i64 (p0.length : Int))), (9, (.int .i64 s.2))]) ?_ ?_
 {
 exact ⟨_, (M.le.refl _), (.slice none 0 0), RV_nil, (show inR .i64 0 from inR_lit (by decide)), (hS.tail0 1), hE.cut ⟨rfl, rfl, rfl, rfl, trivial⟩⟩
 }
 {
 rintro ⟨x18, x21⟩ a w ⟨m16, hm17, v19, hv20, hr22, hS, hE⟩ r23 h hb24
 have h : encode_ints_b1 p0 x18 x21 = some r23 := h
 unfold encode_ints_b1 at h
 refine kseq (kreg ?_)
 refine sp hE (r_bin hE rfl rfl b_lss) rfl fun a hE => ?_
 refine knil (kseq ?_)
 refine kif hE rfl (fun hd26 => ?_) (fun hd26 => ?_)
 {
 have h := ite_T hd26 h
 refine kskip (kseq (kblock (kseq (kreg ?_))))
 obtain ⟨x27, hx28, h⟩ := ob h
 refine st hE (st_index (k := kAV) hE rfl rfl Try.underlying29 Try.sizeOf53 (ha0.mono hm17) hx28) rfl ?_
 rintro v30 a _ ⟨rfl, hp29⟩ hE
 refine st hE (st_loadM hE hS ty53 rfl hp29) rfl ?_
 rintro v32 a _ ⟨rfl, hv31⟩ hE
 refine st hE (st_alloc hS Try.zeroValue53 rfl (cs := zc53)) rfl ?_
 rintro _ a w ⟨b33, rfl, hS⟩ hE
 refine st0 hE (st_storeF hE hS ty53 StF_self rfl rfl hv31 (i := 0) rfl (zr53 _)) ?_
 rintro _ w ⟨cs35, hc36, hS⟩ hE
 refine knil (kseq (kseq (kreg ?_)))
 refine sp hE (r_fieldL hE fo53_0 rfl) rfl fun a hE => ?_
 refine st hE (st_loadL hE hS ty3 rfl (i := 0) rfl (fl53_0.R_drop (R_whole hc36))) rfl ?_
 rintro v40 a _ ⟨rfl, hv39⟩ hE
 obtain ⟨rfl, hr41⟩ := RV_int hv39
 refine sp hE (r_bin hE rfl rfl b_neq) rfl fun a hE => ?_
 refine knil ?_
 refine kif hE rfl (fun hd43 => ?_) (fun hd43 => ?_)
 {
 have h := ite_T hd43 h
 refine kseq (kreg ?_)
 refine qa hE rfl rfl fun a hE => ?_
 refine qa hE rfl rfl fun a hE => ?_
 refine knil (kret ?_)
 have h := unwrap h hb24
 obtain rfl := oi h
 try dsimp only
 refine Fin.mk hE (rs := [.tmp 2, .tmp 3]) rfl (ResL.tmp hE rfl (ResL.tmp hE rfl ResL.nil)) ?_
 exact ⟨_, hm17, ((hS.dropL 1).dropT 1), _, _, rfl, RV_nil, RV_of_bool⟩
 }
 {
 have h := ite_F hd43 h
 refine kskip (kreg ?_)
 refine qm hE rfl rfl fun a hE => ?_
 refine sp hE (r_fieldL hE fo53_2 rfl) rfl fun a hE => ?_
 refine st hE (st_loadL hE hS ty2 rfl (i := 0) rfl (fl53_2.R_drop (R_whole hc36))) rfl ?_
 rintro v49 a _ ⟨rfl, hv48⟩ hE
 obtain ⟨rfl, hr50⟩ := RV_int hv48
 refine st hE (st_lit (k := (kInt .i64)) (xs := [x27.fInt]) (vs := [(.int .i64 x27.fInt)]) hE hS rfl Try.underlying93 Try.sizeOf2 Try.zeroValue2 ⟨(RV_of_int hr50), trivial⟩ rfl (by decide)) rfl ?_
 rintro v54 a w ⟨m52, hm53, hS, hv51⟩ hE
 obtain ⟨z55, hz56, h⟩ := ob h
 refine st hE (st_app (k := (kInt .i64)) (N := 17592186044416) hE hS rfl rfl Try.underlying93 Try.underlying93 el2 (i := 1) rfl (hv20.mono hm53) hv51 hz56 rfl rfl) rfl ?_
 rintro v60 a w ⟨m58, hm59, hS, hv57⟩ hE
 refine qa hE rfl rfl fun a hE => ?_
 refine knil (kreg ?_)
 refine sp hE (r_bin hE rfl rfl (b_add rfl)) rfl fun a hE => ?_
 refine qm hE rfl rfl fun a hE => ?_
 refine knil ?_
 exact ⟨(z55, IntKind.i64.wrap (x21 + 1)), (Option.some.inj h).symm, _, (M.le.trans hm17 (M.le.trans hm53 hm59)), v60, hv57, (inR_wrap _ _), ((hS.pickL 1 [] rfl rfl rfl).pickT 2 [1] rfl rfl rfl), hE.cut ⟨rfl, rfl, rfl, rfl, trivial⟩⟩
 }
 }
 {
 have h := ite_F hd26 h
 refine kexit rfl rfl ?_
 have h := unwrap h hb24
 exact ⟨x18, h, _, hm17, v19, hv20, hS, hE.cut ⟨rfl, trivial⟩⟩
 }
 }
 }
 {
 rintro a w ⟨x9, h, m7, hm8, v10, hv11, hS, hE⟩
 unfold encode_ints_j1 at h
 refine kseq (kreg ?_)
 refine qm hE rfl rfl fun a hE => ?_
 refine qa hE rfl rfl fun a hE => ?_
 refine qa hE rfl rfl fun a hE => ?_
 refine knil (kret ?_)
 obtain rfl := oi h
 try dsimp only
 refine Fin.mk hE (rs := [.tmp 2, .tmp 3]) rfl (ResL.tmp hE rfl (ResL.tmp hE rfl ResL.nil)) ?_
 exact ⟨_, hm8, (hS.dropT 1), _, _, rfl, hv11, RV_of_bool⟩
 }
theorem c_encode_Runs {W0 : Bse} {m : M} {w : World} {L : List (Nat × List Value)} {TL : List (Nat × Value)} (hS : S W0 m w (L) (TL)) {v0 : Value} {p0 : (List AV)} (ha0 : RV (kSl kAV) m v0 p0) {r : (List Encode_Run)} (h : encode_Runs p0 = some r) :
    Calls Try.prog 27 [v0].toArray w (Ret fun v w' => ∃ m', M.le m m' ∧ S W0 m' w' (L) (TL) ∧ RV (kSl kEncode_Run) m' v r) := by
 refine kcall Try.func27 rfl Try.ntmps27 (Nat.le_of_ble_eq_true rfl) fun a hE => ?_
 have hE : Env 48 a [(0, v0)] := hE
 unfold encode_Runs at h
 refine kseq (kreg ?_)
 refine qa hE rfl rfl fun a hE => ?_
 refine knil (kscope (kseq (kreg ?_)))
 refine qa hE rfl rfl fun a hE => ?_
 refine knil (kseq (klabel (kseq (kseq (kreg ?_)))))
 refine qm hE rfl rfl fun a hE => ?_
 refine sp hE (r_lenSl (k := kAV) hE rfl rfl Try.underlying29 ha0) rfl fun a hE => ?_
 refine qm hE rfl rfl fun a hE => ?_
 refine knil ?_
 refine kcut (fun a w => ∃ x8 : (List Encode_Run), encode_Runs_j1 x8 = some r ∧ ∃ m', M.le m m' ∧ ∃ (v9 : Value), RV (kSl kEncode_Run) m' v9 x8 ∧ S W0 m' w (L) (TL) ∧ Env 48 a [(3, v9)]) ?_ ?_
 {
 refine kblock ?_
 refine kloop h (fun (s : (Int × (List Encode_Run))) a w => ∃ m', M.le m m' ∧ ∃ (cs19 : List Value), ∃ (b21 : Nat), ∃ (v22 : Value), inR .i64 s.1 ∧ GS kEncode_Run m' b21 cs19 v22 s.2 ∧ S W0 m' w ((b21, cs19) :: L) (TL) ∧ Env 48 a [(3, v22), (7, v0), (8, (.int .i64 (p0.length : Int))), (9, (.int .i64 s.1))]) ?_ ?_
 {
 exact ⟨_, (M.le.refl _), [], 0, (.slice none 0 0), (show inR .i64 0 from inR_lit (by decide)), GS.void, (hS.void 0), hE.cut ⟨rfl, rfl, rfl, rfl, trivial⟩⟩
 }
 {
 rintro ⟨x16, x18⟩ a w ⟨m14, hm15, cs19, b21, v22, hr17, hc20, hS, hE⟩ r23 h hb24
 have h : encode_Runs_b1 p0 x16 x18 = some r23 := h
 unfold encode_Runs_b1 at h
 refine kseq (kreg ?_)
 refine sp hE (r_bin hE rfl rfl b_lss) rfl fun a hE => ?_
 refine knil (kseq ?_)
 refine kif hE rfl (fun hd26 => ?_) (fun hd26 => ?_)
 {
 have h := ite_T hd26 h
 refine kskip (kseq ?_)
 refine kcut (fun a w => ∃ x29 : (List Encode_Run), encode_Runs_j2 x16 x29 = some r23 ∧ ∃ m', M.le m14 m' ∧ ∃ (cs30 : List Value), ∃ (b32 : Nat), ∃ (v33 : Value), GS kEncode_Run m' b32 cs30 v33 x29 ∧ S W0 m' w ((b32, cs30) :: L) (TL) ∧ Env 48 a [(3, v33), (7, v0), (8, (.int .i64 (p0.length : Int))), (9, (.int .i64 x16))]) ?_ ?_
 {
 refine kblock (kseq (kreg ?_))
 obtain ⟨x37, hx38, h⟩ := ob h
 refine st hE (st_index (k := kAV) hE rfl rfl Try.underlying29 Try.sizeOf53 (ha0.mono hm15) hx38) rfl ?_
 rintro v40 a _ ⟨rfl, hp39⟩ hE
 refine st hE (st_loadM hE hS ty53 rfl hp39) rfl ?_
 rintro v42 a _ ⟨rfl, hv41⟩ hE
 refine st hE (st_alloc hS Try.zeroValue53 rfl (cs := zc53)) rfl ?_
 rintro _ a w ⟨b43, rfl, hS⟩ hE
 refine st0 hE (st_storeF hE hS ty53 StF_self rfl rfl hv41 (i := 0) rfl (zr53 _)) ?_
 rintro _ w ⟨cs45, hc46, hS⟩ hE
 refine knil (kseq (kseq (kreg ?_)))
 refine qm hE rfl rfl fun a hE => ?_
 refine sp hE (r_lenG (k := kEncode_Run) hE rfl rfl Try.underlying48 hc20) rfl fun a hE => ?_
 refine qm hE rfl rfl fun a hE => ?_
 refine knil ?_
 refine kcut (fun a w => encode_Runs_j3 x16 x18 x37 = some r23 ∧ ∃ m', M.le m14 m' ∧ S W0 m' w ((b43, cs45) :: (b21, cs19) :: L) (TL) ∧ Env 48 a [(3, v22), (5, (.pointer (some ⟨b43, 0, none⟩))), (7, v0), (8, (.int .i64 (p0.length : Int))), (9, (.int .i64 x16))]) ?_ ?_
 {
 refine kblock ?_
 refine kloop h (fun (s : Int) a w => ∃ m', M.le m14 m' ∧ inR .i64 s ∧ S W0 m' w ((b43, cs45) :: (b21, cs19) :: L) (TL) ∧ Env 48 a [(3, v22), (5, (.pointer (some ⟨b43, 0, none⟩))), (7, v0), (8, (.int .i64 (p0.length : Int))), (9, (.int .i64 x16)), (14, (.int .i64 (x18.length : Int))), (15, (.int .i64 s))]) ?_ ?_
 {
 exact ⟨_, (M.le.refl _), (show inR .i64 0 from inR_lit (by decide)), hS, hE.cut ⟨rfl, rfl, rfl, rfl, rfl, rfl, rfl, trivial⟩⟩
 }
 {
 rintro x75 a w ⟨m73, hm74, hr76, hS, hE⟩ r77 h hb78
 have h : encode_Runs_b2 x16 x18 x37 x75 = some r77 := h
 unfold encode_Runs_b2 at h
 refine kseq (kreg ?_)
 refine sp hE (r_bin hE rfl rfl b_lss) rfl fun a hE => ?_
 refine knil (kseq ?_)
 refine kif hE rfl (fun hd80 => ?_) (fun hd80 => ?_)
 {
 have h := ite_T hd80 h
 refine kskip (kseq (kblock (kseq (kreg ?_))))
 refine qm hE rfl rfl fun a hE => ?_
 refine qa hE rfl rfl fun a hE => ?_
 refine knil (kseq ?_)
 refine kcut (fun a w => ∃ x85 : Bool, encode_Runs_j4 x16 x18 x75 x85 = some r77 ∧ ∃ m', M.le m73 m' ∧ S W0 m' w ((b43, cs45) :: (b21, cs19) :: L) (TL) ∧ Env 48 a [(3, v22), (5, (.pointer (some ⟨b43, 0, none⟩))), (6, (.int .i64 x75)), (7, v0), (8, (.int .i64 (p0.length : Int))), (9, (.int .i64 x16)), (14, (.int .i64 (x18.length : Int))), (15, (.int .i64 x75)), (31, (.bool x85))]) ?_ ?_
 {
 rcases Bool.eq_false_or_eq_true (x75 == (IntKind.i64.wrap ((x18.length : Int) - 1))) with hd111 | hd111
 {
 have h := ite_T hd111 h
 obtain ⟨j112, hj113, h⟩ := ob h
 obtain ⟨x115, hx116, h⟩ := ob h
 refine kchain (k := 12) (m := m73) (es := []) (Φ := (fun i m ws v => match i with | 0 => v = (.int .i64 x75) ∧ inR .i64 x75 | 1 => v = v22 | 2 => v = (.int .i64 (x18.length : Int)) ∧ inR .i64 (x18.length : Int) | 3 => v = (.int .i64 (IntKind.i64.wrap ((x18.length : Int) - 1))) ∧ inR .i64 (IntKind.i64.wrap ((x18.length : Int) - 1)) | 4 => v = (.bool (x75 == (IntKind.i64.wrap ((x18.length : Int) - 1)))) | 5 => v = (.bool (x75 == (IntKind.i64.wrap ((x18.length : Int) - 1)))) | 6 => v = v22 | 7 => v = (.int .i64 x75) ∧ inR .i64 x75 | 8 => v = (.pointer (some ⟨b21, j112 * 5, none⟩)) | 9 => v = (.pointer (some ⟨b21, j112 * 5 + 1, none⟩)) | 10 => RV kAV m v x115.fValue | 11 => RV kAV m v x37 | _ => True)) (Q := (fun c m ws L' TL' => match c with | 0 => (b43, cs45) :: (b21, cs19) :: L = L' ∧ TL = TL' | _ => False)) (cs := [⟨0, 0, false, [(6, (.int .i64 x75))]⟩, ⟨0, 0, false, [(3, v22)]⟩, ⟨0, 0, false, []⟩, ⟨0, 0, false, []⟩, ⟨0, 0, false, []⟩, ⟨0, 0, false, []⟩, ⟨0, 0, false, [(3, v22)]⟩, ⟨0, 0, false, [(6, (.int .i64 x75))]⟩, ⟨0, 0, false, []⟩, ⟨0, 0, false, []⟩, ⟨0, 0, false, []⟩, ⟨0, 0, false, [(5, (.pointer (some ⟨b43, 0, none⟩)))]⟩]) mixed hE hS ⟨rfl, rfl⟩ rfl rfl ⟨⟨rfl, trivial⟩, ⟨rfl, trivial⟩, trivial, trivial, trivial, trivial, ⟨rfl, trivial⟩, ⟨rfl, trivial⟩, trivial, trivial, trivial, ⟨rfl, trivial⟩, trivial⟩ (by kernel_rfl) ?_ ?_ ?_ ?_
 {
 intro i m_ m2_ ws v hm_ hp_
 match i, hp_ with
 | 0, hp_ => exact hp_
 | 1, hp_ => exact hp_
 | 2, hp_ => exact hp_
 | 3, hp_ => exact hp_
 | 4, hp_ => exact hp_
 | 5, hp_ => exact hp_
 | 6, hp_ => exact hp_
 | 7, hp_ => exact hp_
 | 8, hp_ => exact hp_
 | 9, hp_ => exact hp_
 | 10, hp_ => exact RV.mono hp_ hm_
 | 11, hp_ => exact RV.mono hp_ hm_
 | _ + 12, hp_ => exact trivial
 }
 {
 intro c m_ m2_ ws L_ T_ hm_ hq_
 match c, hq_ with
 | 0, ⟨e1_, e2_⟩ => exact ⟨e1_, e2_⟩
 | _ + 1, hq_ => exact hq_.elim
 }
 {
 refine ⟨?_, ?_, ?_, ?_, ?_, ?_, ?_, ?_, ?_, ?_, ?_, ?_, trivial⟩
 {
 refine cplain fun pre_ post_ L_ T_ m' a' w' hl' hp' hm' hq' hS' hE' hT' => ?_
 obtain rfl := len0 hl'
 refine Step.imp (Run1.pure (r_move hE' rfl)) ?_
 rintro _ _ ⟨rfl, rfl⟩
 exact ⟨_, M.le.refl _, hS', ⟨rfl, hr76⟩⟩
 }
 {
 refine cplain fun pre_ post_ L_ T_ m' a' w' hl' hp' hm' hq' hS' hE' hT' => ?_
 obtain rfl := len0 hl'
 refine Step.imp (Run1.pure (r_move hE' rfl)) ?_
 rintro _ _ ⟨rfl, rfl⟩
 exact ⟨_, M.le.refl _, hS', rfl⟩
 }
 {
 refine cplain fun pre_ post_ L_ T_ m' a' w' hl' hp' hm' hq' hS' hE' hT' => ?_
 obtain rfl := len0 hl'
 obtain rfl := len0 (lenz (a := 0) hp')
 obtain ⟨rfl, rfl⟩ := hq'
 obtain ⟨v120, e121, q122⟩ : ∃ v, a'.tmps.getD 19 undef = v ∧ (v = v22) := ⟨_, rfl, hT' 1 (by decide) 19 rfl⟩
 have hE := hE'.add (e121.trans q122)
 refine Step.imp (Run1.pure (r_lenG (k := kEncode_Run) hE rfl rfl Try.underlying48 (hc20.mono (M.le.trans hm74 hm')))) ?_
 rintro _ _ ⟨rfl, rfl⟩
 exact ⟨_, M.le.refl _, hS', ⟨rfl, (inR_len (GS.len (hc20.mono (M.le.trans hm74 hm'))))⟩⟩
 }
 {
 refine cplain fun pre_ post_ L_ T_ m' a' w' hl' hp' hm' hq' hS' hE' hT' => ?_
 obtain rfl := len0 hl'
 obtain ⟨v124, e125, q126⟩ : ∃ v, a'.tmps.getD 20 undef = v ∧ (v = (.int .i64 (x18.length : Int)) ∧ inR .i64 (x18.length : Int)) := ⟨_, rfl, hT' 2 (by decide) 20 rfl⟩
 obtain ⟨q126, hr127⟩ := q126
 have hE := hE'.add (e125.trans q126)
 refine Step.imp (Run1.pure (r_bin hE rfl rfl (b_sub rfl))) ?_
 rintro _ _ ⟨rfl, rfl⟩
 exact ⟨_, M.le.refl _, hS', ⟨rfl, (inR_wrap _ _)⟩⟩
 }
 {
 refine cplain fun pre_ post_ L_ T_ m' a' w' hl' hp' hm' hq' hS' hE' hT' => ?_
 obtain rfl := len0 hl'
 obtain ⟨v129, e130, q131⟩ : ∃ v, a'.tmps.getD 18 undef = v ∧ (v = (.int .i64 x75) ∧ inR .i64 x75) := ⟨_, rfl, hT' 0 (by decide) 18 rfl⟩
 obtain ⟨q131, hr132⟩ := q131
 have hE := hE'.add (e130.trans q131)
 obtain ⟨v133, e134, q135⟩ : ∃ v, a'.tmps.getD 21 undef = v ∧ (v = (.int .i64 (IntKind.i64.wrap ((x18.length : Int) - 1))) ∧ inR .i64 (IntKind.i64.wrap ((x18.length : Int) - 1))) := ⟨_, rfl, hT' 3 (by decide) 21 rfl⟩
 obtain ⟨q135, hr136⟩ := q135
 have hE := hE.add (e134.trans q135)
 refine Step.imp (Run1.pure (r_bin hE rfl rfl b_eql)) ?_
 rintro _ _ ⟨rfl, rfl⟩
 exact ⟨_, M.le.refl _, hS', rfl⟩
 }
 {
 refine cplain fun pre_ post_ L_ T_ m' a' w' hl' hp' hm' hq' hS' hE' hT' => ?_
 obtain rfl := len0 hl'
 obtain ⟨v138, e139, q140⟩ : ∃ v, a'.tmps.getD 22 undef = v ∧ (v = (.bool (x75 == (IntKind.i64.wrap ((x18.length : Int) - 1))))) := ⟨_, rfl, hT' 4 (by decide) 22 rfl⟩
 have hE := hE'.add (e139.trans q140)
 refine Step.imp (Run1.pure (r_move hE rfl)) ?_
 rintro _ _ ⟨rfl, rfl⟩
 exact ⟨_, M.le.refl _, hS', rfl⟩
 }
 {
 refine cguard rfl rfl (by decide) (fun _ _ _ h_ => Eq.trans h_ (cb hd111)) fun pre_ post_ L_ T_ m' a' w' hl' hp' hm' hq' hS' hE' hT' => ?_
 obtain rfl := len0 hl'
 refine Step.imp (Run1.pure (r_move hE' rfl)) ?_
 rintro _ _ ⟨rfl, rfl⟩
 exact ⟨_, M.le.refl _, hS', rfl⟩
 }
 {
 refine cguard rfl rfl (by decide) (fun _ _ _ h_ => Eq.trans h_ (cb hd111)) fun pre_ post_ L_ T_ m' a' w' hl' hp' hm' hq' hS' hE' hT' => ?_
 obtain rfl := len0 hl'
 refine Step.imp (Run1.pure (r_move hE' rfl)) ?_
 rintro _ _ ⟨rfl, rfl⟩
 exact ⟨_, M.le.refl _, hS', ⟨rfl, hr76⟩⟩
 }
 {
 refine cguard rfl rfl (by decide) (fun _ _ _ h_ => Eq.trans h_ (cb hd111)) fun pre_ post_ L_ T_ m' a' w' hl' hp' hm' hq' hS' hE' hT' => ?_
 obtain rfl := len0 hl'
 obtain rfl := len0 (lenz (a := 0) hp')
 obtain ⟨rfl, rfl⟩ := hq'
 obtain ⟨v144, e145, q146⟩ : ∃ v, a'.tmps.getD 24 undef = v ∧ (v = v22) := ⟨_, rfl, hT' 6 (by decide) 24 rfl⟩
 have hE := hE'.add (e145.trans q146)
 obtain ⟨v147, e148, q149⟩ : ∃ v, a'.tmps.getD 25 undef = v ∧ (v = (.int .i64 x75) ∧ inR .i64 x75) := ⟨_, rfl, hT' 7 (by decide) 25 rfl⟩
 obtain ⟨q149, hr150⟩ := q149
 have hE := hE.add (e148.trans q149)
 refine Step.imp (Run1.pure (r_indexG (k := kEncode_Run) hE rfl rfl Try.underlying48 Try.sizeOf55 (hc20.mono (M.le.trans hm74 hm')) hj113 rfl)) ?_
 rintro _ _ ⟨rfl, rfl⟩
 exact ⟨_, M.le.refl _, hS', rfl⟩
 }
 {
 refine cguard rfl rfl (by decide) (fun _ _ _ h_ => Eq.trans h_ (cb hd111)) fun pre_ post_ L_ T_ m' a' w' hl' hp' hm' hq' hS' hE' hT' => ?_
 obtain rfl := len0 hl'
 obtain ⟨v152, e153, q154⟩ : ∃ v, a'.tmps.getD 26 undef = v ∧ (v = (.pointer (some ⟨b21, j112 * 5, none⟩))) := ⟨_, rfl, hT' 8 (by decide) 26 rfl⟩
 have hE := hE'.add (e153.trans q154)
 refine Step.imp (Run1.pure (r_fieldL hE fo55_1 rfl)) ?_
 rintro _ _ ⟨rfl, rfl⟩
 exact ⟨_, M.le.refl _, hS', rfl⟩
 }
 {
 refine cguard rfl rfl (by decide) (fun _ _ _ h_ => Eq.trans h_ (cb hd111)) fun pre_ post_ L_ T_ m' a' w' hl' hp' hm' hq' hS' hE' hT' => ?_
 obtain rfl := len0 hl'
 obtain rfl := len0 (lenz (a := 0) hp')
 obtain ⟨rfl, rfl⟩ := hq'
 obtain ⟨v156, e157, q158⟩ : ∃ v, a'.tmps.getD 27 undef = v ∧ (v = (.pointer (some ⟨b21, j112 * 5 + 1, none⟩))) := ⟨_, rfl, hT' 9 (by decide) 27 rfl⟩
 have hE := hE'.add (e157.trans q158)
 refine Step.imp (st_loadL hE hS' ty53 rfl (i := 1) rfl (fl55_1.R_drop (GS.elem (hc20.mono (M.le.trans hm74 hm')) hx116))) ?_
 rintro v159 _ ⟨rfl, hv114⟩
 exact ⟨_, M.le.refl _, hS', hv114⟩
 }
 {
 refine cguard rfl rfl (by decide) (fun _ _ _ h_ => Eq.trans h_ (cb hd111)) fun pre_ post_ L_ T_ m' a' w' hl' hp' hm' hq' hS' hE' hT' => ?_
 obtain rfl := len0 hl'
 obtain rfl := len0 (lenz (a := 0) hp')
 obtain ⟨rfl, rfl⟩ := hq'
 refine Step.imp (st_loadL hE' hS' ty53 rfl (i := 0) rfl (R_whole (kAV.mono (M.le.trans hm74 hm') hc46))) ?_
 rintro v160 _ ⟨rfl, hv117⟩
 exact ⟨_, M.le.refl _, hS', hv117⟩
 }
 }
 {
 intro ws_ L_ T_ m161 a w hl162 hm163 hq164 hS hd165 hn166 ho167 hT168
 obtain rfl := len0 hl162
 obtain ⟨rfl, rfl⟩ := hq164
 have hE := EnvD.of (k := 12) (l' := [(3, v22), (5, (.pointer (some ⟨b43, 0, none⟩))), (6, (.int .i64 x75)), (7, v0), (8, (.int .i64 (p0.length : Int))), (9, (.int .i64 x16)), (14, (.int .i64 (x18.length : Int))), (15, (.int .i64 x75)), (16, (.bool (decide (x75 < (x18.length : Int))))), (17, (.int .i64 x75))]) hd165 hn166 ho167 ⟨rfl, rfl, rfl, rfl, rfl, rfl, rfl, rfl, rfl, rfl, trivial⟩ rfl
 obtain ⟨v169, e170, q171⟩ : ∃ v, a.tmps.getD 23 undef = v ∧ (v = (.bool (x75 == (IntKind.i64.wrap ((x18.length : Int) - 1))))) := ⟨_, rfl, hT168 5 (by decide) 23 rfl⟩
 have hE := hE.add (e170.trans q171)
 obtain ⟨v172, e173, q174⟩ : ∃ v, a.tmps.getD 24 undef = v ∧ (v = v22) := ⟨_, rfl, hT168 6 (by decide) 24 rfl⟩
 have hE := hE.add (e173.trans q174)
 obtain ⟨v175, e176, q177⟩ : ∃ v, a.tmps.getD 25 undef = v ∧ (v = (.int .i64 x75) ∧ inR .i64 x75) := ⟨_, rfl, hT168 7 (by decide) 25 rfl⟩
 obtain ⟨q177, hr178⟩ := q177
 have hE := hE.add (e176.trans q177)
 obtain ⟨v179, e180, q181⟩ : ∃ v, a.tmps.getD 26 undef = v ∧ (v = (.pointer (some ⟨b21, j112 * 5, none⟩))) := ⟨_, rfl, hT168 8 (by decide) 26 rfl⟩
 have hE := hE.add (e180.trans q181)
 obtain ⟨v182, e183, q184⟩ : ∃ v, a.tmps.getD 27 undef = v ∧ (v = (.pointer (some ⟨b21, j112 * 5 + 1, none⟩))) := ⟨_, rfl, hT168 9 (by decide) 27 rfl⟩
 have hE := hE.add (e183.trans q184)
 obtain ⟨v185, e186, q187⟩ : ∃ v, a.tmps.getD 28 undef = v ∧ (RV kAV m161 v x115.fValue) := ⟨_, rfl, hT168 10 (by decide) 28 rfl⟩
 have hE := hE.add (e186)
 obtain ⟨v188, e189, q190⟩ : ∃ v, a.tmps.getD 29 undef = v ∧ (RV kAV m161 v x37) := ⟨_, rfl, hT168 11 (by decide) 29 rfl⟩
 have hE := hE.add (e189)
 refine spg hE rfl rfl rfl rfl hd111 (r_eqlK hE eq53 rfl rfl q187 q190 rfl) rfl fun a hE => ?_
 refine sp hE (r_pickT hE rfl hd111 rfl) rfl fun a hE => ?_
 refine knil ?_
 exact ⟨(decide (x115.fValue = x37)), h, _, hm163, hS, hE.cut ⟨rfl, rfl, rfl, rfl, rfl, rfl, rfl, rfl, rfl, trivial⟩⟩
 }
 }
 {
 have h := ite_F hd111 h
 refine kchain (k := 12) (m := m73) (es := []) (Φ := (fun i m ws v => match i with | 0 => v = (.int .i64 x75) ∧ inR .i64 x75 | 1 => v = v22 | 2 => v = (.int .i64 (x18.length : Int)) ∧ inR .i64 (x18.length : Int) | 3 => v = (.int .i64 (IntKind.i64.wrap ((x18.length : Int) - 1))) ∧ inR .i64 (IntKind.i64.wrap ((x18.length : Int) - 1)) | 4 => v = (.bool (x75 == (IntKind.i64.wrap ((x18.length : Int) - 1)))) | 5 => v = (.bool (x75 == (IntKind.i64.wrap ((x18.length : Int) - 1)))) | 6 => v = undef | 7 => v = undef | 8 => v = undef | 9 => v = undef | 10 => v = undef | 11 => v = undef | _ => True)) (Q := (fun c m ws L' TL' => match c with | 0 => (b43, cs45) :: (b21, cs19) :: L = L' ∧ TL = TL' | _ => False)) (cs := [⟨0, 0, false, [(6, (.int .i64 x75))]⟩, ⟨0, 0, false, [(3, v22)]⟩, ⟨0, 0, false, []⟩, ⟨0, 0, false, []⟩, ⟨0, 0, false, []⟩, ⟨0, 0, false, []⟩, ⟨0, 0, false, [(3, v22)]⟩, ⟨0, 0, false, [(6, (.int .i64 x75))]⟩, ⟨0, 0, false, []⟩, ⟨0, 0, false, []⟩, ⟨0, 0, false, []⟩, ⟨0, 0, false, [(5, (.pointer (some ⟨b43, 0, none⟩)))]⟩]) mixed hE hS ⟨rfl, rfl⟩ rfl rfl ⟨⟨rfl, trivial⟩, ⟨rfl, trivial⟩, trivial, trivial, trivial, trivial, ⟨rfl, trivial⟩, ⟨rfl, trivial⟩, trivial, trivial, trivial, ⟨rfl, trivial⟩, trivial⟩ (by kernel_rfl) ?_ ?_ ?_ ?_
 {
 intro i m_ m2_ ws v hm_ hp_
 match i, hp_ with
 | 0, hp_ => exact hp_
 | 1, hp_ => exact hp_
 | 2, hp_ => exact hp_
 | 3, hp_ => exact hp_
 | 4, hp_ => exact hp_
 | 5, hp_ => exact hp_
 | 6, hp_ => exact hp_
 | 7, hp_ => exact hp_
 | 8, hp_ => exact hp_
 | 9, hp_ => exact hp_
 | 10, hp_ => exact hp_
 | 11, hp_ => exact hp_
 | _ + 12, hp_ => exact trivial
 }
 {
 intro c m_ m2_ ws L_ T_ hm_ hq_
 match c, hq_ with
 | 0, ⟨e1_, e2_⟩ => exact ⟨e1_, e2_⟩
 | _ + 1, hq_ => exact hq_.elim
 }
 {
 refine ⟨?_, ?_, ?_, ?_, ?_, ?_, ?_, ?_, ?_, ?_, ?_, ?_, trivial⟩
 {
 refine cplain fun pre_ post_ L_ T_ m' a' w' hl' hp' hm' hq' hS' hE' hT' => ?_
 obtain rfl := len0 hl'
 refine Step.imp (Run1.pure (r_move hE' rfl)) ?_
 rintro _ _ ⟨rfl, rfl⟩
 exact ⟨_, M.le.refl _, hS', ⟨rfl, hr76⟩⟩
 }
 {
 refine cplain fun pre_ post_ L_ T_ m' a' w' hl' hp' hm' hq' hS' hE' hT' => ?_
 obtain rfl := len0 hl'
 refine Step.imp (Run1.pure (r_move hE' rfl)) ?_
 rintro _ _ ⟨rfl, rfl⟩
 exact ⟨_, M.le.refl _, hS', rfl⟩
 }
 {
 refine cplain fun pre_ post_ L_ T_ m' a' w' hl' hp' hm' hq' hS' hE' hT' => ?_
 obtain rfl := len0 hl'
 obtain rfl := len0 (lenz (a := 0) hp')
 obtain ⟨rfl, rfl⟩ := hq'
 obtain ⟨v195, e196, q197⟩ : ∃ v, a'.tmps.getD 19 undef = v ∧ (v = v22) := ⟨_, rfl, hT' 1 (by decide) 19 rfl⟩
 have hE := hE'.add (e196.trans q197)
 refine Step.imp (Run1.pure (r_lenG (k := kEncode_Run) hE rfl rfl Try.underlying48 (hc20.mono (M.le.trans hm74 hm')))) ?_
 rintro _ _ ⟨rfl, rfl⟩
 exact ⟨_, M.le.refl _, hS', ⟨rfl, (inR_len (GS.len (hc20.mono (M.le.trans hm74 hm'))))⟩⟩
 }
 {
 refine cplain fun pre_ post_ L_ T_ m' a' w' hl' hp' hm' hq' hS' hE' hT' => ?_
 obtain rfl := len0 hl'
 obtain ⟨v199, e200, q201⟩ : ∃ v, a'.tmps.getD 20 undef = v ∧ (v = (.int .i64 (x18.length : Int)) ∧ inR .i64 (x18.length : Int)) := ⟨_, rfl, hT' 2 (by decide) 20 rfl⟩
 obtain ⟨q201, hr202⟩ := q201
 have hE := hE'.add (e200.trans q201)
 refine Step.imp (Run1.pure (r_bin hE rfl rfl (b_sub rfl))) ?_
 rintro _ _ ⟨rfl, rfl⟩
 exact ⟨_, M.le.refl _, hS', ⟨rfl, (inR_wrap _ _)⟩⟩
 }
 {
 refine cplain fun pre_ post_ L_ T_ m' a' w' hl' hp' hm' hq' hS' hE' hT' => ?_
 obtain rfl := len0 hl'
 obtain ⟨v204, e205, q206⟩ : ∃ v, a'.tmps.getD 18 undef = v ∧ (v = (.int .i64 x75) ∧ inR .i64 x75) := ⟨_, rfl, hT' 0 (by decide) 18 rfl⟩
 obtain ⟨q206, hr207⟩ := q206
 have hE := hE'.add (e205.trans q206)
 obtain ⟨v208, e209, q210⟩ : ∃ v, a'.tmps.getD 21 undef = v ∧ (v = (.int .i64 (IntKind.i64.wrap ((x18.length : Int) - 1))) ∧ inR .i64 (IntKind.i64.wrap ((x18.length : Int) - 1))) := ⟨_, rfl, hT' 3 (by decide) 21 rfl⟩
 obtain ⟨q210, hr211⟩ := q210
 have hE := hE.add (e209.trans q210)
 refine Step.imp (Run1.pure (r_bin hE rfl rfl b_eql)) ?_
 rintro _ _ ⟨rfl, rfl⟩
 exact ⟨_, M.le.refl _, hS', rfl⟩
 }
 {
 refine cplain fun pre_ post_ L_ T_ m' a' w' hl' hp' hm' hq' hS' hE' hT' => ?_
 obtain rfl := len0 hl'
 obtain ⟨v213, e214, q215⟩ : ∃ v, a'.tmps.getD 22 undef = v ∧ (v = (.bool (x75 == (IntKind.i64.wrap ((x18.length : Int) - 1))))) := ⟨_, rfl, hT' 4 (by decide) 22 rfl⟩
 have hE := hE'.add (e214.trans q215)
 refine Step.imp (Run1.pure (r_move hE rfl)) ?_
 rintro _ _ ⟨rfl, rfl⟩
 exact ⟨_, M.le.refl _, hS', rfl⟩
 }
 {
 exact cskip (b := false) rfl rfl (by decide) (fun _ _ _ h_ => Eq.trans h_ (cb hd111)) (by decide) (fun _ _ => rfl)
 }
 {
 exact cskip (b := false) rfl rfl (by decide) (fun _ _ _ h_ => Eq.trans h_ (cb hd111)) (by decide) (fun _ _ => rfl)
 }
 {
 exact cskip (b := false) rfl rfl (by decide) (fun _ _ _ h_ => Eq.trans h_ (cb hd111)) (by decide) (fun _ _ => rfl)
 }
 {
 exact cskip (b := false) rfl rfl (by decide) (fun _ _ _ h_ => Eq.trans h_ (cb hd111)) (by decide) (fun _ _ => rfl)
 }
 {
 exact cskip (b := false) rfl rfl (by decide) (fun _ _ _ h_ => Eq.trans h_ (cb hd111)) (by decide) (fun _ _ => rfl)
 }
 {
 exact cskip (b := false) rfl rfl (by decide) (fun _ _ _ h_ => Eq.trans h_ (cb hd111)) (by decide) (fun _ _ => rfl)
 }
 }
 {
 intro ws_ L_ T_ m217 a w hl218 hm219 hq220 hS hd221 hn222 ho223 hT224
 obtain rfl := len0 hl218
 obtain ⟨rfl, rfl⟩ := hq220
 have hE := EnvD.of (k := 12) (l' := [(3, v22), (5, (.pointer (some ⟨b43, 0, none⟩))), (6, (.int .i64 x75)), (7, v0), (8, (.int .i64 (p0.length : Int))), (9, (.int .i64 x16)), (14, (.int .i64 (x18.length : Int))), (15, (.int .i64 x75)), (16, (.bool (decide (x75 < (x18.length : Int))))), (17, (.int .i64 x75))]) hd221 hn222 ho223 ⟨rfl, rfl, rfl, rfl, rfl, rfl, rfl, rfl, rfl, rfl, trivial⟩ rfl
 obtain ⟨v225, e226, q227⟩ : ∃ v, a.tmps.getD 23 undef = v ∧ (v = (.bool (x75 == (IntKind.i64.wrap ((x18.length : Int) - 1))))) := ⟨_, rfl, hT224 5 (by decide) 23 rfl⟩
 have hE := hE.add (e226.trans q227)
 obtain ⟨v228, e229, q230⟩ : ∃ v, a.tmps.getD 24 undef = v ∧ (v = undef) := ⟨_, rfl, hT224 6 (by decide) 24 rfl⟩
 have hE := hE.add (e229.trans q230)
 obtain ⟨v231, e232, q233⟩ : ∃ v, a.tmps.getD 25 undef = v ∧ (v = undef) := ⟨_, rfl, hT224 7 (by decide) 25 rfl⟩
 have hE := hE.add (e232.trans q233)
 obtain ⟨v234, e235, q236⟩ : ∃ v, a.tmps.getD 26 undef = v ∧ (v = undef) := ⟨_, rfl, hT224 8 (by decide) 26 rfl⟩
 have hE := hE.add (e235.trans q236)
 obtain ⟨v237, e238, q239⟩ : ∃ v, a.tmps.getD 27 undef = v ∧ (v = undef) := ⟨_, rfl, hT224 9 (by decide) 27 rfl⟩
 have hE := hE.add (e238.trans q239)
 obtain ⟨v240, e241, q242⟩ : ∃ v, a.tmps.getD 28 undef = v ∧ (v = undef) := ⟨_, rfl, hT224 10 (by decide) 28 rfl⟩
 have hE := hE.add (e241.trans q242)
 obtain ⟨v243, e244, q245⟩ : ∃ v, a.tmps.getD 29 undef = v ∧ (v = undef) := ⟨_, rfl, hT224 11 (by decide) 29 rfl⟩
 have hE := hE.add (e244.trans q245)
 refine sx hE rfl rfl rfl rfl hd111 rfl fun a hE => ?_
 refine sp hE (r_pickF hE rfl hd111 rfl) rfl fun a hE => ?_
 refine knil ?_
 exact ⟨false, h, _, hm219, hS, hE.cut ⟨rfl, rfl, rfl, rfl, rfl, rfl, rfl, rfl, rfl, trivial⟩⟩
 }
 }
 }
 {
 rintro a w ⟨x85, h, m83, hm84, hS, hE⟩
 unfold encode_Runs_j4 at h
 refine kif hE rfl (fun hd87 => ?_) (fun hd87 => ?_)
 {
 have h := ite_T hd87 h
 refine kseq (kreg ?_)
 refine qm hE rfl rfl fun a hE => ?_
 refine qm hE rfl rfl fun a hE => ?_
 obtain ⟨j90, hj91, h⟩ := ob h
 refine sp hE (r_indexG (k := kEncode_Run) hE rfl rfl Try.underlying48 Try.sizeOf55 (hc20.mono (M.le.trans hm74 hm84)) hj91 rfl) rfl fun a hE => ?_
 refine sp hE (r_fieldL hE fo55_0 rfl) rfl fun a hE => ?_
 obtain ⟨x95, hx96, h⟩ := ob h
 refine st hE (st_loadL hE hS ty3 rfl (i := 1) rfl (fl55_0.R_drop (GS.elem (hc20.mono (M.le.trans hm74 hm84)) hx96))) rfl ?_
 rintro v97 a _ ⟨rfl, hv94⟩ hE
 obtain ⟨rfl, hr98⟩ := RV_int hv94
 refine sp hE (r_bin hE rfl rfl (b_add rfl)) rfl fun a hE => ?_
 obtain ⟨j100, hj101, h⟩ := ob h
 refine sp hE (r_indexG (k := kEncode_Run) hE rfl rfl Try.underlying48 Try.sizeOf55 (hc20.mono (M.le.trans hm74 hm84)) hj101 rfl) rfl fun a hE => ?_
 refine sp hE (r_fieldL hE fo55_0 rfl) rfl fun a hE => ?_
 obtain ⟨x106, hx107, h⟩ := ob h
 refine st0 hE (st_storeG (k := kEncode_Run) hE hS ty3 sf55_0 (hc20.mono (M.le.trans hm74 hm84)) hx107 rfl rfl (RV_of_int (inR_wrap _ _)) (i := 1) rfl) ?_
 rintro _ w ⟨cs104, hc105, hS⟩ hE
 refine knil ?_
 refine kexit rfl rfl ?_
 have h := unwrap h hb78
 exact ⟨(x18.set j100 ({ x106 with fMany := IntKind.i64.wrap (x95.fMany + 1) })), h, _, (M.le.trans hm74 hm84), cs104, b21, v22, hc105, (hS.pickL 2 [1] rfl rfl rfl), hE.cut ⟨rfl, rfl, rfl, rfl, trivial⟩⟩
 }
 {
 have h := ite_F hd87 h
 refine kskip (kreg ?_)
 refine sp hE (r_bin hE rfl rfl (b_add rfl)) rfl fun a hE => ?_
 refine qm hE rfl rfl fun a hE => ?_
 refine knil ?_
 exact ⟨IntKind.i64.wrap (x75 + 1), (Option.some.inj h).symm, _, (M.le.trans hm74 hm84), (inR_wrap _ _), hS, hE.cut ⟨rfl, rfl, rfl, rfl, rfl, rfl, rfl, trivial⟩⟩
 }
 }
 }
 {
 have h := ite_F hd80 h
 refine kexit rfl rfl ?_
 have h := unwrap h hb78
 exact ⟨h, _, hm74, hS, hE.cut ⟨rfl, rfl, rfl, rfl, rfl, trivial⟩⟩
 }
 }
 }
 {
 rintro a w ⟨h, m51, hm52, hS, hE⟩
 unfold encode_Runs_j3 at h
 refine kreg ?_
 refine qm hE rfl rfl fun a hE => ?_
 refine st hE (st_loadL hE hS ty53 rfl (i := 0) rfl (R_whole (kAV.mono hm52 hc46))) rfl ?_
 rintro v56 a _ ⟨rfl, hv55⟩ hE
 refine st hE (st_build (m := m51) (k := kEncode_Run) (x0 := Encode_Run.zero) (xx := (⟨1, x37⟩ : Encode_Run)) (pl := [(0, 1), (1, 4)]) (pv := [(0, (.int .i64 1)), (1, v56)]) hE rfl Try.underlying55 rfl Try.zeroValue55 zr55 rfl (.cons rfl sf55_0 (RV_of_int (show inR .i64 1 from inR_lit (by decide))) (.cons rfl sf55_1 hv55 .nil))) rfl ?_
 rintro v58 a _ ⟨rfl, hv57⟩ hE
 refine st hE (st_lit (k := kEncode_Run) (xs := [(⟨1, x37⟩ : Encode_Run)]) (vs := [v58]) hE hS rfl Try.underlying48 Try.sizeOf55 Try.zeroValue55 ⟨hv57, trivial⟩ rfl (by decide)) rfl ?_
 rintro v62 a w ⟨m60, hm61, hS, hv59⟩ hE
 obtain ⟨z63, hz64, h⟩ := ob h
 refine st hE (st_appG (k := kEncode_Run) (N := 2932031007402) hE hS rfl rfl Try.underlying48 el55 (i := 1) rfl (hc20.mono (M.le.trans hm52 hm61)) (src_sl hS Try.underlying48 hv59) hz64 rfl rfl) rfl ?_
 rintro v71 a w ⟨b68, cs69, hc70, hS⟩ hE
 refine qa hE rfl rfl fun a hE => ?_
 refine knil ?_
 exact ⟨z63, h, _, (M.le.trans hm52 hm61), cs69, b68, v71, hc70, ((hS.pickL 2 [1] rfl rfl rfl).pickT 1 [] rfl rfl rfl), hE.cut ⟨rfl, rfl, rfl, rfl, trivial⟩⟩
 }
 }
 {
 rintro a w ⟨x29, h, m27, hm28, cs30, b32, v33, hc31, hS, hE⟩
 unfold encode_Runs_j2 at h
 refine kreg ?_
 refine sp hE (r_bin hE rfl rfl (b_add rfl)) rfl fun a hE => ?_
 refine qm hE rfl rfl fun a hE => ?_
 refine knil ?_
 exact ⟨(IntKind.i64.wrap (x16 + 1), x29), (Option.some.inj h).symm, _, (M.le.trans hm15 hm28), cs30, b32, v33, (inR_wrap _ _), hc31, hS, hE.cut ⟨rfl, rfl, rfl, rfl, trivial⟩⟩
 }
 }
 {
 have h := ite_F hd26 h
 obtain ⟨m247, hm248, hS, hv249⟩ := S.freeze hS hc20
 refine kexit rfl rfl ?_
 have h := unwrap h hb24
 exact ⟨x18, h, _, (M.le.trans hm15 hm248), v22, hv249, hS, hE.cut ⟨rfl, trivial⟩⟩
 }
 }
 }
 {
 rintro a w ⟨x8, h, m6, hm7, v9, hv10, hS, hE⟩
 unfold encode_Runs_j1 at h
 refine kseq (kreg ?_)
 refine qm hE rfl rfl fun a hE => ?_
 refine qa hE rfl rfl fun a hE => ?_
 refine knil (kret ?_)
 obtain rfl := oi h
 try dsimp only
 refine Fin.mk hE (rs := [.tmp 2]) rfl (ResL.tmp hE rfl ResL.nil) ?_
 exact ⟨_, hm7, hS, hv10⟩
 }
theorem c_rows_may {W0 : Bse} {m : M} {w : World} {L : List (Nat × List Value)} {TL : List (Nat × Value)} (hS : S W0 m w (L) (TL)) {v0 : Value} {p0 : (List AV)} (ha0 : RV (kSl kAV) m v0 p0) {r : Bool} (h : rows_may p0 = some r) :
    Calls Try.prog 132 [v0].toArray w (Ret fun v w' => ∃ m', M.le m m' ∧ S W0 m' w' (L) (TL) ∧ RV kBool m' v r) := by
 refine kcall Try.func132 rfl Try.ntmps132 (Nat.le_of_ble_eq_true rfl) fun a hE => ?_
 have hE : Env 18 a [(0, v0)] := hE
 unfold rows_may at h
 refine kseq (kreg ?_)
 refine qa hE rfl rfl fun a hE => ?_
 refine knil (kseq (kseq (kreg ?_)))
 refine qm hE rfl rfl fun a hE => ?_
 refine sp hE (r_lenSl (k := kAV) hE rfl rfl Try.underlying29 ha0) rfl fun a hE => ?_
 refine qm hE rfl rfl fun a hE => ?_
 refine knil ?_
 refine kcut (fun a w => rows_may_j1 p0 = some r ∧ ∃ m', M.le m m' ∧ S W0 m' w (L) (TL) ∧ Env 18 a [(0, v0)]) ?_ ?_
 {
 refine kblock ?_
 refine kloop h (fun (s : Int) a w => ∃ m', M.le m m' ∧ inR .i64 s ∧ S W0 m' w (L) (TL) ∧ Env 18 a [(0, v0), (5, v0), (6, (.int .i64 (p0.length : Int))), (7, (.int .i64 s))]) ?_ ?_
 {
 exact ⟨_, (M.le.refl _), (show inR .i64 0 from inR_lit (by decide)), hS, hE.cut ⟨rfl, rfl, rfl, rfl, trivial⟩⟩
 }
 {
 rintro x14 a w ⟨m12, hm13, hr15, hS, hE⟩ r16 h hb17
 have h : rows_may_b1 p0 x14 = some r16 := h
 unfold rows_may_b1 at h
 refine kseq (kreg ?_)
 refine sp hE (r_bin hE rfl rfl b_lss) rfl fun a hE => ?_
 refine knil (kseq ?_)
 refine kif hE rfl (fun hd19 => ?_) (fun hd19 => ?_)
 {
 have h := ite_T hd19 h
 refine kskip (kseq (kblock (kseq (kreg ?_))))
 obtain ⟨x20, hx21, h⟩ := ob h
 refine st hE (st_index (k := kAV) hE rfl rfl Try.underlying29 Try.sizeOf53 (ha0.mono hm13) hx21) rfl ?_
 rintro v23 a _ ⟨rfl, hp22⟩ hE
 refine st hE (st_loadM hE hS ty53 rfl hp22) rfl ?_
 rintro v25 a _ ⟨rfl, hv24⟩ hE
 refine st hE (st_alloc hS Try.zeroValue53 rfl (cs := zc53)) rfl ?_
 rintro _ a w ⟨b26, rfl, hS⟩ hE
 refine st0 hE (st_storeF hE hS ty53 StF_self rfl rfl hv24 (i := 0) rfl (zr53 _)) ?_
 rintro _ w ⟨cs28, hc29, hS⟩ hE
 refine knil (kseq (kreg ?_))
 refine st hE (st_loadL hE hS ty53 rfl (i := 0) rfl (R_whole hc29)) rfl ?_
 rintro v32 a _ ⟨rfl, hv31⟩ hE
 obtain ⟨r33, hr34, h⟩ := ob h
 refine st hE (st_call (vs := [v32]) hE rfl Try.call54 (c_value_Right (hS := hS) hv31 hr34)) rfl ?_
 rintro v38 a w ⟨m35, hm36, hS, hv37⟩ hE
 obtain rfl := RV_bool hv37
 refine sp hE (r_not hE rfl) rfl fun a hE => ?_
 refine knil ?_
 refine kif hE rfl (fun hd40 => ?_) (fun hd40 => ?_)
 {
 have h := ite_T hd40 h
 refine kseq (kreg ?_)
 refine qa hE rfl rfl fun a hE => ?_
 refine knil (kret ?_)
 have h := unwrap h hb17
 obtain rfl := oi h
 try dsimp only
 refine Fin.mk hE (rs := [.tmp 2]) rfl (ResL.tmp hE rfl ResL.nil) ?_
 exact ⟨_, (M.le.trans hm13 hm36), (hS.dropL 1), RV_of_bool⟩
 }
 {
 have h := ite_F hd40 h
 refine kskip (kreg ?_)
 refine sp hE (r_bin hE rfl rfl (b_add rfl)) rfl fun a hE => ?_
 refine qm hE rfl rfl fun a hE => ?_
 refine knil ?_
 exact ⟨IntKind.i64.wrap (x14 + 1), (Option.some.inj h).symm, _, (M.le.trans hm13 hm36), (inR_wrap _ _), (hS.pickL 1 [] rfl rfl rfl), hE.cut ⟨rfl, rfl, rfl, rfl, trivial⟩⟩
 }
 }
 {
 have h := ite_F hd19 h
 refine kexit rfl rfl ?_
 have h := unwrap h hb17
 exact ⟨h, _, hm13, hS, hE.cut ⟨rfl, trivial⟩⟩
 }
 }
 }
 {
 rintro a w ⟨h, m5, hm6, hS, hE⟩
 unfold rows_may_j1 at h
 refine kseq (kreg ?_)
 refine qm hE rfl rfl fun a hE => ?_
 refine sp hE (r_lenSl (k := kAV) hE rfl rfl Try.underlying29 (ha0.mono hm6)) rfl fun a hE => ?_
 refine sp hE (r_bin hE rfl rfl b_leq) rfl fun a hE => ?_
 refine qa hE rfl rfl fun a hE => ?_
 refine knil (kret ?_)
 obtain rfl := oi h
 try dsimp only
 refine Fin.mk hE (rs := [.tmp 2]) rfl (ResL.tmp hE rfl ResL.nil) ?_
 exact ⟨_, hm6, hS, RV_of_bool⟩
 }
theorem c_rows_eight {W0 : Bse} {m : M} {w : World} {L : List (Nat × List Value)} {TL : List (Nat × Value)} {v0 : Value} (hS : S W0 m w (L) ((1, v0) :: TL)) {p0 : (List Int)} (ha0 : RV (kSl (kInt .u8)) m v0 p0) {p1 : Int} (ha1 : inR .u64 p1) {r : (List Int)} (h : rows_eight p0 p1 = some r) :
    Calls Try.prog 153 [v0, (.int .u64 p1)].toArray w (Ret fun v w' => ∃ m', M.le m m' ∧ S W0 m' w' (L) ((1, v) :: TL) ∧ RV (kSl (kInt .u8)) m' v r) := by
 refine kcall Try.func153 rfl Try.ntmps153 (Nat.le_of_ble_eq_true rfl) fun a hE => ?_
 have hE : Env 22 a [(0, v0), (1, (.int .u64 p1))] := hE
 unfold rows_eight at h
 refine kseq (kreg ?_)
 refine qa hE rfl rfl fun a hE => ?_
 refine knil (kseq (kreg ?_))
 refine st hE (st_alloc hS Try.zeroValue185 rfl (cs := zc185)) rfl ?_
 rintro _ a w ⟨b2, rfl, hS⟩ hE
 refine knil (kseq (kseq (kreg ?_)))
 refine qm hE rfl rfl fun a hE => ?_
 refine knil ?_
 refine kcut (fun a w => ∃ x7 : (List Int), rows_eight_j1 p0 x7 = some r ∧ ∃ m', M.le m m' ∧ ∃ (cs8 : List Value), GS (kInt .u8) m' b2 cs8 (.slice (some ⟨b2, 0, none⟩) 8 8) x7 ∧ S W0 m' w ((b2, cs8) :: L) ((1, v0) :: TL) ∧ Env 22 a [(0, v0), (5, (.pointer (some ⟨b2, 0, none⟩)))]) ?_ ?_
 {
 refine kblock ?_
 refine kloop h (fun (s : (Int × (List Int))) a w => ∃ m', M.le m m' ∧ ∃ (cs25 : List Value), inR .i64 s.1 ∧ GS (kInt .u8) m' b2 cs25 (.slice (some ⟨b2, 0, none⟩) 8 8) s.2 ∧ S W0 m' w ((b2, cs25) :: L) ((1, v0) :: TL) ∧ Env 22 a [(0, v0), (1, (.int .u64 p1)), (5, (.pointer (some ⟨b2, 0, none⟩))), (7, (.int .i64 s.1))]) ?_ ?_
 {
 exact ⟨_, (M.le.refl _), zc185, (show inR .i64 0 from inR_lit (by decide)), (za185 _ _), hS, hE.cut ⟨rfl, rfl, rfl, rfl, trivial⟩⟩
 }
 {
 rintro ⟨x22, x24⟩ a w ⟨m20, hm21, cs25, hr23, hc26, hS, hE⟩ r27 h hb28
 have h : rows_eight_b1 p0 p1 x22 x24 = some r27 := h
 unfold rows_eight_b1 at h
 refine kseq (kreg ?_)
 refine sp hE (r_bin hE rfl rfl b_lss) rfl fun a hE => ?_
 refine knil (kseq ?_)
 refine kif hE rfl (fun hd30 => ?_) (fun hd30 => ?_)
 {
 have h := ite_T hd30 h
 refine kskip (kseq (kblock (kseq (kreg ?_))))
 refine qm hE rfl rfl fun a hE => ?_
 refine qa hE rfl rfl fun a hE => ?_
 refine knil (kreg ?_)
 refine qm hE rfl rfl fun a hE => ?_
 refine qm hE rfl rfl fun a hE => ?_
 refine qm hE rfl rfl fun a hE => ?_
 refine sp hE (r_bin hE rfl rfl (b_mul rfl)) rfl fun a hE => ?_
 refine sp hE (r_bin hE rfl rfl (b_sub rfl)) rfl fun a hE => ?_
 obtain ⟨u38, hu39, h⟩ := ob h
 refine sp hE (r_bin hE rfl rfl (b_shr rfl (of_decide_eq_true (chk_some hu39)))) rfl fun a hE => ?_
 refine sp hE (r_conv hE rfl Try.underlying24 Try.underlying5 rfl) rfl fun a hE => ?_
 obtain ⟨j42, hj43, h⟩ := ob h
 refine sp hE (r_indexA (k := (kInt .u8)) hE rfl rfl Try.underlying185 Try.sizeOf5 (GS.arr_len hc26) hj43 rfl) rfl fun a hE => ?_
 obtain ⟨x47, hx48, h⟩ := ob h
 refine st0 hE (st_storeG (k := (kInt .u8)) hE hS ty5 StF_self hc26 hx48 rfl rfl (RV_of_int (inR_wrap _ _)) (i := 0) rfl) ?_
 rintro _ w ⟨cs45, hc46, hS⟩ hE
 refine knil (kreg ?_)
 refine sp hE (r_bin hE rfl rfl (b_add rfl)) rfl fun a hE => ?_
 refine qm hE rfl rfl fun a hE => ?_
 refine knil ?_
 exact ⟨(IntKind.i64.wrap (x22 + 1), (x24.set j42 (IntKind.u8.wrap (iShr .u64 p1 (IntKind.i64.wrap (56 - (IntKind.i64.wrap (8 * x22)))))))), (Option.some.inj h).symm, _, hm21, cs45, (inR_wrap _ _), hc46, hS, hE.cut ⟨rfl, rfl, rfl, rfl, trivial⟩⟩
 }
 {
 have h := ite_F hd30 h
 refine kexit rfl rfl ?_
 have h := unwrap h hb28
 exact ⟨x24, h, _, hm21, cs25, hc26, hS, hE.cut ⟨rfl, rfl, trivial⟩⟩
 }
 }
 }
 {
 rintro a w ⟨x7, h, m5, hm6, cs8, hc9, hS, hE⟩
 unfold rows_eight_j1 at h
 refine kseq (kreg ?_)
 refine qm hE rfl rfl fun a hE => ?_
 refine sp hE (r_sliceA (k := (kInt .u8)) hE rfl Try.underlying185 Try.sizeOf5) rfl fun a hE => ?_
 obtain ⟨z13, hz14, h⟩ := ob h
 refine st hE (st_appX (k := (kInt .u8)) (N := 140737488355328) hE hS rfl rfl Try.underlying37 el5 (i := 0) rfl (ha0.mono hm6) (src_own hS Try.underlying37 (i := 0) rfl hc9) hz14 rfl rfl) rfl ?_
 rintro v18 a w ⟨m16, hm17, hS, hv15⟩ hE
 refine qa hE rfl rfl fun a hE => ?_
 refine knil (kret ?_)
 obtain rfl := oi h
 try dsimp only
 refine Fin.mk hE (rs := [.tmp 4]) rfl (ResL.tmp hE rfl ResL.nil) ?_
 exact ⟨_, (M.le.trans hm6 hm17), ((hS.dropL 1).pickT 1 [0] rfl rfl rfl), hv15⟩
 }
theorem c_rows_one {W0 : Bse} {m : M} {w : World} {L : List (Nat × List Value)} {TL : List (Nat × Value)} {v0 : Value} (hS : S W0 m w (L) ((1, v0) :: TL)) {p0 : (List Int)} (ha0 : RV (kSl (kInt .u8)) m v0 p0) {v1 : Value} {p1 : AV} (ha1 : RV kAV m v1 p1) {r : (List Int)} (h : rows_one p0 p1 = some r) :
    Calls Try.prog 133 [v0, v1].toArray w (Ret fun v w' => ∃ m', M.le m m' ∧ S W0 m' w' (L) ((1, v) :: TL) ∧ RV (kSl (kInt .u8)) m' v r) := by
 refine kcall Try.func133 rfl Try.ntmps133 (Nat.le_of_ble_eq_true rfl) fun a hE => ?_
 have hE : Env 44 a [(0, v0), (1, v1)] := hE
 unfold rows_one at h
 refine kseq (kreg ?_)
 refine st hE (st_box (k := kAV) hE hS rfl ha1) rfl ?_
 rintro _ a w ⟨b1, cs2, rfl, hc3, hS⟩ hE
 refine qa hE rfl rfl fun a hE => ?_
 refine knil (kseq (kreg ?_))
 refine qm hE rfl rfl fun a hE => ?_
 refine sp hE (r_fieldL hE fo53_0 rfl) rfl fun a hE => ?_
 refine st hE (st_loadL hE hS ty3 rfl (i := 0) rfl (fl53_0.R_drop (R_whole hc3))) rfl ?_
 rintro v9 a _ ⟨rfl, hv8⟩ hE
 obtain ⟨rfl, hr10⟩ := RV_int hv8
 refine sp hE (r_conv hE rfl Try.underlying3 Try.underlying5 rfl) rfl fun a hE => ?_
 refine st hE (st_lit (k := (kInt .u8)) (xs := [IntKind.u8.wrap p1.fKind]) (vs := [(.int .u8 (IntKind.u8.wrap p1.fKind))]) hE hS rfl Try.underlying37 Try.sizeOf5 Try.zeroValue5 ⟨(RV_of_int (inR_wrap _ _)), trivial⟩ rfl (by decide)) rfl ?_
 rintro v15 a w ⟨m13, hm14, hS, hv12⟩ hE
 obtain ⟨z16, hz17, h⟩ := ob h
 refine st hE (st_app (k := (kInt .u8)) (N := 140737488355328) hE hS rfl rfl Try.underlying37 Try.underlying37 el5 (i := 1) rfl (ha0.mono hm14) hv12 hz17 rfl rfl) rfl ?_
 rintro v21 a w ⟨m19, hm20, hS, hv18⟩ hE
 refine qa hE rfl rfl fun a hE => ?_
 refine knil (kseq (kseq (kreg ?_)))
 refine sp hE (r_fieldL hE fo53_0 rfl) rfl fun a hE => ?_
 refine st hE (st_loadL hE hS ty3 rfl (i := 0) rfl (fl53_0.R_drop (R_whole (kAV.mono (M.le.trans hm14 hm20) hc3)))) rfl ?_
 rintro v25 a _ ⟨rfl, hv24⟩ hE
 obtain ⟨rfl, hr26⟩ := RV_int hv24
 refine knil (kblock (kseq (kreg ?_)))
 refine sp hE (r_bin hE rfl rfl b_eql) rfl fun a hE => ?_
 refine qa hE rfl rfl fun a hE => ?_
 refine knil ?_
 refine kif hE rfl (fun hd29 => ?_) (fun hd29 => ?_)
 {
 have h := ite_T hd29 h
 refine kseq (kseq (kreg ?_))
 refine sp hE (r_fieldL hE fo53_1 rfl) rfl fun a hE => ?_
 refine st hE (st_loadL hE hS ty4 rfl (i := 0) rfl (fl53_1.R_drop (R_whole (kAV.mono (M.le.trans hm14 hm20) hc3)))) rfl ?_
 rintro v32 a _ ⟨rfl, hv31⟩ hE
 obtain rfl := RV_bool hv31
 refine knil ?_
 refine kif hE rfl (fun hd33 => ?_) (fun hd33 => ?_)
 {
 have h := ite_T hd33 h
 refine kseq (kreg ?_)
 refine qm hE rfl rfl fun a hE => ?_
 refine st hE (st_lit (k := (kInt .u8)) (xs := [1]) (vs := [(.int .u8 1)]) hE hS rfl Try.underlying37 Try.sizeOf5 Try.zeroValue5 ⟨(RV_of_int (show inR .u8 1 from inR_lit (by decide))), trivial⟩ rfl (by decide)) rfl ?_
 rintro v38 a w ⟨m36, hm37, hS, hv35⟩ hE
 obtain ⟨z39, hz40, h⟩ := ob h
 refine st hE (st_app (k := (kInt .u8)) (N := 140737488355328) hE hS rfl rfl Try.underlying37 Try.underlying37 el5 (i := 2) rfl (hv18.mono hm37) hv35 hz40 rfl rfl) rfl ?_
 rintro v44 a w ⟨m42, hm43, hS, hv41⟩ hE
 refine qa hE rfl rfl fun a hE => ?_
 refine knil (kret ?_)
 obtain rfl := oi h
 try dsimp only
 refine Fin.mk hE (rs := [.tmp 4]) rfl (ResL.tmp hE rfl ResL.nil) ?_
 exact ⟨_, (M.le.trans hm14 (M.le.trans hm20 (M.le.trans hm37 hm43))), ((hS.dropL 1).pickT 3 [2] rfl rfl rfl), hv41⟩
 }
 {
 have h := ite_F hd33 h
 refine kskip (kseq (kreg ?_))
 refine qm hE rfl rfl fun a hE => ?_
 refine st hE (st_lit (k := (kInt .u8)) (xs := [0]) (vs := [(.int .u8 0)]) hE hS rfl Try.underlying37 Try.sizeOf5 Try.zeroValue5 ⟨(RV_of_int (show inR .u8 0 from inR_lit (by decide))), trivial⟩ rfl (by decide)) rfl ?_
 rintro v50 a w ⟨m48, hm49, hS, hv47⟩ hE
 obtain ⟨z51, hz52, h⟩ := ob h
 refine st hE (st_app (k := (kInt .u8)) (N := 140737488355328) hE hS rfl rfl Try.underlying37 Try.underlying37 el5 (i := 2) rfl (hv18.mono hm49) hv47 hz52 rfl rfl) rfl ?_
 rintro v56 a w ⟨m54, hm55, hS, hv53⟩ hE
 refine qa hE rfl rfl fun a hE => ?_
 refine knil (kret ?_)
 obtain rfl := oi h
 try dsimp only
 refine Fin.mk hE (rs := [.tmp 4]) rfl (ResL.tmp hE rfl ResL.nil) ?_
 exact ⟨_, (M.le.trans hm14 (M.le.trans hm20 (M.le.trans hm49 hm55))), ((hS.dropL 1).pickT 3 [2] rfl rfl rfl), hv53⟩
 }
 }
 {
 have h := ite_F hd29 h
 refine kseq (kreg ?_)
 refine sp hE (r_bin hE rfl rfl b_eql) rfl fun a hE => ?_
 refine qa hE rfl rfl fun a hE => ?_
 refine knil ?_
 refine kif hE rfl (fun hd60 => ?_) (fun hd60 => ?_)
 {
 have h := ite_T hd60 h
 refine kseq (kreg ?_)
 refine qm hE rfl rfl fun a hE => ?_
 refine sp hE (r_fieldL hE fo53_2 rfl) rfl fun a hE => ?_
 refine st hE (st_loadL hE hS ty2 rfl (i := 0) rfl (fl53_2.R_drop (R_whole (kAV.mono (M.le.trans hm14 hm20) hc3)))) rfl ?_
 rintro v64 a _ ⟨rfl, hv63⟩ hE
 obtain ⟨rfl, hr65⟩ := RV_int hv63
 refine sp hE (r_conv hE rfl Try.underlying2 Try.underlying24 rfl) rfl fun a hE => ?_
 obtain ⟨r67, hr68, h⟩ := ob h
 refine st hE (st_call (vs := [v21, (.int .u64 (IntKind.u64.wrap p1.fInt))]) hE rfl Try.call153 (c_rows_eight (hS := (hS.pickT 2 [1, 0] rfl rfl rfl)) hv18 (inR_wrap _ _) hr68)) rfl ?_
 rintro v72 a w ⟨m69, hm70, hS, hv71⟩ hE
 refine qa hE rfl rfl fun a hE => ?_
 refine knil (kret ?_)
 obtain rfl := oi h
 try dsimp only
 refine Fin.mk hE (rs := [.tmp 4]) rfl (ResL.tmp hE rfl ResL.nil) ?_
 exact ⟨_, (M.le.trans hm14 (M.le.trans hm20 hm70)), ((hS.dropL 1).pickT 2 [0] rfl rfl rfl), hv71⟩
 }
 {
 have h := ite_F hd60 h
 refine kseq (kreg ?_)
 refine sp hE (r_bin hE rfl rfl b_eql) rfl fun a hE => ?_
 refine qa hE rfl rfl fun a hE => ?_
 refine knil ?_
 refine kif hE rfl (fun hd76 => ?_) (fun hd76 => ?_)
 {
 have h := ite_T hd76 h
 refine kseq (kreg ?_)
 refine qm hE rfl rfl fun a hE => ?_
 refine sp hE (r_fieldL hE fo53_3 rfl) rfl fun a hE => ?_
 refine st hE (st_loadL hE hS ty9 rfl (i := 0) rfl (fl53_3.R_drop (R_whole (kAV.mono (M.le.trans hm14 hm20) hc3)))) rfl ?_
 rintro v80 a _ ⟨rfl, hv79⟩ hE
 obtain ⟨rfl, hb81, hl82⟩ := RV_str hv79
 refine sp hE (r_lenStr hE rfl rfl Try.underlying9) rfl fun a hE => ?_
 refine sp hE (r_conv hE rfl Try.underlying3 Try.underlying5 rfl) rfl fun a hE => ?_
 refine st hE (st_lit (k := (kInt .u8)) (xs := [IntKind.u8.wrap (p1.fText.length : Int)]) (vs := [(.int .u8 (IntKind.u8.wrap (p1.fText.length : Int)))]) hE hS rfl Try.underlying37 Try.sizeOf5 Try.zeroValue5 ⟨(RV_of_int (inR_wrap _ _)), trivial⟩ rfl (by decide)) rfl ?_
 rintro v88 a w ⟨m86, hm87, hS, hv85⟩ hE
 obtain ⟨z89, hz90, h⟩ := ob h
 refine st hE (st_app (k := (kInt .u8)) (N := 140737488355328) hE hS rfl rfl Try.underlying37 Try.underlying37 el5 (i := 2) rfl (hv18.mono hm87) hv85 hz90 rfl rfl) rfl ?_
 rintro v94 a w ⟨m92, hm93, hS, hv91⟩ hE
 refine qa hE rfl rfl fun a hE => ?_
 refine knil (kseq (kreg ?_))
 refine qm hE rfl rfl fun a hE => ?_
 refine sp hE (r_fieldL hE fo53_3 rfl) rfl fun a hE => ?_
 refine st hE (st_loadL hE hS ty9 rfl (i := 0) rfl (fl53_3.R_drop (R_whole (kAV.mono (M.le.trans hm14 (M.le.trans hm20 (M.le.trans hm87 hm93))) hc3)))) rfl ?_
 rintro v99 a _ ⟨rfl, hv98⟩ hE
 obtain ⟨rfl, hb100, hl101⟩ := RV_str hv98
 obtain ⟨z102, hz103, h⟩ := ob h
 refine st hE (st_appS (N := 140737488355328) hE hS rfl rfl Try.underlying37 Try.underlying9 el5 (i := 2) rfl hv91 hb100 hz103 rfl rfl) rfl ?_
 rintro v107 a w ⟨m105, hm106, hS, hv104⟩ hE
 refine qa hE rfl rfl fun a hE => ?_
 refine knil (kret ?_)
 obtain rfl := oi h
 try dsimp only
 refine Fin.mk hE (rs := [.tmp 4]) rfl (ResL.tmp hE rfl ResL.nil) ?_
 exact ⟨_, (M.le.trans hm14 (M.le.trans hm20 (M.le.trans hm87 (M.le.trans hm93 hm106)))), ((hS.dropL 1).pickT 3 [2] rfl rfl rfl), hv104⟩
 }
 {
 have h := ite_F hd76 h
 refine kskip (kseq (kreg ?_))
 refine qm hE rfl rfl fun a hE => ?_
 refine qa hE rfl rfl fun a hE => ?_
 refine knil (kret ?_)
 obtain rfl := oi h
 try dsimp only
 refine Fin.mk hE (rs := [.tmp 4]) rfl (ResL.tmp hE rfl ResL.nil) ?_
 exact ⟨_, (M.le.trans hm14 hm20), ((hS.dropL 1).pickT 2 [1] rfl rfl rfl), hv18⟩
 }
 }
 }
theorem c_rows_Encode {W0 : Bse} {m : M} {w : World} {L : List (Nat × List Value)} {TL : List (Nat × Value)} (hS : S W0 m w (L) (TL)) {v0 : Value} {p0 : (List AV)} (ha0 : RV (kSl kAV) m v0 p0) {r : ((List Int) × Int)} (h : rows_Encode p0 = some r) :
    Calls Try.prog 108 [v0].toArray w (Ret fun v w' => ∃ m', M.le m m' ∧ S W0 m' w' (L) (TL) ∧ ∃ v0_ v1_ : Value, v = .tuple #[v0_, v1_] ∧ RV (kSl (kInt .u8)) m' v0_ r.1 ∧ RV (kInt .i64) m' v1_ r.2) := by
 refine kcall Try.func108 rfl Try.ntmps108 (Nat.le_of_ble_eq_true rfl) fun a hE => ?_
 have hE : Env 25 a [(0, v0)] := hE
 unfold rows_Encode at h
 refine kseq (kreg ?_)
 refine qa hE rfl rfl fun a hE => ?_
 refine qa hE rfl rfl fun a hE => ?_
 refine knil (kseq (kseq (kreg ?_)))
 refine qm hE rfl rfl fun a hE => ?_
 obtain ⟨r4, hr5, h⟩ := ob h
 refine st hE (st_call (vs := [v0]) hE rfl Try.call132 (c_rows_may (hS := hS) ha0 hr5)) rfl ?_
 rintro v9 a w ⟨m6, hm7, hS, hv8⟩ hE
 obtain rfl := RV_bool hv8
 refine sp hE (r_not hE rfl) rfl fun a hE => ?_
 refine knil ?_
 refine kif hE rfl (fun hd11 => ?_) (fun hd11 => ?_)
 {
 have h := ite_T hd11 h
 refine kseq (kreg ?_)
 refine qa hE rfl rfl fun a hE => ?_
 refine qa hE rfl rfl fun a hE => ?_
 refine knil (kret ?_)
 obtain rfl := oi h
 try dsimp only
 refine Fin.mk hE (rs := [.tmp 2, .tmp 3]) rfl (ResL.tmp hE rfl (ResL.tmp hE rfl ResL.nil)) ?_
 exact ⟨_, hm7, hS, _, _, rfl, RV_nil, (RV_of_int (show inR .i64 30 from inR_lit (by decide)))⟩
 }
 {
 have h := ite_F hd11 h
 refine kskip (kseq (kreg ?_))
 refine qm hE rfl rfl fun a hE => ?_
 refine sp hE (r_lenSl (k := kAV) hE rfl rfl Try.underlying29 (ha0.mono hm7)) rfl fun a hE => ?_
 refine sp hE (r_conv hE rfl Try.underlying3 Try.underlying5 rfl) rfl fun a hE => ?_
 refine st hE (st_lit (k := (kInt .u8)) (xs := [IntKind.u8.wrap (p0.length : Int)]) (vs := [(.int .u8 (IntKind.u8.wrap (p0.length : Int)))]) hE hS rfl Try.underlying37 Try.sizeOf5 Try.zeroValue5 ⟨(RV_of_int (inR_wrap _ _)), trivial⟩ rfl (by decide)) rfl ?_
 rintro v20 a w ⟨m18, hm19, hS, hv17⟩ hE
 refine qa hE rfl rfl fun a hE => ?_
 refine knil (kseq (kseq (kreg ?_)))
 refine qm hE rfl rfl fun a hE => ?_
 refine sp hE (r_lenSl (k := kAV) hE rfl rfl Try.underlying29 (ha0.mono (M.le.trans hm7 hm19))) rfl fun a hE => ?_
 refine qm hE rfl rfl fun a hE => ?_
 refine knil ?_
 refine kcut (fun a w => ∃ x27 : (List Int), rows_Encode_j1 x27 = some r ∧ ∃ m', M.le m18 m' ∧ ∃ (v28 : Value), RV (kSl (kInt .u8)) m' v28 x27 ∧ S W0 m' w (L) ((1, v28) :: TL) ∧ Env 25 a [(4, v28)]) ?_ ?_
 {
 refine kblock ?_
 refine kloop h (fun (s : ((List Int) × Int)) a w => ∃ m', M.le m18 m' ∧ ∃ (v37 : Value), RV (kSl (kInt .u8)) m' v37 s.1 ∧ inR .i64 s.2 ∧ S W0 m' w (L) ((1, v37) :: TL) ∧ Env 25 a [(4, v37), (14, v0), (15, (.int .i64 (p0.length : Int))), (16, (.int .i64 s.2))]) ?_ ?_
 {
 exact ⟨_, (M.le.refl _), v20, hv17, (show inR .i64 0 from inR_lit (by decide)), hS, hE.cut ⟨rfl, rfl, rfl, rfl, trivial⟩⟩
 }
 {
 rintro ⟨x36, x39⟩ a w ⟨m34, hm35, v37, hv38, hr40, hS, hE⟩ r41 h hb42
 have h : rows_Encode_b1 p0 x36 x39 = some r41 := h
 unfold rows_Encode_b1 at h
 refine kseq (kreg ?_)
 refine sp hE (r_bin hE rfl rfl b_lss) rfl fun a hE => ?_
 refine knil (kseq ?_)
 refine kif hE rfl (fun hd44 => ?_) (fun hd44 => ?_)
 {
 have h := ite_T hd44 h
 refine kskip (kseq (kblock (kseq (kreg ?_))))
 obtain ⟨x45, hx46, h⟩ := ob h
 refine st hE (st_index (k := kAV) hE rfl rfl Try.underlying29 Try.sizeOf53 (ha0.mono (M.le.trans hm7 (M.le.trans hm19 hm35))) hx46) rfl ?_
 rintro v48 a _ ⟨rfl, hp47⟩ hE
 refine st hE (st_loadM hE hS ty53 rfl hp47) rfl ?_
 rintro v50 a _ ⟨rfl, hv49⟩ hE
 refine st hE (st_alloc hS Try.zeroValue53 rfl (cs := zc53)) rfl ?_
 rintro _ a w ⟨b51, rfl, hS⟩ hE
 refine st0 hE (st_storeF hE hS ty53 StF_self rfl rfl hv49 (i := 0) rfl (zr53 _)) ?_
 rintro _ w ⟨cs53, hc54, hS⟩ hE
 refine knil (kreg ?_)
 refine qm hE rfl rfl fun a hE => ?_
 refine st hE (st_loadL hE hS ty53 rfl (i := 0) rfl (R_whole hc54)) rfl ?_
 rintro v58 a _ ⟨rfl, hv57⟩ hE
 obtain ⟨r59, hr60, h⟩ := ob h
 refine st hE (st_call (vs := [v37, v58]) hE rfl Try.call133 (c_rows_one (hS := hS) hv38 hv57 hr60)) rfl ?_
 rintro v64 a w ⟨m61, hm62, hS, hv63⟩ hE
 refine qa hE rfl rfl fun a hE => ?_
 refine knil (kreg ?_)
 refine sp hE (r_bin hE rfl rfl (b_add rfl)) rfl fun a hE => ?_
 refine qm hE rfl rfl fun a hE => ?_
 refine knil ?_
 exact ⟨(r59, IntKind.i64.wrap (x39 + 1)), (Option.some.inj h).symm, _, (M.le.trans hm35 hm62), v64, hv63, (inR_wrap _ _), (hS.pickL 1 [] rfl rfl rfl), hE.cut ⟨rfl, rfl, rfl, rfl, trivial⟩⟩
 }
 {
 have h := ite_F hd44 h
 refine kexit rfl rfl ?_
 have h := unwrap h hb42
 exact ⟨x36, h, _, hm35, v37, hv38, hS, hE.cut ⟨rfl, trivial⟩⟩
 }
 }
 }
 {
 rintro a w ⟨x27, h, m25, hm26, v28, hv29, hS, hE⟩
 unfold rows_Encode_j1 at h
 refine kseq (kreg ?_)
 refine qm hE rfl rfl fun a hE => ?_
 refine qa hE rfl rfl fun a hE => ?_
 refine qa hE rfl rfl fun a hE => ?_
 refine knil (kret ?_)
 obtain rfl := oi h
 try dsimp only
 refine Fin.mk hE (rs := [.tmp 2, .tmp 3]) rfl (ResL.tmp hE rfl (ResL.tmp hE rfl ResL.nil)) ?_
 exact ⟨_, (M.le.trans hm7 (M.le.trans hm19 hm26)), (hS.dropT 1), _, _, rfl, hv29, (RV_of_int (show inR .i64 0 from inR_lit (by decide)))⟩
 }
 }
end Go.Proofs.Ytifobhaccglckaa.Hay
