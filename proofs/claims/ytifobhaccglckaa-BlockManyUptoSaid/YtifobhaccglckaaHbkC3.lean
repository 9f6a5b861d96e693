import Derived.Test.YtifobhaccglckaaHbkC2
set_option maxRecDepth 100000
set_option maxHeartbeats 4000000
set_option linter.unusedVariables false
namespace Go.Proofs.Ytifobhaccglckaa.Hay
open Go.Proofs
theorem c_encode_Best {W0 : Bse} {m : M} {w : World} {L : List (Nat × List Value)} {TL : List (Nat × Value)} (hS : S W0 m w (L) (TL)) {v0 : Value} {p0 : (List AV)} (ha0 : RV (kSl kAV) m v0 p0) {r : Int} (h : encode_Best p0 = some r) :
    Calls Try.prog 25 [v0].toArray w (Ret fun v w' => ∃ m', M.le m m' ∧ S W0 m' w' (L) (TL) ∧ RV (kInt .i64) m' v r) := by
 refine kcall Try.func25 rfl Try.ntmps25 (Nat.le_of_ble_eq_true rfl) fun a hE => ?_
 have hE : Env 34 a [(0, v0)] := hE
 unfold encode_Best at h
 refine kseq (kreg ?_)
 refine qa hE rfl rfl fun a hE => ?_
 refine knil (kseq (kreg ?_))
 refine qa hE rfl rfl fun a hE => ?_
 refine qa hE rfl rfl fun a hE => ?_
 refine knil (kseq (kseq (kreg ?_)))
 refine qa hE rfl rfl fun a hE => ?_
 refine knil ?_
 refine kcut (fun a w => ∃ x7 : Int, encode_Best_j1 x7 = some r ∧ ∃ m', M.le m m' ∧ inR .i64 x7 ∧ S W0 m' w (L) (TL) ∧ Env 34 a [(3, (.int .i64 x7))]) ?_ ?_
 {
 refine kblock ?_
 refine kloop h (fun (s : (Int × Int × Int)) a w => ∃ m', M.le m m' ∧ inR .i64 s.1 ∧ inR .i64 s.2.1 ∧ inR .i64 s.2.2 ∧ S W0 m' w (L) (TL) ∧ Env 34 a [(0, v0), (3, (.int .i64 s.1)), (4, (.int .i64 s.2.1)), (5, (.int .i64 s.2.2))]) ?_ ?_
 {
 exact ⟨_, (M.le.refl _), (show inR .i64 0 from inR_lit (by decide)), (show inR .i64 (-1) from inR_lit (by decide)), (show inR .i64 0 from inR_lit (by decide)), hS, hE.cut ⟨rfl, rfl, rfl, rfl, trivial⟩⟩
 }
 {
 rintro ⟨x14, x16, x18⟩ a w ⟨m12, hm13, hr15, hr17, hr19, hS, hE⟩ r20 h hb21
 have h : encode_Best_b1 p0 x14 x16 x18 = some r20 := h
 unfold encode_Best_b1 at h
 refine kseq (kseq (kreg ?_))
 refine qm hE rfl rfl fun a hE => ?_
 refine sp hE (r_bin hE rfl rfl b_leq) rfl fun a hE => ?_
 refine knil ?_
 refine kif hE rfl (fun hd24 => ?_) (fun hd24 => ?_)
 {
 have h := ite_T hd24 h
 refine kskip (kseq (kblock (kseq (kreg ?_))))
 refine qm hE rfl rfl fun a hE => ?_
 refine qm hE rfl rfl fun a hE => ?_
 obtain ⟨r27, hr28, h⟩ := ob h
 refine st hE (st_call (vs := [(.int .i64 x18), v0]) hE rfl Try.call24 (c_encode_Encode (hS := hS) hr19 (ha0.mono hm13) hr28)) rfl ?_
 rintro _ a w ⟨m29, hm30, hS, v0_31, v1_32, rfl, hv0_33, hv1_34⟩ hE
 obtain ⟨rfl, hr36⟩ := RV_int hv1_34
 refine qm hE rfl rfl fun a hE => ?_
 refine sp hE (r_extract hE rfl rfl) rfl fun a hE => ?_
 refine sp hE (r_extract hE rfl rfl) rfl fun a hE => ?_
 refine qa hE rfl rfl fun a hE => ?_
 refine qa hE rfl rfl fun a hE => ?_
 refine knil (kseq ?_)
 refine kcut (fun a w => ∃ x44 : Bool, encode_Best_j2 x14 x16 x18 r27 x44 = some r20 ∧ ∃ m', M.le m29 m' ∧ S W0 m' w (L) (TL) ∧ Env 34 a [(0, v0), (3, (.int .i64 x14)), (4, (.int .i64 x16)), (5, (.int .i64 x18)), (6, v0_31), (29, (.bool x44))]) ?_ ?_
 {
 refine kreg ?_
 refine qm hE rfl rfl fun a hE => ?_
 refine sp hE (r_bin hE rfl rfl b_eql) rfl fun a hE => ?_
 refine qm hE rfl rfl fun a hE => ?_
 rcases Bool.eq_false_or_eq_true (r27.2 == 0) with hd65 | hd65
 {
 have h := ite_T hd65 h
 refine spg hE rfl rfl rfl rfl hd65 (r_move hE rfl) rfl fun a hE => ?_
 refine spg hE rfl rfl rfl rfl hd65 (r_bin hE rfl rfl b_lss) rfl fun a hE => ?_
 refine spg hE rfl rfl rfl rfl hd65 (r_move hE rfl) rfl fun a hE => ?_
 rcases Bool.eq_false_or_eq_true (decide (x16 < 0)) with hd69 | hd69
 {
 have h := ite_T hd69 h
 refine sx hE rfl rfl rfl rfl hd69 rfl fun a hE => ?_
 refine sx hE rfl rfl rfl rfl hd69 rfl fun a hE => ?_
 refine sx hE rfl rfl rfl rfl hd69 rfl fun a hE => ?_
 refine sx hE rfl rfl rfl rfl hd69 rfl fun a hE => ?_
 refine spg hE rfl rfl rfl rfl hd65 (r_pickT hE rfl hd69 rfl) rfl fun a hE => ?_
 refine sp hE (r_pickT hE rfl hd65 rfl) rfl fun a hE => ?_
 refine knil ?_
 exact ⟨true, h, _, (M.le.refl _), hS, hE.cut ⟨rfl, rfl, rfl, rfl, rfl, rfl, trivial⟩⟩
 }
 {
 have h := ite_F hd69 h
 refine spg hE rfl rfl rfl rfl hd69 (r_move hE rfl) rfl fun a hE => ?_
 refine spg hE rfl rfl rfl rfl hd69 (r_lenSl (k := (kInt .u8)) hE rfl rfl Try.underlying37 hv0_33) rfl fun a hE => ?_
 refine spg hE rfl rfl rfl rfl hd69 (r_move hE rfl) rfl fun a hE => ?_
 refine spg hE rfl rfl rfl rfl hd69 (r_bin hE rfl rfl b_lss) rfl fun a hE => ?_
 refine spg hE rfl rfl rfl rfl hd65 (r_pickF hE rfl hd69 rfl) rfl fun a hE => ?_
 refine sp hE (r_pickT hE rfl hd65 rfl) rfl fun a hE => ?_
 refine knil ?_
 exact ⟨(decide ((r27.1.length : Int) < x16)), h, _, (M.le.refl _), hS, hE.cut ⟨rfl, rfl, rfl, rfl, rfl, rfl, trivial⟩⟩
 }
 }
 {
 have h := ite_F hd65 h
 refine sx hE rfl rfl rfl rfl hd65 rfl fun a hE => ?_
 refine sx hE rfl rfl rfl rfl hd65 rfl fun a hE => ?_
 refine sx hE rfl rfl rfl rfl hd65 rfl fun a hE => ?_
 refine sxu hE rfl rfl rfl rfl fun a hE => ?_
 refine sxu hE rfl rfl rfl rfl fun a hE => ?_
 refine sxu hE rfl rfl rfl rfl fun a hE => ?_
 refine sxu hE rfl rfl rfl rfl fun a hE => ?_
 refine sx hE rfl rfl rfl rfl hd65 rfl fun a hE => ?_
 refine sp hE (r_pickF hE rfl hd65 rfl) rfl fun a hE => ?_
 refine knil ?_
 exact ⟨false, h, _, (M.le.refl _), hS, hE.cut ⟨rfl, rfl, rfl, rfl, rfl, rfl, trivial⟩⟩
 }
 }
 {
 rintro a w ⟨x44, h, m42, hm43, hS, hE⟩
 unfold encode_Best_j2 at h
 refine kcut (fun a w => ∃ x48 : Int, ∃ x50 : Int, encode_Best_j3 x18 x48 x50 = some r20 ∧ ∃ m', M.le m42 m' ∧ inR .i64 x48 ∧ inR .i64 x50 ∧ S W0 m' w (L) (TL) ∧ Env 34 a [(0, v0), (3, (.int .i64 x48)), (4, (.int .i64 x50)), (5, (.int .i64 x18))]) ?_ ?_
 {
 refine kif hE rfl (fun hd56 => ?_) (fun hd56 => ?_)
 {
 have h := ite_T hd56 h
 refine kreg ?_
 refine qm hE rfl rfl fun a hE => ?_
 refine qm hE rfl rfl fun a hE => ?_
 refine sp hE (r_lenSl (k := (kInt .u8)) hE rfl rfl Try.underlying37 (hv0_33.mono hm43)) rfl fun a hE => ?_
 refine qa hE rfl rfl fun a hE => ?_
 refine qa hE rfl rfl fun a hE => ?_
 refine knil ?_
 exact ⟨x18, (r27.1.length : Int), h, _, (M.le.refl _), hr19, (inR_len (RV_len (hv0_33.mono hm43))), hS, hE.cut ⟨rfl, rfl, rfl, rfl, trivial⟩⟩
 }
 {
 have h := ite_F hd56 h
 refine kskip ?_
 exact ⟨x14, x16, h, _, (M.le.refl _), hr15, hr17, hS, hE.cut ⟨rfl, rfl, rfl, rfl, trivial⟩⟩
 }
 }
 {
 rintro a w ⟨x48, x50, h, m46, hm47, hr49, hr51, hS, hE⟩
 unfold encode_Best_j3 at h
 refine kreg ?_
 refine qm hE rfl rfl fun a hE => ?_
 refine sp hE (r_bin hE rfl rfl (b_add rfl)) rfl fun a hE => ?_
 refine qa hE rfl rfl fun a hE => ?_
 refine knil ?_
 exact ⟨(x48, x50, IntKind.i64.wrap (x18 + 1)), (Option.some.inj h).symm, _, (M.le.trans hm13 (M.le.trans hm30 (M.le.trans hm43 hm47))), hr49, hr51, (inR_wrap _ _), hS, hE.cut ⟨rfl, rfl, rfl, rfl, trivial⟩⟩
 }
 }
 }
 {
 have h := ite_F hd24 h
 refine kexit rfl rfl ?_
 have h := unwrap h hb21
 exact ⟨x14, h, _, hm13, hr15, hS, hE.cut ⟨rfl, trivial⟩⟩
 }
 }
 }
 {
 rintro a w ⟨x7, h, m5, hm6, hr8, hS, hE⟩
 unfold encode_Best_j1 at h
 refine kseq (kreg ?_)
 refine qm hE rfl rfl fun a hE => ?_
 refine qa hE rfl rfl fun a hE => ?_
 refine knil (kret ?_)
 obtain rfl := oi h
 try dsimp only
 refine Fin.mk hE (rs := [.tmp 2]) rfl (ResL.tmp hE rfl ResL.nil) ?_
 exact ⟨_, hm6, hS, (RV_of_int hr8)⟩
 }
end Go.Proofs.Ytifobhaccglckaa.Hay
