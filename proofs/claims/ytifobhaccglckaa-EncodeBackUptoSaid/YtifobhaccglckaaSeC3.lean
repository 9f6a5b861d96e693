import Derived.Test.YtifobhaccglckaaSeC2
set_option maxRecDepth 100000
set_option maxHeartbeats 4000000
set_option linter.unusedVariables false
namespace Go.Proofs.Ytifobhaccglckaa.Hay
open Go.Proofs
/- 109 -/
/- 61 -/
/- 28 -/
/- 110 -/
/- 62 -/
/- 63 -/
/- 121 -/
/- 75 -/
/- 111 -/
/- 112 -/
/- 64 -/
/- 65 -/
/- 29 -/
/- 21 -/
/- 25 -/
theorem c_encode_Best {W0 : World} {m : M} {w : World} {L : List (Nat × List Value)} {TL : List (Nat × Value)} (hS : S W0 m w (L) (TL)) {v0 : Value} {p0 : (List Api_Value)} (ha0 : RV (kSl kApi_Value) m v0 p0) {r : Int} (h : encode_Best p0 = some r) :
    Calls Try.prog 25 [v0].toArray w (Ret fun v w' => ∃ m', M.le m m' ∧ S W0 m' w' (L) (TL) ∧ RV (kInt .i64) m' v r) := by
 refine kcall Try.func25 rfl Try.ntmps25 (Nat.le_of_ble_eq_true rfl) fun a hE => ?_
 have hE : Env 34 a [(0, v0)] := hE
 unfold encode_Best at h
 refine kseq ?_
 refine kreg ?_
 refine sp hE (r_assign hE rfl) rfl fun a hE => ?_
 refine knil ?_
 refine kseq ?_
 refine kreg ?_
 refine sp hE (r_assign hE rfl) rfl fun a hE => ?_
 refine sp hE (r_assign hE rfl) rfl fun a hE => ?_
 refine knil ?_
 refine kseq ?_
 refine kseq ?_
 refine kreg ?_
 refine sp hE (r_assign hE rfl) rfl fun a hE => ?_
 refine knil ?_
 refine kcut (fun a w => ∃ x7 : Int, encode_Best_j1 x7 = some r ∧ ∃ m', M.le m m' ∧ inR .i64 x7 ∧ S W0 m' w (L) (TL) ∧ Env 34 a [(3, (.int .i64 x7))]) ?_ ?_
 {
 refine kblock ?_
 refine kloop h (fun (s : (Int × Int × Int)) a w => ∃ m', M.le m m' ∧ inR .i64 s.1 ∧ inR .i64 s.2.1 ∧ inR .i64 s.2.2 ∧ S W0 m' w (L) (TL) ∧ Env 34 a [(0, v0), (3, (.int .i64 s.1)), (4, (.int .i64 s.2.1)), (5, (.int .i64 s.2.2))]) ?_ ?_
 {
 exact ⟨_, (M.le.refl _), (show inR .i64 0 from inR_lit (by decide)), (show inR .i64 (-1) from inR_lit (by decide)), (show inR .i64 0 from inR_lit (by decide)), hS, hE.cut ⟨rfl, rfl, rfl, rfl, trivial⟩⟩
 }
 {
 rintro ⟨x14, x16, x18⟩ a w ⟨m12, hm13, hr15, hr17, hr19, hS, hE⟩ r20 h hb21
 have h : encode_Best_b1 p0 x14 x16 x18 = some r20 := h
 unfold encode_Best_b1 at h
 refine kseq ?_
 refine kseq ?_
 refine kreg ?_
 refine sp hE (r_move hE rfl) rfl fun a hE => ?_
 refine sp hE (r_bin hE rfl rfl b_leq) rfl fun a hE => ?_
 refine knil ?_
 refine kif hE rfl (fun hd24 => ?_) (fun hd24 => ?_)
 {
 have h := ite_T hd24 h
 refine kskip ?_
 refine kseq ?_
 refine kblock ?_
 refine kseq ?_
 refine kreg ?_
 refine sp hE (r_move hE rfl) rfl fun a hE => ?_
 refine sp hE (r_move hE rfl) rfl fun a hE => ?_
 obtain ⟨r27, hr28, h⟩ := ob h
 refine st hE (st_call (vs := [(.int .i64 x18), v0]) hE rfl Try.call24 (c_encode_Encode (hS := hS) hr19 (ha0.mono hm13) hr28)) rfl ?_
 rintro _ a w ⟨m29, hm30, hS, v0_31, v1_32, rfl, hv0_33, hv1_34⟩ hE
 obtain ⟨rfl, hr36⟩ := RV_int hv1_34
 refine sp hE (r_move hE rfl) rfl fun a hE => ?_
 refine sp hE (r_extract hE rfl rfl) rfl fun a hE => ?_
 refine sp hE (r_extract hE rfl rfl) rfl fun a hE => ?_
 refine sp hE (r_assign hE rfl) rfl fun a hE => ?_
 refine sp hE (r_assign hE rfl) rfl fun a hE => ?_
 refine knil ?_
 refine kseq ?_
 refine kcut (fun a w => ∃ x44 : Bool, encode_Best_j2 x14 x16 x18 r27 x44 = some r20 ∧ ∃ m', M.le m29 m' ∧ S W0 m' w (L) (TL) ∧ Env 34 a [(0, v0), (3, (.int .i64 x14)), (4, (.int .i64 x16)), (5, (.int .i64 x18)), (6, v0_31), (29, (.bool x44))]) ?_ ?_
 {
 refine kreg ?_
 refine sp hE (r_move hE rfl) rfl fun a hE => ?_
 refine sp hE (r_bin hE rfl rfl b_eql) rfl fun a hE => ?_
 refine sp hE (r_move hE rfl) rfl fun a hE => ?_
 rcases Bool.eq_false_or_eq_true (r27.2 == 0) with hd65 | hd65
 {
 have h := ite_T hd65 h
 refine spg hE rfl rfl rfl rfl hd65 (r_move hE rfl) rfl fun a hE => ?_
 refine spg hE rfl rfl rfl rfl hd65 (r_bin hE rfl rfl b_lss) rfl fun a hE => ?_
 refine spg hE rfl rfl rfl rfl hd65 (r_move hE rfl) rfl fun a hE => ?_
 rcases Bool.eq_false_or_eq_true (decide (x16 < 0)) with hd69 | hd69
 {
 have h := ite_T hd69 h
 refine sx hE rfl rfl rfl rfl hd69 rfl fun a hE => ?_
 refine sx hE rfl rfl rfl rfl hd69 rfl fun a hE => ?_
 refine sx hE rfl rfl rfl rfl hd69 rfl fun a hE => ?_
 refine sx hE rfl rfl rfl rfl hd69 rfl fun a hE => ?_
 refine spg hE rfl rfl rfl rfl hd65 (r_pickT hE rfl hd69 rfl) rfl fun a hE => ?_
 refine sp hE (r_pickT hE rfl hd65 rfl) rfl fun a hE => ?_
 refine knil ?_
 exact ⟨true, h, _, (M.le.refl _), hS, hE.cut ⟨rfl, rfl, rfl, rfl, rfl, rfl, trivial⟩⟩
 }
 {
 have h := ite_F hd69 h
 refine spg hE rfl rfl rfl rfl hd69 (r_move hE rfl) rfl fun a hE => ?_
 refine spg hE rfl rfl rfl rfl hd69 (r_lenSl (k := (kInt .u8)) hE rfl rfl Try.underlying37 hv0_33) rfl fun a hE => ?_
 refine spg hE rfl rfl rfl rfl hd69 (r_move hE rfl) rfl fun a hE => ?_
 refine spg hE rfl rfl rfl rfl hd69 (r_bin hE rfl rfl b_lss) rfl fun a hE => ?_
 refine spg hE rfl rfl rfl rfl hd65 (r_pickF hE rfl hd69 rfl) rfl fun a hE => ?_
 refine sp hE (r_pickT hE rfl hd65 rfl) rfl fun a hE => ?_
 refine knil ?_
 exact ⟨(decide ((r27.1.length : Int) < x16)), h, _, (M.le.refl _), hS, hE.cut ⟨rfl, rfl, rfl, rfl, rfl, rfl, trivial⟩⟩
 }
 }
 {
 have h := ite_F hd65 h
 refine sx hE rfl rfl rfl rfl hd65 rfl fun a hE => ?_
 refine sx hE rfl rfl rfl rfl hd65 rfl fun a hE => ?_
 refine sx hE rfl rfl rfl rfl hd65 rfl fun a hE => ?_
 refine sxu hE rfl rfl rfl rfl fun a hE => ?_
 refine sxu hE rfl rfl rfl rfl fun a hE => ?_
 refine sxu hE rfl rfl rfl rfl fun a hE => ?_
 refine sxu hE rfl rfl rfl rfl fun a hE => ?_
 refine sx hE rfl rfl rfl rfl hd65 rfl fun a hE => ?_
 refine sp hE (r_pickF hE rfl hd65 rfl) rfl fun a hE => ?_
 refine knil ?_
 exact ⟨false, h, _, (M.le.refl _), hS, hE.cut ⟨rfl, rfl, rfl, rfl, rfl, rfl, trivial⟩⟩
 }
 }
 {
 rintro a w ⟨x44, h, m42, hm43, hS, hE⟩
 unfold encode_Best_j2 at h
 refine kcut (fun a w => ∃ x48 : Int, ∃ x50 : Int, encode_Best_j3 x18 x48 x50 = some r20 ∧ ∃ m', M.le m42 m' ∧ inR .i64 x48 ∧ inR .i64 x50 ∧ S W0 m' w (L) (TL) ∧ Env 34 a [(0, v0), (3, (.int .i64 x48)), (4, (.int .i64 x50)), (5, (.int .i64 x18))]) ?_ ?_
 {
 refine kif hE rfl (fun hd56 => ?_) (fun hd56 => ?_)
 {
 have h := ite_T hd56 h
 refine kreg ?_
 refine sp hE (r_move hE rfl) rfl fun a hE => ?_
 refine sp hE (r_move hE rfl) rfl fun a hE => ?_
 refine sp hE (r_lenSl (k := (kInt .u8)) hE rfl rfl Try.underlying37 (hv0_33.mono hm43)) rfl fun a hE => ?_
 refine sp hE (r_assign hE rfl) rfl fun a hE => ?_
 refine sp hE (r_assign hE rfl) rfl fun a hE => ?_
 refine knil ?_
 exact ⟨x18, (r27.1.length : Int), h, _, (M.le.refl _), hr19, (inR_len (RV_len (hv0_33.mono hm43))), hS, hE.cut ⟨rfl, rfl, rfl, rfl, trivial⟩⟩
 }
 {
 have h := ite_F hd56 h
 refine kskip ?_
 exact ⟨x14, x16, h, _, (M.le.refl _), hr15, hr17, hS, hE.cut ⟨rfl, rfl, rfl, rfl, trivial⟩⟩
 }
 }
 {
 rintro a w ⟨x48, x50, h, m46, hm47, hr49, hr51, hS, hE⟩
 unfold encode_Best_j3 at h
 refine kreg ?_
 refine sp hE (r_move hE rfl) rfl fun a hE => ?_
 refine sp hE (r_bin hE rfl rfl (b_add rfl)) rfl fun a hE => ?_
 refine sp hE (r_assign hE rfl) rfl fun a hE => ?_
 refine knil ?_
 exact ⟨(x48, x50, IntKind.i64.wrap (x18 + 1)), (Option.some.inj h).symm, _, (M.le.trans hm13 (M.le.trans hm30 (M.le.trans hm43 hm47))), hr49, hr51, (inR_wrap _ _), hS, hE.cut ⟨rfl, rfl, rfl, rfl, trivial⟩⟩
 }
 }
 }
 {
 have h := ite_F hd24 h
 refine kexit rfl rfl ?_
 have h := unwrap h hb21
 exact ⟨x14, h, _, hm13, hr15, hS, hE.cut ⟨rfl, trivial⟩⟩
 }
 }
 }
 {
 rintro a w ⟨x7, h, m5, hm6, hr8, hS, hE⟩
 unfold encode_Best_j1 at h
 refine kseq ?_
 refine kreg ?_
 refine sp hE (r_move hE rfl) rfl fun a hE => ?_
 refine sp hE (r_assign hE rfl) rfl fun a hE => ?_
 refine knil ?_
 refine kret ?_
 obtain rfl := Option.some.inj h
 try dsimp only
 refine Fin.mk (fn := Try.f25) hE (rs := [.tmp 2]) rfl (ResL.tmp hE rfl ResL.nil) ?_
 exact ⟨_, hm6, hS, (RV_of_int hr8)⟩
 }
/- 22 -/
theorem c_hayloftlaw06_alive {W0 : World} {m : M} {w : World} {L : List (Nat × List Value)} {TL : List (Nat × Value)} (hS : S W0 m w (L) (TL))  {r : Bool} (h : hayloftlaw06_alive = some r) :
    Calls Try.prog 22 [].toArray w (Ret fun v w' => ∃ m', M.le m m' ∧ S W0 m' w' (L) (TL) ∧ RV kBool m' v r) := by
 refine kcall Try.func22 rfl Try.ntmps22 (Nat.le_of_ble_eq_true rfl) fun a hE => ?_
 have hE : Env 47 a [] := hE
 unfold hayloftlaw06_alive at h
 refine kseq ?_
 refine kreg ?_
 refine sp hE (r_assign hE rfl) rfl fun a hE => ?_
 refine knil ?_
 refine kseq ?_
 refine kreg ?_
 refine st hE (st_build (m := m) (k := kApi_Value) (x0 := Api_Value.zero) (xx := (⟨2, false, 5, []⟩ : Api_Value)) (pl := [(0, 1), (1, 1), (2, 1), (3, 1)]) (pv := [(0, (.int .i64 2)), (2, (.int .i64 5))]) hE rfl Try.underlying53 rfl Try.zeroValue53 zr53 rfl (.cons rfl sf53_0 (RV_of_int (show inR .i64 2 from inR_lit (by decide))) (.cons rfl sf53_2 (RV_of_int (show inR .i64 5 from inR_lit (by decide))) .nil))) rfl ?_
 rintro v3 a _ ⟨rfl, hv2⟩ hE
 refine st hE (st_build (m := m) (k := kApi_Value) (x0 := Api_Value.zero) (xx := (⟨2, false, 5, []⟩ : Api_Value)) (pl := [(0, 1), (1, 1), (2, 1), (3, 1)]) (pv := [(0, (.int .i64 2)), (2, (.int .i64 5))]) hE rfl Try.underlying53 rfl Try.zeroValue53 zr53 rfl (.cons rfl sf53_0 (RV_of_int (show inR .i64 2 from inR_lit (by decide))) (.cons rfl sf53_2 (RV_of_int (show inR .i64 5 from inR_lit (by decide))) .nil))) rfl ?_
 rintro v5 a _ ⟨rfl, hv4⟩ hE
 refine st hE (st_build (m := m) (k := kApi_Value) (x0 := Api_Value.zero) (xx := (⟨2, false, 5, []⟩ : Api_Value)) (pl := [(0, 1), (1, 1), (2, 1), (3, 1)]) (pv := [(0, (.int .i64 2)), (2, (.int .i64 5))]) hE rfl Try.underlying53 rfl Try.zeroValue53 zr53 rfl (.cons rfl sf53_0 (RV_of_int (show inR .i64 2 from inR_lit (by decide))) (.cons rfl sf53_2 (RV_of_int (show inR .i64 5 from inR_lit (by decide))) .nil))) rfl ?_
 rintro v7 a _ ⟨rfl, hv6⟩ hE
 refine st hE (st_lit (k := kApi_Value) (xs := [(⟨2, false, 5, []⟩ : Api_Value), (⟨2, false, 5, []⟩ : Api_Value), (⟨2, false, 5, []⟩ : Api_Value)]) (vs := [v3, v5, v7]) hE hS rfl Try.underlying29 Try.sizeOf53 Try.zeroValue53 ⟨hv2, hv4, hv6, trivial⟩ rfl (by decide)) rfl ?_
 rintro v11 a w ⟨m9, hm10, hS, hv8⟩ hE
 refine sp hE (r_assign hE rfl) rfl fun a hE => ?_
 refine knil ?_
 refine kseq ?_
 refine kreg ?_
 refine sp hE (r_move hE rfl) rfl fun a hE => ?_
 obtain ⟨r14, hr15, h⟩ := ob h
 refine st hE (st_call (vs := [(.int .i64 1), v11]) hE rfl Try.call24 (c_encode_Encode (hS := hS) (show inR .i64 1 from inR_lit (by decide)) hv8 hr15)) rfl ?_
 rintro _ a w ⟨m16, hm17, hS, v0_18, v1_19, rfl, hv0_20, hv1_21⟩ hE
 obtain ⟨rfl, hr23⟩ := RV_int hv1_21
 refine sp hE (r_move hE rfl) rfl fun a hE => ?_
 refine sp hE (r_extract hE rfl rfl) rfl fun a hE => ?_
 refine sp hE (r_extract hE rfl rfl) rfl fun a hE => ?_
 refine sp hE (r_assign hE rfl) rfl fun a hE => ?_
 refine sp hE (r_assign hE rfl) rfl fun a hE => ?_
 refine knil ?_
 refine kseq ?_
 refine kreg ?_
 refine sp hE (r_move hE rfl) rfl fun a hE => ?_
 obtain ⟨r30, hr31, h⟩ := ob h
 refine st hE (st_call (vs := [(.int .i64 1), v0_18, (.int .i64 3)]) hE rfl Try.call20 (c_encode_Decode (hS := hS) (show inR .i64 1 from inR_lit (by decide)) hv0_20 (show inR .i64 3 from inR_lit (by decide)) hr31)) rfl ?_
 rintro _ a w ⟨m32, hm33, hS, v0_34, v1_35, rfl, hv0_36, hv1_37⟩ hE
 obtain ⟨rfl, hr39⟩ := RV_int hv1_37
 refine sp hE (r_move hE rfl) rfl fun a hE => ?_
 refine sp hE (r_extract hE rfl rfl) rfl fun a hE => ?_
 refine sp hE (r_extract hE rfl rfl) rfl fun a hE => ?_
 refine sp hE (r_assign hE rfl) rfl fun a hE => ?_
 refine sp hE (r_assign hE rfl) rfl fun a hE => ?_
 refine knil ?_
 refine kseq ?_
 refine kcut (fun a w => ∃ x47 : Bool, hayloftlaw06_alive_j1 x47 = some r ∧ ∃ m', M.le m32 m' ∧ S W0 m' w (L) (TL) ∧ Env 47 a [(0, (.bool x47))]) ?_ ?_
 {
 refine kreg ?_
 refine sp hE (r_move hE rfl) rfl fun a hE => ?_
 refine sp hE (r_bin hE rfl rfl b_eql) rfl fun a hE => ?_
 refine sp hE (r_move hE rfl) rfl fun a hE => ?_
 rcases Bool.eq_false_or_eq_true (r14.2 == 0) with hd52 | hd52
 {
 have h := ite_T hd52 h
 refine spg hE rfl rfl rfl rfl hd52 (r_move hE rfl) rfl fun a hE => ?_
 refine spg hE rfl rfl rfl rfl hd52 (r_lenSl (k := (kInt .u8)) hE rfl rfl Try.underlying37 (hv0_20.mono hm33)) rfl fun a hE => ?_
 refine spg hE rfl rfl rfl rfl hd52 (r_bin hE rfl rfl b_eql) rfl fun a hE => ?_
 refine sp hE (r_pickT hE rfl hd52 rfl) rfl fun a hE => ?_
 refine sp hE (r_move hE rfl) rfl fun a hE => ?_
 rcases Bool.eq_false_or_eq_true ((r14.1.length : Int) == 10) with hd58 | hd58
 {
 have h := ite_T hd58 h
 refine spg hE rfl rfl rfl rfl hd58 (r_move hE rfl) rfl fun a hE => ?_
 obtain ⟨x60, hx61, h⟩ := ob h
 refine stg hE rfl rfl rfl rfl hd58 (st_index (k := (kInt .u8)) hE rfl rfl Try.underlying37 Try.sizeOf5 (hv0_20.mono hm33) hx61) rfl ?_
 rintro v63 a _ ⟨rfl, hp62⟩ hE
 refine stg hE rfl rfl rfl rfl hd58 (st_loadM hE hS ty5 rfl hp62) rfl ?_
 rintro v65 a _ ⟨rfl, hv64⟩ hE
 obtain ⟨rfl, hr66⟩ := RV_int hv64
 refine spg hE rfl rfl rfl rfl hd58 (r_bin hE rfl rfl b_eql) rfl fun a hE => ?_
 refine sp hE (r_pickT hE rfl hd58 rfl) rfl fun a hE => ?_
 refine sp hE (r_move hE rfl) rfl fun a hE => ?_
 rcases Bool.eq_false_or_eq_true (x60 == 3) with hd70 | hd70
 {
 have h := ite_T hd70 h
 refine spg hE rfl rfl rfl rfl hd70 (r_move hE rfl) rfl fun a hE => ?_
 refine spg hE rfl rfl rfl rfl hd70 (r_bin hE rfl rfl b_eql) rfl fun a hE => ?_
 refine sp hE (r_pickT hE rfl hd70 rfl) rfl fun a hE => ?_
 refine sp hE (r_move hE rfl) rfl fun a hE => ?_
 rcases Bool.eq_false_or_eq_true (r30.2 == 0) with hd75 | hd75
 {
 have h := ite_T hd75 h
 refine spg hE rfl rfl rfl rfl hd75 (r_move hE rfl) rfl fun a hE => ?_
 refine spg hE rfl rfl rfl rfl hd75 (r_lenSl (k := kApi_Value) hE rfl rfl Try.underlying29 hv0_36) rfl fun a hE => ?_
 refine spg hE rfl rfl rfl rfl hd75 (r_bin hE rfl rfl b_eql) rfl fun a hE => ?_
 refine sp hE (r_pickT hE rfl hd75 rfl) rfl fun a hE => ?_
 refine sp hE (r_move hE rfl) rfl fun a hE => ?_
 rcases Bool.eq_false_or_eq_true ((r30.1.length : Int) == 3) with hd81 | hd81
 {
 have h := ite_T hd81 h
 refine spg hE rfl rfl rfl rfl hd81 (r_move hE rfl) rfl fun a hE => ?_
 obtain ⟨r83, hr84, h⟩ := ob h
 refine stg hE rfl rfl rfl rfl hd81 (st_call (vs := [v11]) hE rfl Try.call25 (c_encode_Best (hS := hS) (hv8.mono (M.le.trans hm17 hm33)) hr84)) rfl ?_
 rintro v88 a w ⟨m85, hm86, hS, hv87⟩ hE
 obtain ⟨rfl, hr89⟩ := RV_int hv87
 refine spg hE rfl rfl rfl rfl hd81 (r_bin hE rfl rfl b_eql) rfl fun a hE => ?_
 refine sp hE (r_pickT hE rfl hd81 rfl) rfl fun a hE => ?_
 refine sp hE (r_assign hE rfl) rfl fun a hE => ?_
 refine knil ?_
 exact ⟨(r83 == 4), h, _, hm86, (hS.pickT 1 [] rfl rfl rfl), hE.cut ⟨rfl, trivial⟩⟩
 }
 {
 have h := ite_F hd81 h
 refine sx hE rfl rfl rfl rfl hd81 rfl fun a hE => ?_
 refine sx hE rfl rfl rfl rfl hd81 rfl fun a hE => ?_
 refine sx hE rfl rfl rfl rfl hd81 rfl fun a hE => ?_
 refine sp hE (r_pickF hE rfl hd81 rfl) rfl fun a hE => ?_
 refine sp hE (r_assign hE rfl) rfl fun a hE => ?_
 refine knil ?_
 exact ⟨false, h, _, (M.le.refl _), (hS.pickT 1 [] rfl rfl rfl), hE.cut ⟨rfl, trivial⟩⟩
 }
 }
 {
 have h := ite_F hd75 h
 refine sx hE rfl rfl rfl rfl hd75 rfl fun a hE => ?_
 refine sx hE rfl rfl rfl rfl hd75 rfl fun a hE => ?_
 refine sx hE rfl rfl rfl rfl hd75 rfl fun a hE => ?_
 refine sp hE (r_pickF hE rfl hd75 rfl) rfl fun a hE => ?_
 refine sp hE (r_move hE rfl) rfl fun a hE => ?_
 refine sx hE rfl rfl rfl rfl rfl rfl fun a hE => ?_
 refine sx hE rfl rfl rfl rfl rfl rfl fun a hE => ?_
 refine sx hE rfl rfl rfl rfl rfl rfl fun a hE => ?_
 refine sp hE (r_pickF hE rfl rfl rfl) rfl fun a hE => ?_
 refine sp hE (r_assign hE rfl) rfl fun a hE => ?_
 refine knil ?_
 exact ⟨false, h, _, (M.le.refl _), (hS.pickT 1 [] rfl rfl rfl), hE.cut ⟨rfl, trivial⟩⟩
 }
 }
 {
 have h := ite_F hd70 h
 refine sx hE rfl rfl rfl rfl hd70 rfl fun a hE => ?_
 refine sx hE rfl rfl rfl rfl hd70 rfl fun a hE => ?_
 refine sp hE (r_pickF hE rfl hd70 rfl) rfl fun a hE => ?_
 refine sp hE (r_move hE rfl) rfl fun a hE => ?_
 refine sx hE rfl rfl rfl rfl rfl rfl fun a hE => ?_
 refine sx hE rfl rfl rfl rfl rfl rfl fun a hE => ?_
 refine sx hE rfl rfl rfl rfl rfl rfl fun a hE => ?_
 refine sp hE (r_pickF hE rfl rfl rfl) rfl fun a hE => ?_
 refine sp hE (r_move hE rfl) rfl fun a hE => ?_
 refine sx hE rfl rfl rfl rfl rfl rfl fun a hE => ?_
 refine sx hE rfl rfl rfl rfl rfl rfl fun a hE => ?_
 refine sx hE rfl rfl rfl rfl rfl rfl fun a hE => ?_
 refine sp hE (r_pickF hE rfl rfl rfl) rfl fun a hE => ?_
 refine sp hE (r_assign hE rfl) rfl fun a hE => ?_
 refine knil ?_
 exact ⟨false, h, _, (M.le.refl _), (hS.pickT 1 [] rfl rfl rfl), hE.cut ⟨rfl, trivial⟩⟩
 }
 }
 {
 have h := ite_F hd58 h
 refine sx hE rfl rfl rfl rfl hd58 rfl fun a hE => ?_
 refine sx hE rfl rfl rfl rfl hd58 rfl fun a hE => ?_
 refine sx hE rfl rfl rfl rfl hd58 rfl fun a hE => ?_
 refine sx hE rfl rfl rfl rfl hd58 rfl fun a hE => ?_
 refine sp hE (r_pickF hE rfl hd58 rfl) rfl fun a hE => ?_
 refine sp hE (r_move hE rfl) rfl fun a hE => ?_
 refine sx hE rfl rfl rfl rfl rfl rfl fun a hE => ?_
 refine sx hE rfl rfl rfl rfl rfl rfl fun a hE => ?_
 refine sp hE (r_pickF hE rfl rfl rfl) rfl fun a hE => ?_
 refine sp hE (r_move hE rfl) rfl fun a hE => ?_
 refine sx hE rfl rfl rfl rfl rfl rfl fun a hE => ?_
 refine sx hE rfl rfl rfl rfl rfl rfl fun a hE => ?_
 refine sx hE rfl rfl rfl rfl rfl rfl fun a hE => ?_
 refine sp hE (r_pickF hE rfl rfl rfl) rfl fun a hE => ?_
 refine sp hE (r_move hE rfl) rfl fun a hE => ?_
 refine sx hE rfl rfl rfl rfl rfl rfl fun a hE => ?_
 refine sx hE rfl rfl rfl rfl rfl rfl fun a hE => ?_
 refine sx hE rfl rfl rfl rfl rfl rfl fun a hE => ?_
 refine sp hE (r_pickF hE rfl rfl rfl) rfl fun a hE => ?_
 refine sp hE (r_assign hE rfl) rfl fun a hE => ?_
 refine knil ?_
 exact ⟨false, h, _, (M.le.refl _), (hS.pickT 1 [] rfl rfl rfl), hE.cut ⟨rfl, trivial⟩⟩
 }
 }
 {
 have h := ite_F hd52 h
 refine sx hE rfl rfl rfl rfl hd52 rfl fun a hE => ?_
 refine sx hE rfl rfl rfl rfl hd52 rfl fun a hE => ?_
 refine sx hE rfl rfl rfl rfl hd52 rfl fun a hE => ?_
 refine sp hE (r_pickF hE rfl hd52 rfl) rfl fun a hE => ?_
 refine sp hE (r_move hE rfl) rfl fun a hE => ?_
 refine sx hE rfl rfl rfl rfl rfl rfl fun a hE => ?_
 refine sx hE rfl rfl rfl rfl rfl rfl fun a hE => ?_
 refine sx hE rfl rfl rfl rfl rfl rfl fun a hE => ?_
 refine sx hE rfl rfl rfl rfl rfl rfl fun a hE => ?_
 refine sp hE (r_pickF hE rfl rfl rfl) rfl fun a hE => ?_
 refine sp hE (r_move hE rfl) rfl fun a hE => ?_
 refine sx hE rfl rfl rfl rfl rfl rfl fun a hE => ?_
 refine sx hE rfl rfl rfl rfl rfl rfl fun a hE => ?_
 refine sp hE (r_pickF hE rfl rfl rfl) rfl fun a hE => ?_
 refine sp hE (r_move hE rfl) rfl fun a hE => ?_
 refine sx hE rfl rfl rfl rfl rfl rfl fun a hE => ?_
 refine sx hE rfl rfl rfl rfl rfl rfl fun a hE => ?_
 refine sx hE rfl rfl rfl rfl rfl rfl fun a hE => ?_
 refine sp hE (r_pickF hE rfl rfl rfl) rfl fun a hE => ?_
 refine sp hE (r_move hE rfl) rfl fun a hE => ?_
 refine sx hE rfl rfl rfl rfl rfl rfl fun a hE => ?_
 refine sx hE rfl rfl rfl rfl rfl rfl fun a hE => ?_
 refine sx hE rfl rfl rfl rfl rfl rfl fun a hE => ?_
 refine sp hE (r_pickF hE rfl rfl rfl) rfl fun a hE => ?_
 refine sp hE (r_assign hE rfl) rfl fun a hE => ?_
 refine knil ?_
 exact ⟨false, h, _, (M.le.refl _), (hS.pickT 1 [] rfl rfl rfl), hE.cut ⟨rfl, trivial⟩⟩
 }
 }
 {
 rintro a w ⟨x47, h, m45, hm46, hS, hE⟩
 unfold hayloftlaw06_alive_j1 at h
 refine kret ?_
 obtain rfl := Option.some.inj h
 try dsimp only
 refine Fin.mk (fn := Try.f22) hE (rs := [.tmp 0]) rfl (ResL.tmp hE rfl ResL.nil) ?_
 exact ⟨_, (M.le.trans hm10 (M.le.trans hm17 (M.le.trans hm33 hm46))), hS, RV_of_bool⟩
 }
/- 23 -/
theorem c_hayloftref02_SameRow {W0 : World} {m : M} {w : World} {L : List (Nat × List Value)} {TL : List (Nat × Value)} (hS : S W0 m w (L) (TL)) {v0 : Value} {p0 : (List Api_Value)} (ha0 : RV (kSl kApi_Value) m v0 p0) {v1 : Value} {p1 : (List Api_Value)} (ha1 : RV (kSl kApi_Value) m v1 p1) {r : Bool} (h : hayloftref02_SameRow p0 p1 = some r) :
    Calls Try.prog 23 [v0, v1].toArray w (Ret fun v w' => ∃ m', M.le m m' ∧ S W0 m' w' (L) (TL) ∧ RV kBool m' v r) := by
 refine kcall Try.func23 rfl Try.ntmps23 (Nat.le_of_ble_eq_true rfl) fun a hE => ?_
 have hE : Env 26 a [(0, v0), (1, v1)] := hE
 unfold hayloftref02_SameRow at h
 refine kseq ?_
 refine kreg ?_
 refine sp hE (r_assign hE rfl) rfl fun a hE => ?_
 refine knil ?_
 refine kseq ?_
 refine kseq ?_
 refine kreg ?_
 refine sp hE (r_move hE rfl) rfl fun a hE => ?_
 refine sp hE (r_lenSl (k := kApi_Value) hE rfl rfl Try.underlying29 ha0) rfl fun a hE => ?_
 refine sp hE (r_move hE rfl) rfl fun a hE => ?_
 refine sp hE (r_lenSl (k := kApi_Value) hE rfl rfl Try.underlying29 ha1) rfl fun a hE => ?_
 refine sp hE (r_bin hE rfl rfl b_neq) rfl fun a hE => ?_
 refine knil ?_
 refine kif hE rfl (fun hd7 => ?_) (fun hd7 => ?_)
 {
 have h := ite_T hd7 h
 refine kseq ?_
 refine kreg ?_
 refine sp hE (r_assign hE rfl) rfl fun a hE => ?_
 refine knil ?_
 refine kret ?_
 obtain rfl := Option.some.inj h
 try dsimp only
 refine Fin.mk (fn := Try.f23) hE (rs := [.tmp 4]) rfl (ResL.tmp hE rfl ResL.nil) ?_
 exact ⟨_, (M.le.refl _), hS, RV_of_bool⟩
 }
 {
 have h := ite_F hd7 h
 refine kskip ?_
 refine kseq ?_
 refine kseq ?_
 refine kreg ?_
 refine sp hE (r_assign hE rfl) rfl fun a hE => ?_
 refine knil ?_
 refine kcut (fun a w => hayloftref02_SameRow_j1 = some r ∧ ∃ m', M.le m m' ∧ S W0 m' w (L) (TL) ∧ Env 26 a []) ?_ ?_
 {
 refine kblock ?_
 refine kloop h (fun (s : Int) a w => ∃ m', M.le m m' ∧ inR .i64 s ∧ S W0 m' w (L) (TL) ∧ Env 26 a [(0, v0), (1, v1), (5, (.int .i64 s))]) ?_ ?_
 {
 exact ⟨_, (M.le.refl _), (show inR .i64 0 from inR_lit (by decide)), hS, hE.cut ⟨rfl, rfl, rfl, trivial⟩⟩
 }
 {
 rintro x16 a w ⟨m14, hm15, hr17, hS, hE⟩ r18 h hb19
 have h : hayloftref02_SameRow_b1 p0 p1 x16 = some r18 := h
 unfold hayloftref02_SameRow_b1 at h
 refine kseq ?_
 refine kseq ?_
 refine kreg ?_
 refine sp hE (r_move hE rfl) rfl fun a hE => ?_
 refine sp hE (r_move hE rfl) rfl fun a hE => ?_
 refine sp hE (r_lenSl (k := kApi_Value) hE rfl rfl Try.underlying29 (ha0.mono hm15)) rfl fun a hE => ?_
 refine sp hE (r_bin hE rfl rfl b_lss) rfl fun a hE => ?_
 refine knil ?_
 refine kif hE rfl (fun hd24 => ?_) (fun hd24 => ?_)
 {
 have h := ite_T hd24 h
 refine kskip ?_
 refine kseq ?_
 refine kblock ?_
 refine kseq ?_
 obtain ⟨x25, hx26, h⟩ := ob h
 obtain ⟨x29, hx30, h⟩ := ob h
 refine kchain (k := 8) (m := m14) (es := []) (Φ := (fun i m ws v => match i with | 0 => v = v0 | 1 => v = (.int .i64 x16) ∧ inR .i64 x16 | 2 => PR kApi_Value m v x25 | 3 => RV kApi_Value m v x25 | 4 => v = v1 | 5 => v = (.int .i64 x16) ∧ inR .i64 x16 | 6 => PR kApi_Value m v x29 | 7 => RV kApi_Value m v x29 | _ => True)) (Q := (fun c m ws L' TL' => match c with | 0 => L = L' ∧ TL = TL' | _ => False)) (cs := [⟨0, 0, false, [(0, v0)]⟩, ⟨0, 0, false, [(5, (.int .i64 x16))]⟩, ⟨0, 0, false, []⟩, ⟨0, 0, false, []⟩, ⟨0, 0, false, [(1, v1)]⟩, ⟨0, 0, false, [(5, (.int .i64 x16))]⟩, ⟨0, 0, false, []⟩, ⟨0, 0, false, []⟩]) mixed hE hS ⟨rfl, rfl⟩ rfl rfl ⟨⟨rfl, trivial⟩, ⟨rfl, trivial⟩, trivial, trivial, ⟨rfl, trivial⟩, ⟨rfl, trivial⟩, trivial, trivial, trivial⟩ (by kernel_rfl) ?_ ?_ ?_ ?_
 {
 intro i m_ m2_ ws v hm_ hp_
 match i, hp_ with
 | 0, hp_ => exact hp_
 | 1, hp_ => exact hp_
 | 2, hp_ => exact PR.mono hp_ hm_
 | 3, hp_ => exact RV.mono hp_ hm_
 | 4, hp_ => exact hp_
 | 5, hp_ => exact hp_
 | 6, hp_ => exact PR.mono hp_ hm_
 | 7, hp_ => exact RV.mono hp_ hm_
 | _ + 8, hp_ => exact trivial
 }
 {
 intro c m_ m2_ ws L_ T_ hm_ hq_
 match c, hq_ with
 | 0, ⟨e1_, e2_⟩ => exact ⟨e1_, e2_⟩
 | _ + 1, hq_ => exact hq_.elim
 }
 {
 refine ⟨?_, ?_, ?_, ?_, ?_, ?_, ?_, ?_, trivial⟩
 {
 refine cplain fun pre_ post_ L_ T_ m' a' w' hl' hp' hm' hq' hS' hE' hT' => ?_
 obtain rfl := len0 hl'
 refine Step.imp (Run1.pure (r_move hE' rfl)) ?_
 rintro _ _ ⟨rfl, rfl⟩
 exact ⟨_, M.le.refl _, hS', rfl⟩
 }
 {
 refine cplain fun pre_ post_ L_ T_ m' a' w' hl' hp' hm' hq' hS' hE' hT' => ?_
 obtain rfl := len0 hl'
 refine Step.imp (Run1.pure (r_move hE' rfl)) ?_
 rintro _ _ ⟨rfl, rfl⟩
 exact ⟨_, M.le.refl _, hS', ⟨rfl, hr17⟩⟩
 }
 {
 refine cplain fun pre_ post_ L_ T_ m' a' w' hl' hp' hm' hq' hS' hE' hT' => ?_
 obtain rfl := len0 hl'
 obtain ⟨v35, e36, q37⟩ : ∃ v, a'.tmps.getD 17 undef = v ∧ (v = v0) := ⟨_, rfl, hT' 0 (by decide) 17 rfl⟩
 have hE := hE'.add (e36.trans q37)
 obtain ⟨v38, e39, q40⟩ : ∃ v, a'.tmps.getD 18 undef = v ∧ (v = (.int .i64 x16) ∧ inR .i64 x16) := ⟨_, rfl, hT' 1 (by decide) 18 rfl⟩
 obtain ⟨q40, hr41⟩ := q40
 have hE := hE.add (e39.trans q40)
 refine Step.imp (st_index (k := kApi_Value) hE rfl rfl Try.underlying29 Try.sizeOf53 (ha0.mono (M.le.trans hm15 hm')) hx26) ?_
 rintro v42 _ ⟨rfl, hp27⟩
 exact ⟨_, M.le.refl _, hS', hp27⟩
 }
 {
 refine cplain fun pre_ post_ L_ T_ m' a' w' hl' hp' hm' hq' hS' hE' hT' => ?_
 obtain rfl := len0 hl'
 obtain ⟨v43, e44, q45⟩ : ∃ v, a'.tmps.getD 19 undef = v ∧ (PR kApi_Value m' v x25) := ⟨_, rfl, hT' 2 (by decide) 19 rfl⟩
 have hE := hE'.add (e44)
 refine Step.imp (st_loadM hE hS' ty53 rfl q45) ?_
 rintro v46 _ ⟨rfl, hv28⟩
 exact ⟨_, M.le.refl _, hS', hv28⟩
 }
 {
 refine cplain fun pre_ post_ L_ T_ m' a' w' hl' hp' hm' hq' hS' hE' hT' => ?_
 obtain rfl := len0 hl'
 refine Step.imp (Run1.pure (r_move hE' rfl)) ?_
 rintro _ _ ⟨rfl, rfl⟩
 exact ⟨_, M.le.refl _, hS', rfl⟩
 }
 {
 refine cplain fun pre_ post_ L_ T_ m' a' w' hl' hp' hm' hq' hS' hE' hT' => ?_
 obtain rfl := len0 hl'
 refine Step.imp (Run1.pure (r_move hE' rfl)) ?_
 rintro _ _ ⟨rfl, rfl⟩
 exact ⟨_, M.le.refl _, hS', ⟨rfl, hr17⟩⟩
 }
 {
 refine cplain fun pre_ post_ L_ T_ m' a' w' hl' hp' hm' hq' hS' hE' hT' => ?_
 obtain rfl := len0 hl'
 obtain ⟨v49, e50, q51⟩ : ∃ v, a'.tmps.getD 21 undef = v ∧ (v = v1) := ⟨_, rfl, hT' 4 (by decide) 21 rfl⟩
 have hE := hE'.add (e50.trans q51)
 obtain ⟨v52, e53, q54⟩ : ∃ v, a'.tmps.getD 22 undef = v ∧ (v = (.int .i64 x16) ∧ inR .i64 x16) := ⟨_, rfl, hT' 5 (by decide) 22 rfl⟩
 obtain ⟨q54, hr55⟩ := q54
 have hE := hE.add (e53.trans q54)
 refine Step.imp (st_index (k := kApi_Value) hE rfl rfl Try.underlying29 Try.sizeOf53 (ha1.mono (M.le.trans hm15 hm')) hx30) ?_
 rintro v56 _ ⟨rfl, hp31⟩
 exact ⟨_, M.le.refl _, hS', hp31⟩
 }
 {
 refine cplain fun pre_ post_ L_ T_ m' a' w' hl' hp' hm' hq' hS' hE' hT' => ?_
 obtain rfl := len0 hl'
 obtain ⟨v57, e58, q59⟩ : ∃ v, a'.tmps.getD 23 undef = v ∧ (PR kApi_Value m' v x29) := ⟨_, rfl, hT' 6 (by decide) 23 rfl⟩
 have hE := hE'.add (e58)
 refine Step.imp (st_loadM hE hS' ty53 rfl q59) ?_
 rintro v60 _ ⟨rfl, hv32⟩
 exact ⟨_, M.le.refl _, hS', hv32⟩
 }
 }
 {
 intro ws_ L_ T_ m61 a w hl62 hm63 hq64 hS hd65 hn66 ho67 hT68
 obtain rfl := len0 hl62
 obtain ⟨rfl, rfl⟩ := hq64
 have hE := Env.of (k := 8) (l' := [(0, v0), (1, v1), (5, (.int .i64 x16)), (11, (.int .i64 x16)), (12, v0), (13, (.int .i64 (p0.length : Int))), (14, (.bool (decide (x16 < (p0.length : Int)))))]) hd65 hn66 ho67 ⟨rfl, rfl, rfl, rfl, rfl, rfl, rfl, trivial⟩ rfl
 obtain ⟨v69, e70, q71⟩ : ∃ v, a.tmps.getD 20 undef = v ∧ (RV kApi_Value m61 v x25) := ⟨_, rfl, hT68 3 (by decide) 20 rfl⟩
 have hE := hE.add (e70)
 obtain ⟨v72, e73, q74⟩ : ∃ v, a.tmps.getD 24 undef = v ∧ (RV kApi_Value m61 v x29) := ⟨_, rfl, hT68 7 (by decide) 24 rfl⟩
 have hE := hE.add (e73)
 refine sp hE (r_neqK hE eq53 rfl rfl q71 q74 rfl) rfl fun a hE => ?_
 refine knil ?_
 refine kif hE rfl (fun hd76 => ?_) (fun hd76 => ?_)
 {
 have h := ite_T hd76 h
 refine kseq ?_
 refine kreg ?_
 refine sp hE (r_assign hE rfl) rfl fun a hE => ?_
 refine knil ?_
 refine kret ?_
 have h := unwrap h hb19
 obtain rfl := Option.some.inj h
 try dsimp only
 refine Fin.mk (fn := Try.f23) hE (rs := [.tmp 4]) rfl (ResL.tmp hE rfl ResL.nil) ?_
 exact ⟨_, (M.le.trans hm15 hm63), hS, RV_of_bool⟩
 }
 {
 have h := ite_F hd76 h
 refine kskip ?_
 refine kreg ?_
 refine sp hE (r_move hE rfl) rfl fun a hE => ?_
 refine sp hE (r_bin hE rfl rfl (b_add rfl)) rfl fun a hE => ?_
 refine sp hE (r_assign hE rfl) rfl fun a hE => ?_
 refine knil ?_
 exact ⟨IntKind.i64.wrap (x16 + 1), (Option.some.inj h).symm, _, (M.le.trans hm15 hm63), (inR_wrap _ _), hS, hE.cut ⟨rfl, rfl, rfl, trivial⟩⟩
 }
 }
 }
 {
 have h := ite_F hd24 h
 refine kexit rfl rfl ?_
 have h := unwrap h hb19
 exact ⟨h, _, hm15, hS, hE.cut trivial⟩
 }
 }
 }
 {
 rintro a w ⟨h, m10, hm11, hS, hE⟩
 unfold hayloftref02_SameRow_j1 at h
 refine kseq ?_
 refine kreg ?_
 refine sp hE (r_assign hE rfl) rfl fun a hE => ?_
 refine knil ?_
 refine kret ?_
 obtain rfl := Option.some.inj h
 try dsimp only
 refine Fin.mk (fn := Try.f23) hE (rs := [.tmp 4]) rfl (ResL.tmp hE rfl ResL.nil) ?_
 exact ⟨_, hm11, hS, RV_of_bool⟩
 }
 }
/- 4 -/
/- 5 -/
theorem c_hayloftlaw06_EncodeBack {W0 : World} {m : M} {w : World} {L : List (Nat × List Value)} {TL : List (Nat × Value)} (hS : S W0 m w (L) (TL)) {p0 : Int} (ha0 : inR .i64 p0) {v1 : Value} {p1 : (List Api_Value)} (ha1 : RV (kSl kApi_Value) m v1 p1) {v2 : Value} {p2 : (List Int)} (ha2 : RV (kSl (kInt .u8)) m v2 p2) {r : Bool} (h : hayloftlaw06_EncodeBack p0 p1 p2 = some r) :
    Calls Try.prog 5 [(.int .i64 p0), v1, v2].toArray w (Ret fun v w' => ∃ m', M.le m m' ∧ S W0 m' w' (L) (TL) ∧ RV kBool m' v r) := by
 refine kcall Try.func5 rfl Try.ntmps5 (Nat.le_of_ble_eq_true rfl) fun a hE => ?_
 have hE : Env 73 a [(0, (.int .i64 p0)), (1, v1), (2, v2)] := hE
 unfold hayloftlaw06_EncodeBack at h
 refine kseq ?_
 refine kreg ?_
 refine sp hE (r_assign hE rfl) rfl fun a hE => ?_
 refine knil ?_
 refine kseq ?_
 refine kreg ?_
 refine sp hE (r_move hE rfl) rfl fun a hE => ?_
 refine sp hE (r_move hE rfl) rfl fun a hE => ?_
 obtain ⟨r4, hr5, h⟩ := ob h
 refine st hE (st_call (vs := [(.int .i64 p0), v1]) hE rfl Try.call24 (c_encode_Encode (hS := hS) ha0 ha1 hr5)) rfl ?_
 rintro _ a w ⟨m6, hm7, hS, v0_8, v1_9, rfl, hv0_10, hv1_11⟩ hE
 obtain ⟨rfl, hr13⟩ := RV_int hv1_11
 refine sp hE (r_move hE rfl) rfl fun a hE => ?_
 refine sp hE (r_extract hE rfl rfl) rfl fun a hE => ?_
 refine sp hE (r_extract hE rfl rfl) rfl fun a hE => ?_
 refine sp hE (r_assign hE rfl) rfl fun a hE => ?_
 refine sp hE (r_assign hE rfl) rfl fun a hE => ?_
 refine knil ?_
 refine kseq ?_
 refine kseq ?_
 refine kreg ?_
 refine sp hE (r_move hE rfl) rfl fun a hE => ?_
 refine sp hE (r_bin hE rfl rfl b_eql) rfl fun a hE => ?_
 refine knil ?_
 refine kcut (fun a w => hayloftlaw06_EncodeBack_j1 p0 p1 p2 = some r ∧ ∃ m', M.le m6 m' ∧ S W0 m' w (L) (TL) ∧ Env 73 a [(0, (.int .i64 p0)), (1, v1), (2, v2)]) ?_ ?_
 {
 refine kif hE rfl (fun hd112 => ?_) (fun hd112 => ?_)
 {
 have h := ite_T hd112 h
 refine kseq ?_
 refine kreg ?_
 refine sp hE (r_move hE rfl) rfl fun a hE => ?_
 refine sp hE (r_move hE rfl) rfl fun a hE => ?_
 refine sp hE (r_move hE rfl) rfl fun a hE => ?_
 refine sp hE (r_lenSl (k := kApi_Value) hE rfl rfl Try.underlying29 (ha1.mono hm7)) rfl fun a hE => ?_
 obtain ⟨r117, hr118, h⟩ := ob h
 refine st hE (st_call (vs := [(.int .i64 p0), v0_8, (.int .i64 (p1.length : Int))]) hE rfl Try.call20 (c_encode_Decode (hS := hS) ha0 hv0_10 (inR_len (RV_len (ha1.mono hm7))) hr118)) rfl ?_
 rintro _ a w ⟨m119, hm120, hS, v0_121, v1_122, rfl, hv0_123, hv1_124⟩ hE
 obtain ⟨rfl, hr126⟩ := RV_int hv1_124
 refine sp hE (r_move hE rfl) rfl fun a hE => ?_
 refine sp hE (r_extract hE rfl rfl) rfl fun a hE => ?_
 refine sp hE (r_extract hE rfl rfl) rfl fun a hE => ?_
 refine sp hE (r_assign hE rfl) rfl fun a hE => ?_
 refine sp hE (r_assign hE rfl) rfl fun a hE => ?_
 refine knil ?_
 refine kseq ?_
 refine kcut (fun a w => ∃ x134 : Bool, hayloftlaw06_EncodeBack_j4 p0 p1 p2 x134 = some r ∧ ∃ m', M.le m119 m' ∧ S W0 m' w (L) (TL) ∧ Env 73 a [(0, (.int .i64 p0)), (1, v1), (2, v2), (38, (.bool x134))]) ?_ ?_
 {
 refine kreg ?_
 refine sp hE (r_move hE rfl) rfl fun a hE => ?_
 refine sp hE (r_bin hE rfl rfl b_neq) rfl fun a hE => ?_
 refine sp hE (r_move hE rfl) rfl fun a hE => ?_
 rcases Bool.eq_false_or_eq_true (r117.2 != 0) with hd141 | hd141
 {
 have h := ite_T hd141 h
 refine sx hE rfl rfl rfl rfl hd141 rfl fun a hE => ?_
 refine sx hE rfl rfl rfl rfl hd141 rfl fun a hE => ?_
 refine sx hE rfl rfl rfl rfl hd141 rfl fun a hE => ?_
 refine sx hE rfl rfl rfl rfl hd141 rfl fun a hE => ?_
 refine sp hE (r_pickT hE rfl hd141 rfl) rfl fun a hE => ?_
 refine knil ?_
 exact ⟨true, h, _, (M.le.refl _), hS, hE.cut ⟨rfl, rfl, rfl, rfl, trivial⟩⟩
 }
 {
 have h := ite_F hd141 h
 refine spg hE rfl rfl rfl rfl hd141 (r_move hE rfl) rfl fun a hE => ?_
 refine spg hE rfl rfl rfl rfl hd141 (r_move hE rfl) rfl fun a hE => ?_
 obtain ⟨r145, hr146, h⟩ := ob h
 refine stg hE rfl rfl rfl rfl hd141 (st_call (vs := [v0_121, v1]) hE rfl Try.call23 (c_hayloftref02_SameRow (hS := hS) hv0_123 (ha1.mono (M.le.trans hm7 hm120)) hr146)) rfl ?_
 rintro v150 a w ⟨m147, hm148, hS, hv149⟩ hE
 obtain rfl := RV_bool hv149
 refine spg hE rfl rfl rfl rfl hd141 (r_not hE rfl) rfl fun a hE => ?_
 refine sp hE (r_pickF hE rfl hd141 rfl) rfl fun a hE => ?_
 refine knil ?_
 exact ⟨(!r145), h, _, hm148, hS, hE.cut ⟨rfl, rfl, rfl, rfl, trivial⟩⟩
 }
 }
 {
 rintro a w ⟨x134, h, m132, hm133, hS, hE⟩
 unfold hayloftlaw06_EncodeBack_j4 at h
 refine kif hE rfl (fun hd136 => ?_) (fun hd136 => ?_)
 {
 have h := ite_T hd136 h
 refine kseq ?_
 refine kreg ?_
 refine sp hE (r_assign hE rfl) rfl fun a hE => ?_
 refine knil ?_
 refine kret ?_
 obtain rfl := Option.some.inj h
 try dsimp only
 refine Fin.mk (fn := Try.f5) hE (rs := [.tmp 6]) rfl (ResL.tmp hE rfl ResL.nil) ?_
 exact ⟨_, (M.le.trans hm7 (M.le.trans hm120 hm133)), hS, RV_of_bool⟩
 }
 {
 have h := ite_F hd136 h
 refine kskip ?_
 exact ⟨h, _, (M.le.trans hm120 hm133), hS, hE.cut ⟨rfl, rfl, rfl, trivial⟩⟩
 }
 }
 }
 {
 have h := ite_F hd112 h
 refine kskip ?_
 exact ⟨h, _, (M.le.refl _), hS, hE.cut ⟨rfl, rfl, rfl, trivial⟩⟩
 }
 }
 {
 rintro a w ⟨h, m21, hm22, hS, hE⟩
 unfold hayloftlaw06_EncodeBack_j1 at h
 refine kseq ?_
 refine kreg ?_
 refine sp hE (r_move hE rfl) rfl fun a hE => ?_
 refine sp hE (r_move hE rfl) rfl fun a hE => ?_
 refine sp hE (r_move hE rfl) rfl fun a hE => ?_
 refine sp hE (r_lenSl (k := kApi_Value) hE rfl rfl Try.underlying29 (ha1.mono (M.le.trans hm7 hm22))) rfl fun a hE => ?_
 obtain ⟨r28, hr29, h⟩ := ob h
 refine st hE (st_call (vs := [(.int .i64 p0), v2, (.int .i64 (p1.length : Int))]) hE rfl Try.call20 (c_encode_Decode (hS := hS) ha0 (ha2.mono (M.le.trans hm7 hm22)) (inR_len (RV_len (ha1.mono (M.le.trans hm7 hm22)))) hr29)) rfl ?_
 rintro _ a w ⟨m30, hm31, hS, v0_32, v1_33, rfl, hv0_34, hv1_35⟩ hE
 obtain ⟨rfl, hr37⟩ := RV_int hv1_35
 refine sp hE (r_move hE rfl) rfl fun a hE => ?_
 refine sp hE (r_extract hE rfl rfl) rfl fun a hE => ?_
 refine sp hE (r_extract hE rfl rfl) rfl fun a hE => ?_
 refine sp hE (r_assign hE rfl) rfl fun a hE => ?_
 refine sp hE (r_assign hE rfl) rfl fun a hE => ?_
 refine knil ?_
 refine kseq ?_
 refine kseq ?_
 refine kreg ?_
 refine sp hE (r_move hE rfl) rfl fun a hE => ?_
 refine sp hE (r_bin hE rfl rfl b_neq) rfl fun a hE => ?_
 refine knil ?_
 refine kif hE rfl (fun hd45 => ?_) (fun hd45 => ?_)
 {
 have h := ite_T hd45 h
 refine kseq ?_
 refine kcut (fun a w => ∃ x48 : Bool, hayloftlaw06_EncodeBack_j2 x48 = some r ∧ ∃ m', M.le m30 m' ∧ S W0 m' w (L) (TL) ∧ Env 73 a [(6, (.bool x48))]) ?_ ?_
 {
 refine kreg ?_
 obtain ⟨r50, hr51, h⟩ := ob h
 refine st hE (st_call (vs := []) hE rfl Try.call22 (c_hayloftlaw06_alive (hS := hS) hr51)) rfl ?_
 rintro v55 a w ⟨m52, hm53, hS, hv54⟩ hE
 obtain rfl := RV_bool hv54
 refine sp hE (r_move hE rfl) rfl fun a hE => ?_
 rcases Bool.eq_false_or_eq_true r50 with hd57 | hd57
 {
 have h := ite_T hd57 h
 refine spg hE rfl rfl rfl rfl hd57 (r_move hE rfl) rfl fun a hE => ?_
 refine spg hE rfl rfl rfl rfl hd57 (r_lenSl (k := kApi_Value) hE rfl rfl Try.underlying29 (hv0_34.mono hm53)) rfl fun a hE => ?_
 refine spg hE rfl rfl rfl rfl hd57 (r_bin hE rfl rfl b_eql) rfl fun a hE => ?_
 refine sp hE (r_pickT hE rfl hd57 rfl) rfl fun a hE => ?_
 refine sp hE (r_assign hE rfl) rfl fun a hE => ?_
 refine knil ?_
 exact ⟨((r28.1.length : Int) == 0), h, _, hm53, hS, hE.cut ⟨rfl, trivial⟩⟩
 }
 {
 have h := ite_F hd57 h
 refine sx hE rfl rfl rfl rfl hd57 rfl fun a hE => ?_
 refine sx hE rfl rfl rfl rfl hd57 rfl fun a hE => ?_
 refine sx hE rfl rfl rfl rfl hd57 rfl fun a hE => ?_
 refine sp hE (r_pickF hE rfl hd57 rfl) rfl fun a hE => ?_
 refine sp hE (r_assign hE rfl) rfl fun a hE => ?_
 refine knil ?_
 exact ⟨false, h, _, hm53, hS, hE.cut ⟨rfl, trivial⟩⟩
 }
 }
 {
 rintro a w ⟨x48, h, m46, hm47, hS, hE⟩
 unfold hayloftlaw06_EncodeBack_j2 at h
 refine kret ?_
 obtain rfl := Option.some.inj h
 try dsimp only
 refine Fin.mk (fn := Try.f5) hE (rs := [.tmp 6]) rfl (ResL.tmp hE rfl ResL.nil) ?_
 exact ⟨_, (M.le.trans hm7 (M.le.trans hm22 (M.le.trans hm31 hm47))), hS, RV_of_bool⟩
 }
 }
 {
 have h := ite_F hd45 h
 refine kskip ?_
 refine kseq ?_
 refine kreg ?_
 refine sp hE (r_move hE rfl) rfl fun a hE => ?_
 refine sp hE (r_move hE rfl) rfl fun a hE => ?_
 obtain ⟨r67, hr68, h⟩ := ob h
 refine st hE (st_call (vs := [(.int .i64 p0), v0_32]) hE rfl Try.call24 (c_encode_Encode (hS := hS) ha0 hv0_34 hr68)) rfl ?_
 rintro _ a w ⟨m69, hm70, hS, v0_71, v1_72, rfl, hv0_73, hv1_74⟩ hE
 obtain ⟨rfl, hr76⟩ := RV_int hv1_74
 refine sp hE (r_move hE rfl) rfl fun a hE => ?_
 refine sp hE (r_extract hE rfl rfl) rfl fun a hE => ?_
 refine sp hE (r_extract hE rfl rfl) rfl fun a hE => ?_
 refine sp hE (r_assign hE rfl) rfl fun a hE => ?_
 refine sp hE (r_assign hE rfl) rfl fun a hE => ?_
 refine knil ?_
 refine kseq ?_
 refine kcut (fun a w => ∃ x84 : Bool, hayloftlaw06_EncodeBack_j3 x84 = some r ∧ ∃ m', M.le m69 m' ∧ S W0 m' w (L) (TL) ∧ Env 73 a [(6, (.bool x84))]) ?_ ?_
 {
 refine kreg ?_
 obtain ⟨r86, hr87, h⟩ := ob h
 refine st hE (st_call (vs := []) hE rfl Try.call22 (c_hayloftlaw06_alive (hS := hS) hr87)) rfl ?_
 rintro v91 a w ⟨m88, hm89, hS, hv90⟩ hE
 obtain rfl := RV_bool hv90
 refine sp hE (r_move hE rfl) rfl fun a hE => ?_
 rcases Bool.eq_false_or_eq_true r86 with hd93 | hd93
 {
 have h := ite_T hd93 h
 refine spg hE rfl rfl rfl rfl hd93 (r_move hE rfl) rfl fun a hE => ?_
 refine spg hE rfl rfl rfl rfl hd93 (r_bin hE rfl rfl b_eql) rfl fun a hE => ?_
 refine sp hE (r_pickT hE rfl hd93 rfl) rfl fun a hE => ?_
 refine sp hE (r_move hE rfl) rfl fun a hE => ?_
 rcases Bool.eq_false_or_eq_true (r67.2 == 0) with hd98 | hd98
 {
 have h := ite_T hd98 h
 refine spg hE rfl rfl rfl rfl hd98 (r_move hE rfl) rfl fun a hE => ?_
 refine spg hE rfl rfl rfl rfl hd98 (r_bytes hE hS rfl Try.underlying37 Try.underlying5 Try.underlying9 (hv0_73.mono hm89)) rfl fun a hE => ?_
 refine spg hE rfl rfl rfl rfl hd98 (r_move hE rfl) rfl fun a hE => ?_
 refine spg hE rfl rfl rfl rfl hd98 (r_bytes hE hS rfl Try.underlying37 Try.underlying5 Try.underlying9 (ha2.mono (M.le.trans hm7 (M.le.trans hm22 (M.le.trans hm31 (M.le.trans hm70 hm89)))))) rfl fun a hE => ?_
 refine spg hE rfl rfl rfl rfl hd98 (r_eqlS hE rfl rfl (RV_bytes (hv0_73.mono hm89)) (RV_bytes (ha2.mono (M.le.trans hm7 (M.le.trans hm22 (M.le.trans hm31 (M.le.trans hm70 hm89))))))) rfl fun a hE => ?_
 refine sp hE (r_pickT hE rfl hd98 rfl) rfl fun a hE => ?_
 refine sp hE (r_assign hE rfl) rfl fun a hE => ?_
 refine knil ?_
 exact ⟨(decide (r67.1 = p2)), h, _, hm89, hS, hE.cut ⟨rfl, trivial⟩⟩
 }
 {
 have h := ite_F hd98 h
 refine sx hE rfl rfl rfl rfl hd98 rfl fun a hE => ?_
 refine sx hE rfl rfl rfl rfl hd98 rfl fun a hE => ?_
 refine sx hE rfl rfl rfl rfl hd98 rfl fun a hE => ?_
 refine sx hE rfl rfl rfl rfl hd98 rfl fun a hE => ?_
 refine sx hE rfl rfl rfl rfl hd98 rfl fun a hE => ?_
 refine sp hE (r_pickF hE rfl hd98 rfl) rfl fun a hE => ?_
 refine sp hE (r_assign hE rfl) rfl fun a hE => ?_
 refine knil ?_
 exact ⟨false, h, _, hm89, hS, hE.cut ⟨rfl, trivial⟩⟩
 }
 }
 {
 have h := ite_F hd93 h
 refine sx hE rfl rfl rfl rfl hd93 rfl fun a hE => ?_
 refine sx hE rfl rfl rfl rfl hd93 rfl fun a hE => ?_
 refine sp hE (r_pickF hE rfl hd93 rfl) rfl fun a hE => ?_
 refine sp hE (r_move hE rfl) rfl fun a hE => ?_
 refine sx hE rfl rfl rfl rfl rfl rfl fun a hE => ?_
 refine sx hE rfl rfl rfl rfl rfl rfl fun a hE => ?_
 refine sx hE rfl rfl rfl rfl rfl rfl fun a hE => ?_
 refine sx hE rfl rfl rfl rfl rfl rfl fun a hE => ?_
 refine sx hE rfl rfl rfl rfl rfl rfl fun a hE => ?_
 refine sp hE (r_pickF hE rfl rfl rfl) rfl fun a hE => ?_
 refine sp hE (r_assign hE rfl) rfl fun a hE => ?_
 refine knil ?_
 exact ⟨false, h, _, hm89, hS, hE.cut ⟨rfl, trivial⟩⟩
 }
 }
 {
 rintro a w ⟨x84, h, m82, hm83, hS, hE⟩
 unfold hayloftlaw06_EncodeBack_j3 at h
 refine kret ?_
 obtain rfl := Option.some.inj h
 try dsimp only
 refine Fin.mk (fn := Try.f5) hE (rs := [.tmp 6]) rfl (ResL.tmp hE rfl ResL.nil) ?_
 exact ⟨_, (M.le.trans hm7 (M.le.trans hm22 (M.le.trans hm31 (M.le.trans hm70 hm83)))), hS, RV_of_bool⟩
 }
 }
 }
/- 26 -/
/- 6 -/
end Go.Proofs.Ytifobhaccglckaa.Hay
