import Derived.Test.YtifobhaccglckaaHbkC2
set_option maxRecDepth 100000
set_option maxHeartbeats 4000000
set_option linter.unusedVariables false
namespace Go.Proofs.Ytifobhaccglckaa.Hay
open Go.Proofs
theorem c_hayloftref02_less {W0 : Bse} {m : M} {w : World} {L : List (Nat × List Value)} {TL : List (Nat × Value)} (hS : S W0 m w (L) (TL)) {v0 : Value} {p0 : AV} (ha0 : RV kAV m v0 p0) {v1 : Value} {p1 : AV} (ha1 : RV kAV m v1 p1) {r : Bool} (h : hayloftref02_less p0 p1 = some r) :
    Calls Try.prog 121 [v0, v1].toArray w (Ret fun v w' => ∃ m', M.le m m' ∧ S W0 m' w' (L) (TL) ∧ RV kBool m' v r) := by
 refine kcall Try.func121 rfl Try.ntmps121 (Nat.le_of_ble_eq_true rfl) fun a hE => ?_
 have hE : Env 43 a [(0, v0), (1, v1)] := hE
 unfold hayloftref02_less at h
 refine kseq (kreg ?_)
 refine st hE (st_box (k := kAV) hE hS rfl ha0) rfl ?_
 rintro _ a w ⟨b1, cs2, rfl, hc3, hS⟩ hE
 refine st hE (st_box (k := kAV) hE hS rfl ha1) rfl ?_
 rintro _ a w ⟨b5, cs6, rfl, hc7, hS⟩ hE
 refine qa hE rfl rfl fun a hE => ?_
 refine knil (kseq (kseq (kreg ?_)))
 refine sp hE (r_fieldL hE fo53_0 rfl) rfl fun a hE => ?_
 refine st hE (st_loadL hE hS ty3 rfl (i := 1) rfl (fl53_0.R_drop (R_whole hc3))) rfl ?_
 rintro v12 a _ ⟨rfl, hv11⟩ hE
 obtain ⟨rfl, hr13⟩ := RV_int hv11
 refine sp hE (r_fieldL hE fo53_0 rfl) rfl fun a hE => ?_
 refine st hE (st_loadL hE hS ty3 rfl (i := 0) rfl (fl53_0.R_drop (R_whole hc7))) rfl ?_
 rintro v16 a _ ⟨rfl, hv15⟩ hE
 obtain ⟨rfl, hr17⟩ := RV_int hv15
 refine sp hE (r_bin hE rfl rfl b_neq) rfl fun a hE => ?_
 refine knil ?_
 refine kif hE rfl (fun hd19 => ?_) (fun hd19 => ?_)
 {
 have h := ite_T hd19 h
 refine kseq (kreg ?_)
 refine sp hE (r_fieldL hE fo53_0 rfl) rfl fun a hE => ?_
 refine st hE (st_loadL hE hS ty3 rfl (i := 1) rfl (fl53_0.R_drop (R_whole hc3))) rfl ?_
 rintro v22 a _ ⟨rfl, hv21⟩ hE
 obtain ⟨rfl, hr23⟩ := RV_int hv21
 refine sp hE (r_fieldL hE fo53_0 rfl) rfl fun a hE => ?_
 refine st hE (st_loadL hE hS ty3 rfl (i := 0) rfl (fl53_0.R_drop (R_whole hc7))) rfl ?_
 rintro v26 a _ ⟨rfl, hv25⟩ hE
 obtain ⟨rfl, hr27⟩ := RV_int hv25
 refine sp hE (r_bin hE rfl rfl b_lss) rfl fun a hE => ?_
 refine qa hE rfl rfl fun a hE => ?_
 refine knil (kret ?_)
 obtain rfl := oi h
 try dsimp only
 refine Fin.mk hE (rs := [.tmp 4]) rfl (ResL.tmp hE rfl ResL.nil) ?_
 exact ⟨_, (M.le.refl _), (hS.dropL 2), RV_of_bool⟩
 }
 {
 have h := ite_F hd19 h
 refine kskip (kseq (kseq (kreg ?_)))
 refine sp hE (r_fieldL hE fo53_0 rfl) rfl fun a hE => ?_
 refine st hE (st_loadL hE hS ty3 rfl (i := 1) rfl (fl53_0.R_drop (R_whole hc3))) rfl ?_
 rintro v32 a _ ⟨rfl, hv31⟩ hE
 obtain ⟨rfl, hr33⟩ := RV_int hv31
 refine sp hE (r_bin hE rfl rfl b_eql) rfl fun a hE => ?_
 refine knil ?_
 refine kif hE rfl (fun hd35 => ?_) (fun hd35 => ?_)
 {
 have h := ite_T hd35 h
 refine kseq ?_
 refine kcut (fun a w => ∃ x38 : Bool, hayloftref02_less_j1 x38 = some r ∧ ∃ m', M.le m m' ∧ S W0 m' w ((b5, cs6) :: (b1, cs2) :: L) (TL) ∧ Env 43 a [(4, (.bool x38))]) ?_ ?_
 {
 refine kreg ?_
 refine sp hE (r_fieldL hE fo53_1 rfl) rfl fun a hE => ?_
 refine st hE (st_loadL hE hS ty4 rfl (i := 1) rfl (fl53_1.R_drop (R_whole hc3))) rfl ?_
 rintro v42 a _ ⟨rfl, hv41⟩ hE
 obtain rfl := RV_bool hv41
 refine sp hE (r_not hE rfl) rfl fun a hE => ?_
 refine qm hE rfl rfl fun a hE => ?_
 rcases Bool.eq_false_or_eq_true (!p0.fBool) with hd45 | hd45
 {
 have h := ite_T hd45 h
 refine spg hE rfl rfl rfl rfl hd45 (r_fieldL hE fo53_1 rfl) rfl fun a hE => ?_
 refine stg hE rfl rfl rfl rfl hd45 (st_loadL hE hS ty4 rfl (i := 0) rfl (fl53_1.R_drop (R_whole hc7))) rfl ?_
 rintro v48 a _ ⟨rfl, hv47⟩ hE
 obtain rfl := RV_bool hv47
 refine sp hE (r_pickT hE rfl hd45 rfl) rfl fun a hE => ?_
 refine qa hE rfl rfl fun a hE => ?_
 refine knil ?_
 exact ⟨p1.fBool, h, _, (M.le.refl _), hS, hE.cut ⟨rfl, trivial⟩⟩
 }
 {
 have h := ite_F hd45 h
 refine sx hE rfl rfl rfl rfl hd45 rfl fun a hE => ?_
 refine sx hE rfl rfl rfl rfl hd45 rfl fun a hE => ?_
 refine sp hE (r_pickF hE rfl hd45 rfl) rfl fun a hE => ?_
 refine qa hE rfl rfl fun a hE => ?_
 refine knil ?_
 exact ⟨false, h, _, (M.le.refl _), hS, hE.cut ⟨rfl, trivial⟩⟩
 }
 }
 {
 rintro a w ⟨x38, h, m36, hm37, hS, hE⟩
 unfold hayloftref02_less_j1 at h
 refine kret ?_
 obtain rfl := oi h
 try dsimp only
 refine Fin.mk hE (rs := [.tmp 4]) rfl (ResL.tmp hE rfl ResL.nil) ?_
 exact ⟨_, hm37, (hS.dropL 2), RV_of_bool⟩
 }
 }
 {
 have h := ite_F hd35 h
 refine kskip (kseq (kseq (kreg ?_)))
 refine sp hE (r_fieldL hE fo53_0 rfl) rfl fun a hE => ?_
 refine st hE (st_loadL hE hS ty3 rfl (i := 1) rfl (fl53_0.R_drop (R_whole hc3))) rfl ?_
 rintro v55 a _ ⟨rfl, hv54⟩ hE
 obtain ⟨rfl, hr56⟩ := RV_int hv54
 refine sp hE (r_bin hE rfl rfl b_eql) rfl fun a hE => ?_
 refine knil ?_
 refine kif hE rfl (fun hd58 => ?_) (fun hd58 => ?_)
 {
 have h := ite_T hd58 h
 refine kseq (kreg ?_)
 refine sp hE (r_fieldL hE fo53_2 rfl) rfl fun a hE => ?_
 refine st hE (st_loadL hE hS ty2 rfl (i := 1) rfl (fl53_2.R_drop (R_whole hc3))) rfl ?_
 rintro v61 a _ ⟨rfl, hv60⟩ hE
 obtain ⟨rfl, hr62⟩ := RV_int hv60
 refine sp hE (r_fieldL hE fo53_2 rfl) rfl fun a hE => ?_
 refine st hE (st_loadL hE hS ty2 rfl (i := 0) rfl (fl53_2.R_drop (R_whole hc7))) rfl ?_
 rintro v65 a _ ⟨rfl, hv64⟩ hE
 obtain ⟨rfl, hr66⟩ := RV_int hv64
 refine sp hE (r_bin hE rfl rfl b_lss) rfl fun a hE => ?_
 refine qa hE rfl rfl fun a hE => ?_
 refine knil (kret ?_)
 obtain rfl := oi h
 try dsimp only
 refine Fin.mk hE (rs := [.tmp 4]) rfl (ResL.tmp hE rfl ResL.nil) ?_
 exact ⟨_, (M.le.refl _), (hS.dropL 2), RV_of_bool⟩
 }
 {
 have h := ite_F hd58 h
 refine kskip (kseq ?_)
 refine kcut (fun a w => ∃ x71 : Bool, hayloftref02_less_j2 x71 = some r ∧ ∃ m', M.le m m' ∧ S W0 m' w ((b5, cs6) :: (b1, cs2) :: L) (TL) ∧ Env 43 a [(4, (.bool x71))]) ?_ ?_
 {
 refine kreg ?_
 refine sp hE (r_fieldL hE fo53_0 rfl) rfl fun a hE => ?_
 refine st hE (st_loadL hE hS ty3 rfl (i := 1) rfl (fl53_0.R_drop (R_whole hc3))) rfl ?_
 rintro v75 a _ ⟨rfl, hv74⟩ hE
 obtain ⟨rfl, hr76⟩ := RV_int hv74
 refine sp hE (r_bin hE rfl rfl b_eql) rfl fun a hE => ?_
 refine qm hE rfl rfl fun a hE => ?_
 rcases Bool.eq_false_or_eq_true (p0.fKind == 3) with hd79 | hd79
 {
 have h := ite_T hd79 h
 refine spg hE rfl rfl rfl rfl hd79 (r_fieldL hE fo53_3 rfl) rfl fun a hE => ?_
 refine stg hE rfl rfl rfl rfl hd79 (st_loadL hE hS ty9 rfl (i := 1) rfl (fl53_3.R_drop (R_whole hc3))) rfl ?_
 rintro v82 a _ ⟨rfl, hv81⟩ hE
 obtain ⟨rfl, hb83, hl84⟩ := RV_str hv81
 refine spg hE rfl rfl rfl rfl hd79 (r_fieldL hE fo53_3 rfl) rfl fun a hE => ?_
 refine stg hE rfl rfl rfl rfl hd79 (st_loadL hE hS ty9 rfl (i := 0) rfl (fl53_3.R_drop (R_whole hc7))) rfl ?_
 rintro v87 a _ ⟨rfl, hv86⟩ hE
 obtain ⟨rfl, hb88, hl89⟩ := RV_str hv86
 refine spg hE rfl rfl rfl rfl hd79 (r_lssS hE rfl rfl hb83 hb88) rfl fun a hE => ?_
 refine sp hE (r_pickT hE rfl hd79 rfl) rfl fun a hE => ?_
 refine qa hE rfl rfl fun a hE => ?_
 refine knil ?_
 exact ⟨(ltB p0.fText p1.fText), h, _, (M.le.refl _), hS, hE.cut ⟨rfl, trivial⟩⟩
 }
 {
 have h := ite_F hd79 h
 refine sx hE rfl rfl rfl rfl hd79 rfl fun a hE => ?_
 refine sx hE rfl rfl rfl rfl hd79 rfl fun a hE => ?_
 refine sx hE rfl rfl rfl rfl hd79 rfl fun a hE => ?_
 refine sx hE rfl rfl rfl rfl hd79 rfl fun a hE => ?_
 refine sx hE rfl rfl rfl rfl hd79 rfl fun a hE => ?_
 refine sp hE (r_pickF hE rfl hd79 rfl) rfl fun a hE => ?_
 refine qa hE rfl rfl fun a hE => ?_
 refine knil ?_
 exact ⟨false, h, _, (M.le.refl _), hS, hE.cut ⟨rfl, trivial⟩⟩
 }
 }
 {
 rintro a w ⟨x71, h, m69, hm70, hS, hE⟩
 unfold hayloftref02_less_j2 at h
 refine kret ?_
 obtain rfl := oi h
 try dsimp only
 refine Fin.mk hE (rs := [.tmp 4]) rfl (ResL.tmp hE rfl ResL.nil) ?_
 exact ⟨_, hm70, (hS.dropL 2), RV_of_bool⟩
 }
 }
 }
 }
theorem c_hayloftref02_Compare {W0 : Bse} {m : M} {w : World} {L : List (Nat × List Value)} {TL : List (Nat × Value)} (hS : S W0 m w (L) (TL)) {v0 : Value} {p0 : AV} (ha0 : RV kAV m v0 p0) {v1 : Value} {p1 : AV} (ha1 : RV kAV m v1 p1) {r : Int} (h : hayloftref02_Compare p0 p1 = some r) :
    Calls Try.prog 75 [v0, v1].toArray w (Ret fun v w' => ∃ m', M.le m m' ∧ S W0 m' w' (L) (TL) ∧ RV (kInt .i64) m' v r) := by
 refine kcall Try.func75 rfl Try.ntmps75 (Nat.le_of_ble_eq_true rfl) fun a hE => ?_
 have hE : Env 15 a [(0, v0), (1, v1)] := hE
 unfold hayloftref02_Compare at h
 refine kseq (kreg ?_)
 refine st hE (st_box (k := kAV) hE hS rfl ha0) rfl ?_
 rintro _ a w ⟨b1, cs2, rfl, hc3, hS⟩ hE
 refine st hE (st_box (k := kAV) hE hS rfl ha1) rfl ?_
 rintro _ a w ⟨b5, cs6, rfl, hc7, hS⟩ hE
 refine qa hE rfl rfl fun a hE => ?_
 refine knil (kseq (kreg ?_))
 refine st hE (st_loadL hE hS ty53 rfl (i := 1) rfl (R_whole hc3)) rfl ?_
 rintro v11 a _ ⟨rfl, hv10⟩ hE
 refine st hE (st_loadL hE hS ty53 rfl (i := 0) rfl (R_whole hc7)) rfl ?_
 rintro v13 a _ ⟨rfl, hv12⟩ hE
 obtain ⟨r14, hr15, h⟩ := ob h
 refine st hE (st_call (vs := [v11, v13]) hE rfl Try.call121 (c_hayloftref02_less (hS := hS) hv10 hv12 hr15)) rfl ?_
 rintro v19 a w ⟨m16, hm17, hS, hv18⟩ hE
 obtain rfl := RV_bool hv18
 refine qa hE rfl rfl fun a hE => ?_
 refine knil (kseq (kreg ?_))
 refine st hE (st_loadL hE hS ty53 rfl (i := 0) rfl (R_whole (kAV.mono hm17 hc7))) rfl ?_
 rintro v22 a _ ⟨rfl, hv21⟩ hE
 refine st hE (st_loadL hE hS ty53 rfl (i := 1) rfl (R_whole (kAV.mono hm17 hc3))) rfl ?_
 rintro v24 a _ ⟨rfl, hv23⟩ hE
 obtain ⟨r25, hr26, h⟩ := ob h
 refine st hE (st_call (vs := [v22, v24]) hE rfl Try.call121 (c_hayloftref02_less (hS := hS) hv21 hv23 hr26)) rfl ?_
 rintro v30 a w ⟨m27, hm28, hS, hv29⟩ hE
 obtain rfl := RV_bool hv29
 refine qa hE rfl rfl fun a hE => ?_
 refine knil (kseq (kseq (kreg ?_)))
 refine qm hE rfl rfl fun a hE => ?_
 refine knil ?_
 refine kif hE rfl (fun hd33 => ?_) (fun hd33 => ?_)
 {
 have h := ite_T hd33 h
 refine kseq (kreg ?_)
 refine qa hE rfl rfl fun a hE => ?_
 refine knil (kret ?_)
 obtain rfl := oi h
 try dsimp only
 refine Fin.mk hE (rs := [.tmp 4]) rfl (ResL.tmp hE rfl ResL.nil) ?_
 exact ⟨_, (M.le.trans hm17 hm28), (hS.dropL 2), (RV_of_int (show inR .i64 (-1) from inR_lit (by decide)))⟩
 }
 {
 have h := ite_F hd33 h
 refine kskip (kseq (kseq (kreg ?_)))
 refine qm hE rfl rfl fun a hE => ?_
 refine knil ?_
 refine kif hE rfl (fun hd36 => ?_) (fun hd36 => ?_)
 {
 have h := ite_T hd36 h
 refine kseq (kreg ?_)
 refine qa hE rfl rfl fun a hE => ?_
 refine knil (kret ?_)
 obtain rfl := oi h
 try dsimp only
 refine Fin.mk hE (rs := [.tmp 4]) rfl (ResL.tmp hE rfl ResL.nil) ?_
 exact ⟨_, (M.le.trans hm17 hm28), (hS.dropL 2), (RV_of_int (show inR .i64 1 from inR_lit (by decide)))⟩
 }
 {
 have h := ite_F hd36 h
 refine kskip (kseq (kreg ?_))
 refine qa hE rfl rfl fun a hE => ?_
 refine knil (kret ?_)
 obtain rfl := oi h
 try dsimp only
 refine Fin.mk hE (rs := [.tmp 4]) rfl (ResL.tmp hE rfl ResL.nil) ?_
 exact ⟨_, (M.le.trans hm17 hm28), (hS.dropL 2), (RV_of_int (show inR .i64 0 from inR_lit (by decide)))⟩
 }
 }
theorem c_encode_Best {W0 : Bse} {m : M} {w : World} {L : List (Nat × List Value)} {TL : List (Nat × Value)} (hS : S W0 m w (L) (TL)) {v0 : Value} {p0 : (List AV)} (ha0 : RV (kSl kAV) m v0 p0) {r : Int} (h : encode_Best p0 = some r) :
    Calls Try.prog 25 [v0].toArray w (Ret fun v w' => ∃ m', M.le m m' ∧ S W0 m' w' (L) (TL) ∧ RV (kInt .i64) m' v r) := by
 refine kcall Try.func25 rfl Try.ntmps25 (Nat.le_of_ble_eq_true rfl) fun a hE => ?_
 have hE : Env 34 a [(0, v0)] := hE
 unfold encode_Best at h
 refine kseq (kreg ?_)
 refine qa hE rfl rfl fun a hE => ?_
 refine knil (kseq (kreg ?_))
 refine qa hE rfl rfl fun a hE => ?_
 refine qa hE rfl rfl fun a hE => ?_
 refine knil (kseq (kseq (kreg ?_)))
 refine qa hE rfl rfl fun a hE => ?_
 refine knil ?_
 refine kcut (fun a w => ∃ x7 : Int, encode_Best_j1 x7 = some r ∧ ∃ m', M.le m m' ∧ inR .i64 x7 ∧ S W0 m' w (L) (TL) ∧ Env 34 a [(3, (.int .i64 x7))]) ?_ ?_
 {
 refine kblock ?_
 refine kloop h (fun (s : (Int × Int × Int)) a w => ∃ m', M.le m m' ∧ inR .i64 s.1 ∧ inR .i64 s.2.1 ∧ inR .i64 s.2.2 ∧ S W0 m' w (L) (TL) ∧ Env 34 a [(0, v0), (3, (.int .i64 s.1)), (4, (.int .i64 s.2.1)), (5, (.int .i64 s.2.2))]) ?_ ?_
 {
 exact ⟨_, (M.le.refl _), (show inR .i64 0 from inR_lit (by decide)), (show inR .i64 (-1) from inR_lit (by decide)), (show inR .i64 0 from inR_lit (by decide)), hS, hE.cut ⟨rfl, rfl, rfl, rfl, trivial⟩⟩
 }
 {
 rintro ⟨x14, x16, x18⟩ a w ⟨m12, hm13, hr15, hr17, hr19, hS, hE⟩ r20 h hb21
 have h : encode_Best_b1 p0 x14 x16 x18 = some r20 := h
 unfold encode_Best_b1 at h
 refine kseq (kseq (kreg ?_))
 refine qm hE rfl rfl fun a hE => ?_
 refine sp hE (r_bin hE rfl rfl b_leq) rfl fun a hE => ?_
 refine knil ?_
 refine kif hE rfl (fun hd24 => ?_) (fun hd24 => ?_)
 {
 have h := ite_T hd24 h
 refine kskip (kseq (kblock (kseq (kreg ?_))))
 refine qm hE rfl rfl fun a hE => ?_
 refine qm hE rfl rfl fun a hE => ?_
 obtain ⟨r27, hr28, h⟩ := ob h
 refine st hE (st_call (vs := [(.int .i64 x18), v0]) hE rfl Try.call24 (c_encode_Encode (hS := hS) hr19 (ha0.mono hm13) hr28)) rfl ?_
 rintro _ a w ⟨m29, hm30, hS, v0_31, v1_32, rfl, hv0_33, hv1_34⟩ hE
 obtain ⟨rfl, hr36⟩ := RV_int hv1_34
 refine qm hE rfl rfl fun a hE => ?_
 refine sp hE (r_extract hE rfl rfl) rfl fun a hE => ?_
 refine sp hE (r_extract hE rfl rfl) rfl fun a hE => ?_
 refine qa hE rfl rfl fun a hE => ?_
 refine qa hE rfl rfl fun a hE => ?_
 refine knil (kseq ?_)
 refine kcut (fun a w => ∃ x44 : Bool, encode_Best_j2 x14 x16 x18 r27 x44 = some r20 ∧ ∃ m', M.le m29 m' ∧ S W0 m' w (L) (TL) ∧ Env 34 a [(0, v0), (3, (.int .i64 x14)), (4, (.int .i64 x16)), (5, (.int .i64 x18)), (6, v0_31), (29, (.bool x44))]) ?_ ?_
 {
 refine kreg ?_
 refine qm hE rfl rfl fun a hE => ?_
 refine sp hE (r_bin hE rfl rfl b_eql) rfl fun a hE => ?_
 refine qm hE rfl rfl fun a hE => ?_
 rcases Bool.eq_false_or_eq_true (r27.2 == 0) with hd65 | hd65
 {
 have h := ite_T hd65 h
 refine spg hE rfl rfl rfl rfl hd65 (r_move hE rfl) rfl fun a hE => ?_
 refine spg hE rfl rfl rfl rfl hd65 (r_bin hE rfl rfl b_lss) rfl fun a hE => ?_
 refine spg hE rfl rfl rfl rfl hd65 (r_move hE rfl) rfl fun a hE => ?_
 rcases Bool.eq_false_or_eq_true (decide (x16 < 0)) with hd69 | hd69
 {
 have h := ite_T hd69 h
 refine sx hE rfl rfl rfl rfl hd69 rfl fun a hE => ?_
 refine sx hE rfl rfl rfl rfl hd69 rfl fun a hE => ?_
 refine sx hE rfl rfl rfl rfl hd69 rfl fun a hE => ?_
 refine sx hE rfl rfl rfl rfl hd69 rfl fun a hE => ?_
 refine spg hE rfl rfl rfl rfl hd65 (r_pickT hE rfl hd69 rfl) rfl fun a hE => ?_
 refine sp hE (r_pickT hE rfl hd65 rfl) rfl fun a hE => ?_
 refine knil ?_
 exact ⟨true, h, _, (M.le.refl _), hS, hE.cut ⟨rfl, rfl, rfl, rfl, rfl, rfl, trivial⟩⟩
 }
 {
 have h := ite_F hd69 h
 refine spg hE rfl rfl rfl rfl hd69 (r_move hE rfl) rfl fun a hE => ?_
 refine spg hE rfl rfl rfl rfl hd69 (r_lenSl (k := (kInt .u8)) hE rfl rfl Try.underlying37 hv0_33) rfl fun a hE => ?_
 refine spg hE rfl rfl rfl rfl hd69 (r_move hE rfl) rfl fun a hE => ?_
 refine spg hE rfl rfl rfl rfl hd69 (r_bin hE rfl rfl b_lss) rfl fun a hE => ?_
 refine spg hE rfl rfl rfl rfl hd65 (r_pickF hE rfl hd69 rfl) rfl fun a hE => ?_
 refine sp hE (r_pickT hE rfl hd65 rfl) rfl fun a hE => ?_
 refine knil ?_
 exact ⟨(decide ((r27.1.length : Int) < x16)), h, _, (M.le.refl _), hS, hE.cut ⟨rfl, rfl, rfl, rfl, rfl, rfl, trivial⟩⟩
 }
 }
 {
 have h := ite_F hd65 h
 refine sx hE rfl rfl rfl rfl hd65 rfl fun a hE => ?_
 refine sx hE rfl rfl rfl rfl hd65 rfl fun a hE => ?_
 refine sx hE rfl rfl rfl rfl hd65 rfl fun a hE => ?_
 refine sxu hE rfl rfl rfl rfl fun a hE => ?_
 refine sxu hE rfl rfl rfl rfl fun a hE => ?_
 refine sxu hE rfl rfl rfl rfl fun a hE => ?_
 refine sxu hE rfl rfl rfl rfl fun a hE => ?_
 refine sx hE rfl rfl rfl rfl hd65 rfl fun a hE => ?_
 refine sp hE (r_pickF hE rfl hd65 rfl) rfl fun a hE => ?_
 refine knil ?_
 exact ⟨false, h, _, (M.le.refl _), hS, hE.cut ⟨rfl, rfl, rfl, rfl, rfl, rfl, trivial⟩⟩
 }
 }
 {
 rintro a w ⟨x44, h, m42, hm43, hS, hE⟩
 unfold encode_Best_j2 at h
 refine kcut (fun a w => ∃ x48 : Int, ∃ x50 : Int, encode_Best_j3 x18 x48 x50 = some r20 ∧ ∃ m', M.le m42 m' ∧ inR .i64 x48 ∧ inR .i64 x50 ∧ S W0 m' w (L) (TL) ∧ Env 34 a [(0, v0), (3, (.int .i64 x48)), (4, (.int .i64 x50)), (5, (.int .i64 x18))]) ?_ ?_
 {
 refine kif hE rfl (fun hd56 => ?_) (fun hd56 => ?_)
 {
 have h := ite_T hd56 h
 refine kreg ?_
 refine qm hE rfl rfl fun a hE => ?_
 refine qm hE rfl rfl fun a hE => ?_
 refine sp hE (r_lenSl (k := (kInt .u8)) hE rfl rfl Try.underlying37 (hv0_33.mono hm43)) rfl fun a hE => ?_
 refine qa hE rfl rfl fun a hE => ?_
 refine qa hE rfl rfl fun a hE => ?_
 refine knil ?_
 exact ⟨x18, (r27.1.length : Int), h, _, (M.le.refl _), hr19, (inR_len (RV_len (hv0_33.mono hm43))), hS, hE.cut ⟨rfl, rfl, rfl, rfl, trivial⟩⟩
 }
 {
 have h := ite_F hd56 h
 refine kskip ?_
 exact ⟨x14, x16, h, _, (M.le.refl _), hr15, hr17, hS, hE.cut ⟨rfl, rfl, rfl, rfl, trivial⟩⟩
 }
 }
 {
 rintro a w ⟨x48, x50, h, m46, hm47, hr49, hr51, hS, hE⟩
 unfold encode_Best_j3 at h
 refine kreg ?_
 refine qm hE rfl rfl fun a hE => ?_
 refine sp hE (r_bin hE rfl rfl (b_add rfl)) rfl fun a hE => ?_
 refine qa hE rfl rfl fun a hE => ?_
 refine knil ?_
 exact ⟨(x48, x50, IntKind.i64.wrap (x18 + 1)), (Option.some.inj h).symm, _, (M.le.trans hm13 (M.le.trans hm30 (M.le.trans hm43 hm47))), hr49, hr51, (inR_wrap _ _), hS, hE.cut ⟨rfl, rfl, rfl, rfl, trivial⟩⟩
 }
 }
 }
 {
 have h := ite_F hd24 h
 refine kexit rfl rfl ?_
 have h := unwrap h hb21
 exact ⟨x14, h, _, hm13, hr15, hS, hE.cut ⟨rfl, trivial⟩⟩
 }
 }
 }
 {
 rintro a w ⟨x7, h, m5, hm6, hr8, hS, hE⟩
 unfold encode_Best_j1 at h
 refine kseq (kreg ?_)
 refine qm hE rfl rfl fun a hE => ?_
 refine qa hE rfl rfl fun a hE => ?_
 refine knil (kret ?_)
 obtain rfl := oi h
 try dsimp only
 refine Fin.mk hE (rs := [.tmp 2]) rfl (ResL.tmp hE rfl ResL.nil) ?_
 exact ⟨_, hm6, hS, (RV_of_int hr8)⟩
 }
end Go.Proofs.Ytifobhaccglckaa.Hay
