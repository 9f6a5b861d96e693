import Derived.Test.YtifobhaccglckaaSeC2
set_option maxRecDepth 100000
set_option maxHeartbeats 4000000
set_option linter.unusedVariables false
namespace Go.Proofs.Ytifobhaccglckaa.Hay
open Go.Proofs
/- 109 -/
theorem c_hayloftref02_Right {W0 : World} {m : M} {w : World} {L : List (Nat × List Value)} {TL : List (Nat × Value)} (hS : S W0 m w (L) (TL)) {v0 : Value} {p0 : Api_Value} (ha0 : RV kApi_Value m v0 p0) {r : Bool} (h : hayloftref02_Right p0 = some r) :
    Calls Try.prog 109 [v0].toArray w (Ret fun v w' => ∃ m', M.le m m' ∧ S W0 m' w' (L) (TL) ∧ RV kBool m' v r) := by
 refine kcall Try.func109 rfl Try.ntmps109 (Nat.le_of_ble_eq_true rfl) fun a hE => ?_
 have hE : Env 44 a [(0, v0)] := hE
 unfold hayloftref02_Right at h
 refine kseq ?_
 refine kreg ?_
 refine st hE (st_box (k := kApi_Value) hE hS rfl ha0) rfl ?_
 rintro _ a w ⟨b1, cs2, rfl, hc3, hS⟩ hE
 refine sp hE (r_assign hE rfl) rfl fun a hE => ?_
 refine knil ?_
 refine kseq ?_
 refine kreg ?_
 refine sp hE (r_fieldL hE fo53_0 rfl) rfl fun a hE => ?_
 refine st hE (st_loadL hE hS ty3 rfl (i := 0) rfl (fl53_0.R_drop (R_whole hc3))) rfl ?_
 rintro v8 a _ ⟨rfl, hv7⟩ hE
 obtain ⟨rfl, hr9⟩ := RV_int hv7
 refine st hE (st_build (m := m) (k := kApi_Value) (x0 := Api_Value.zero) (xx := (⟨p0.fKind, false, 0, []⟩ : Api_Value)) (pl := [(0, 1), (1, 1), (2, 1), (3, 1)]) (pv := [(0, (.int .i64 p0.fKind))]) hE rfl Try.underlying53 rfl Try.zeroValue53 zr53 rfl (.cons rfl sf53_0 (RV_of_int hr9) .nil)) rfl ?_
 rintro v11 a _ ⟨rfl, hv10⟩ hE
 refine st hE (st_alloc hS Try.zeroValue53 rfl (cs := zc53)) rfl ?_
 rintro _ a w ⟨b12, rfl, hS⟩ hE
 refine st0 hE (st_storeF hE hS ty53 StF_self rfl rfl hv10 (i := 0) rfl (zr53 _)) ?_
 rintro _ w ⟨cs14, hc15, hS⟩ hE
 refine knil ?_
 refine kseq ?_
 refine kseq ?_
 refine kreg ?_
 refine sp hE (r_fieldL hE fo53_0 rfl) rfl fun a hE => ?_
 refine st hE (st_loadL hE hS ty3 rfl (i := 1) rfl (fl53_0.R_drop (R_whole hc3))) rfl ?_
 rintro v19 a _ ⟨rfl, hv18⟩ hE
 obtain ⟨rfl, hr20⟩ := RV_int hv18
 refine sp hE (r_bin hE rfl rfl b_eql) rfl fun a hE => ?_
 refine knil ?_
 refine kcut (fun a w => ∃ x24 : Api_Value, hayloftref02_Right_j1 p0 x24 = some r ∧ ∃ m', M.le m m' ∧ ∃ (cs25 : List Value), kApi_Value.R m' cs25 x24 ∧ S W0 m' w ((b12, cs25) :: (b1, cs2) :: L) (TL) ∧ Env 44 a [(1, (.pointer (some ⟨b1, 0, none⟩))), (3, (.pointer (some ⟨b12, 0, none⟩)))]) ?_ ?_
 {
 refine kif hE rfl (fun hd117 => ?_) (fun hd117 => ?_)
 {
 have h := ite_T hd117 h
 refine kreg ?_
 refine sp hE (r_fieldL hE fo53_1 rfl) rfl fun a hE => ?_
 refine st hE (st_loadL hE hS ty4 rfl (i := 1) rfl (fl53_1.R_drop (R_whole hc3))) rfl ?_
 rintro v120 a _ ⟨rfl, hv119⟩ hE
 obtain rfl := RV_bool hv119
 refine sp hE (r_fieldL hE fo53_1 rfl) rfl fun a hE => ?_
 refine st0 hE (st_storeF hE hS ty4 sf53_1 rfl rfl RV_of_bool (i := 0) rfl hc15) ?_
 rintro _ w ⟨cs122, hc123, hS⟩ hE
 refine knil ?_
 exact ⟨({ (⟨p0.fKind, false, 0, []⟩ : Api_Value) with fBool := p0.fBool }), h, _, (M.le.refl _), cs122, hc123, hS, hE.cut ⟨rfl, rfl, trivial⟩⟩
 }
 {
 have h := ite_F hd117 h
 refine kskip ?_
 exact ⟨(⟨p0.fKind, false, 0, []⟩ : Api_Value), h, _, (M.le.refl _), cs14, hc15, hS, hE.cut ⟨rfl, rfl, trivial⟩⟩
 }
 }
 {
 rintro a w ⟨x24, h, m22, hm23, cs25, hc26, hS, hE⟩
 unfold hayloftref02_Right_j1 at h
 refine kseq ?_
 refine kseq ?_
 refine kreg ?_
 refine sp hE (r_fieldL hE fo53_0 rfl) rfl fun a hE => ?_
 refine st hE (st_loadL hE hS ty3 rfl (i := 1) rfl (fl53_0.R_drop (R_whole (kApi_Value.mono hm23 hc3)))) rfl ?_
 rintro v30 a _ ⟨rfl, hv29⟩ hE
 obtain ⟨rfl, hr31⟩ := RV_int hv29
 refine sp hE (r_bin hE rfl rfl b_eql) rfl fun a hE => ?_
 refine knil ?_
 refine kcut (fun a w => ∃ x35 : Api_Value, hayloftref02_Right_j2 p0 x35 = some r ∧ ∃ m', M.le m22 m' ∧ ∃ (cs36 : List Value), kApi_Value.R m' cs36 x35 ∧ S W0 m' w ((b12, cs36) :: (b1, cs2) :: L) (TL) ∧ Env 44 a [(1, (.pointer (some ⟨b1, 0, none⟩))), (3, (.pointer (some ⟨b12, 0, none⟩)))]) ?_ ?_
 {
 refine kif hE rfl (fun hd108 => ?_) (fun hd108 => ?_)
 {
 have h := ite_T hd108 h
 refine kreg ?_
 refine sp hE (r_fieldL hE fo53_2 rfl) rfl fun a hE => ?_
 refine st hE (st_loadL hE hS ty2 rfl (i := 1) rfl (fl53_2.R_drop (R_whole (kApi_Value.mono hm23 hc3)))) rfl ?_
 rintro v111 a _ ⟨rfl, hv110⟩ hE
 obtain ⟨rfl, hr112⟩ := RV_int hv110
 refine sp hE (r_fieldL hE fo53_2 rfl) rfl fun a hE => ?_
 refine st0 hE (st_storeF hE hS ty2 sf53_2 rfl rfl (RV_of_int hr112) (i := 0) rfl hc26) ?_
 rintro _ w ⟨cs114, hc115, hS⟩ hE
 refine knil ?_
 exact ⟨({ x24 with fInt := p0.fInt }), h, _, (M.le.refl _), cs114, hc115, hS, hE.cut ⟨rfl, rfl, trivial⟩⟩
 }
 {
 have h := ite_F hd108 h
 refine kskip ?_
 exact ⟨x24, h, _, (M.le.refl _), cs25, hc26, hS, hE.cut ⟨rfl, rfl, trivial⟩⟩
 }
 }
 {
 rintro a w ⟨x35, h, m33, hm34, cs36, hc37, hS, hE⟩
 unfold hayloftref02_Right_j2 at h
 refine kseq ?_
 refine kseq ?_
 refine kreg ?_
 refine sp hE (r_fieldL hE fo53_0 rfl) rfl fun a hE => ?_
 refine st hE (st_loadL hE hS ty3 rfl (i := 1) rfl (fl53_0.R_drop (R_whole (kApi_Value.mono (M.le.trans hm23 hm34) hc3)))) rfl ?_
 rintro v41 a _ ⟨rfl, hv40⟩ hE
 obtain ⟨rfl, hr42⟩ := RV_int hv40
 refine sp hE (r_bin hE rfl rfl b_eql) rfl fun a hE => ?_
 refine knil ?_
 refine kcut (fun a w => ∃ x46 : Api_Value, hayloftref02_Right_j3 p0 x46 = some r ∧ ∃ m', M.le m33 m' ∧ ∃ (cs47 : List Value), kApi_Value.R m' cs47 x46 ∧ S W0 m' w ((b12, cs47) :: (b1, cs2) :: L) (TL) ∧ Env 44 a [(1, (.pointer (some ⟨b1, 0, none⟩))), (3, (.pointer (some ⟨b12, 0, none⟩)))]) ?_ ?_
 {
 refine kif hE rfl (fun hd98 => ?_) (fun hd98 => ?_)
 {
 have h := ite_T hd98 h
 refine kreg ?_
 refine sp hE (r_fieldL hE fo53_3 rfl) rfl fun a hE => ?_
 refine st hE (st_loadL hE hS ty9 rfl (i := 1) rfl (fl53_3.R_drop (R_whole (kApi_Value.mono (M.le.trans hm23 hm34) hc3)))) rfl ?_
 rintro v101 a _ ⟨rfl, hv100⟩ hE
 obtain ⟨rfl, hb102, hl103⟩ := RV_str hv100
 refine sp hE (r_fieldL hE fo53_3 rfl) rfl fun a hE => ?_
 refine st0 hE (st_storeF hE hS ty9 sf53_3 rfl rfl (RV_of_str hb102 hl103) (i := 0) rfl hc37) ?_
 rintro _ w ⟨cs105, hc106, hS⟩ hE
 refine knil ?_
 exact ⟨({ x35 with fText := p0.fText }), h, _, (M.le.refl _), cs105, hc106, hS, hE.cut ⟨rfl, rfl, trivial⟩⟩
 }
 {
 have h := ite_F hd98 h
 refine kskip ?_
 exact ⟨x35, h, _, (M.le.refl _), cs36, hc37, hS, hE.cut ⟨rfl, rfl, trivial⟩⟩
 }
 }
 {
 rintro a w ⟨x46, h, m44, hm45, cs47, hc48, hS, hE⟩
 unfold hayloftref02_Right_j3 at h
 refine kseq ?_
 refine kcut (fun a w => ∃ x52 : Bool, hayloftref02_Right_j4 x52 = some r ∧ ∃ m', M.le m44 m' ∧ S W0 m' w ((b12, cs47) :: (b1, cs2) :: L) (TL) ∧ Env 44 a [(2, (.bool x52))]) ?_ ?_
 {
 refine kreg ?_
 refine sp hE (r_fieldL hE fo53_0 rfl) rfl fun a hE => ?_
 refine st hE (st_loadL hE hS ty3 rfl (i := 1) rfl (fl53_0.R_drop (R_whole (kApi_Value.mono (M.le.trans hm23 (M.le.trans hm34 hm45)) hc3)))) rfl ?_
 rintro v56 a _ ⟨rfl, hv55⟩ hE
 obtain ⟨rfl, hr57⟩ := RV_int hv55
 refine sp hE (r_bin hE rfl rfl b_geq) rfl fun a hE => ?_
 refine sp hE (r_move hE rfl) rfl fun a hE => ?_
 rcases Bool.eq_false_or_eq_true (decide (0 ≤ p0.fKind)) with hd60 | hd60
 {
 have h := ite_T hd60 h
 refine spg hE rfl rfl rfl rfl hd60 (r_fieldL hE fo53_0 rfl) rfl fun a hE => ?_
 refine stg hE rfl rfl rfl rfl hd60 (st_loadL hE hS ty3 rfl (i := 1) rfl (fl53_0.R_drop (R_whole (kApi_Value.mono (M.le.trans hm23 (M.le.trans hm34 hm45)) hc3)))) rfl ?_
 rintro v63 a _ ⟨rfl, hv62⟩ hE
 obtain ⟨rfl, hr64⟩ := RV_int hv62
 refine spg hE rfl rfl rfl rfl hd60 (r_bin hE rfl rfl b_leq) rfl fun a hE => ?_
 refine sp hE (r_pickT hE rfl hd60 rfl) rfl fun a hE => ?_
 refine sp hE (r_move hE rfl) rfl fun a hE => ?_
 rcases Bool.eq_false_or_eq_true (decide (p0.fKind ≤ 3)) with hd68 | hd68
 {
 have h := ite_T hd68 h
 refine stg hE rfl rfl rfl rfl hd68 (st_loadL hE hS ty53 rfl (i := 1) rfl (R_whole (kApi_Value.mono (M.le.trans hm23 (M.le.trans hm34 hm45)) hc3))) rfl ?_
 rintro v70 a _ ⟨rfl, hv69⟩ hE
 refine stg hE rfl rfl rfl rfl hd68 (st_loadL hE hS ty53 rfl (i := 0) rfl (R_whole hc48)) rfl ?_
 rintro v72 a _ ⟨rfl, hv71⟩ hE
 refine spg hE rfl rfl rfl rfl hd68 (r_eqlK hE eq53 rfl rfl hv69 hv71 rfl) rfl fun a hE => ?_
 refine sp hE (r_pickT hE rfl hd68 rfl) rfl fun a hE => ?_
 refine sp hE (r_move hE rfl) rfl fun a hE => ?_
 rcases Bool.eq_false_or_eq_true (decide (p0 = x46)) with hd76 | hd76
 {
 have h := ite_T hd76 h
 refine spg hE rfl rfl rfl rfl hd76 (r_fieldL hE fo53_3 rfl) rfl fun a hE => ?_
 refine stg hE rfl rfl rfl rfl hd76 (st_loadL hE hS ty9 rfl (i := 1) rfl (fl53_3.R_drop (R_whole (kApi_Value.mono (M.le.trans hm23 (M.le.trans hm34 hm45)) hc3)))) rfl ?_
 rintro v79 a _ ⟨rfl, hv78⟩ hE
 obtain ⟨rfl, hb80, hl81⟩ := RV_str hv78
 refine spg hE rfl rfl rfl rfl hd76 (r_lenStr hE rfl rfl Try.underlying9) rfl fun a hE => ?_
 refine spg hE rfl rfl rfl rfl hd76 (r_bin hE rfl rfl b_leq) rfl fun a hE => ?_
 refine sp hE (r_pickT hE rfl hd76 rfl) rfl fun a hE => ?_
 refine sp hE (r_assign hE rfl) rfl fun a hE => ?_
 refine knil ?_
 exact ⟨(decide ((p0.fText.length : Int) ≤ 64)), h, _, (M.le.refl _), hS, hE.cut ⟨rfl, trivial⟩⟩
 }
 {
 have h := ite_F hd76 h
 refine sx hE rfl rfl rfl rfl hd76 rfl fun a hE => ?_
 refine sx hE rfl rfl rfl rfl hd76 rfl fun a hE => ?_
 refine sx hE rfl rfl rfl rfl hd76 rfl fun a hE => ?_
 refine sx hE rfl rfl rfl rfl hd76 rfl fun a hE => ?_
 refine sp hE (r_pickF hE rfl hd76 rfl) rfl fun a hE => ?_
 refine sp hE (r_assign hE rfl) rfl fun a hE => ?_
 refine knil ?_
 exact ⟨false, h, _, (M.le.refl _), hS, hE.cut ⟨rfl, trivial⟩⟩
 }
 }
 {
 have h := ite_F hd68 h
 refine sx hE rfl rfl rfl rfl hd68 rfl fun a hE => ?_
 refine sx hE rfl rfl rfl rfl hd68 rfl fun a hE => ?_
 refine sx hE rfl rfl rfl rfl hd68 rfl fun a hE => ?_
 refine sp hE (r_pickF hE rfl hd68 rfl) rfl fun a hE => ?_
 refine sp hE (r_move hE rfl) rfl fun a hE => ?_
 refine sx hE rfl rfl rfl rfl rfl rfl fun a hE => ?_
 refine sx hE rfl rfl rfl rfl rfl rfl fun a hE => ?_
 refine sx hE rfl rfl rfl rfl rfl rfl fun a hE => ?_
 refine sx hE rfl rfl rfl rfl rfl rfl fun a hE => ?_
 refine sp hE (r_pickF hE rfl rfl rfl) rfl fun a hE => ?_
 refine sp hE (r_assign hE rfl) rfl fun a hE => ?_
 refine knil ?_
 exact ⟨false, h, _, (M.le.refl _), hS, hE.cut ⟨rfl, trivial⟩⟩
 }
 }
 {
 have h := ite_F hd60 h
 refine sx hE rfl rfl rfl rfl hd60 rfl fun a hE => ?_
 refine sx hE rfl rfl rfl rfl hd60 rfl fun a hE => ?_
 refine sx hE rfl rfl rfl rfl hd60 rfl fun a hE => ?_
 refine sp hE (r_pickF hE rfl hd60 rfl) rfl fun a hE => ?_
 refine sp hE (r_move hE rfl) rfl fun a hE => ?_
 refine sx hE rfl rfl rfl rfl rfl rfl fun a hE => ?_
 refine sx hE rfl rfl rfl rfl rfl rfl fun a hE => ?_
 refine sx hE rfl rfl rfl rfl rfl rfl fun a hE => ?_
 refine sp hE (r_pickF hE rfl rfl rfl) rfl fun a hE => ?_
 refine sp hE (r_move hE rfl) rfl fun a hE => ?_
 refine sx hE rfl rfl rfl rfl rfl rfl fun a hE => ?_
 refine sx hE rfl rfl rfl rfl rfl rfl fun a hE => ?_
 refine sx hE rfl rfl rfl rfl rfl rfl fun a hE => ?_
 refine sx hE rfl rfl rfl rfl rfl rfl fun a hE => ?_
 refine sp hE (r_pickF hE rfl rfl rfl) rfl fun a hE => ?_
 refine sp hE (r_assign hE rfl) rfl fun a hE => ?_
 refine knil ?_
 exact ⟨false, h, _, (M.le.refl _), hS, hE.cut ⟨rfl, trivial⟩⟩
 }
 }
 {
 rintro a w ⟨x52, h, m50, hm51, hS, hE⟩
 unfold hayloftref02_Right_j4 at h
 refine kret ?_
 obtain rfl := Option.some.inj h
 try dsimp only
 refine Fin.mk (fn := Try.f109) hE (rs := [.tmp 2]) rfl (ResL.tmp hE rfl ResL.nil) ?_
 exact ⟨_, (M.le.trans hm23 (M.le.trans hm34 (M.le.trans hm45 hm51))), (hS.dropL 2), RV_of_bool⟩
 }
 }
 }
 }
/- 61 -/
theorem c_hayloftref06_refused {W0 : World} {m : M} {w : World} {L : List (Nat × List Value)} {TL : List (Nat × Value)} (hS : S W0 m w (L) (TL)) {p0 : Int} (ha0 : inR .i64 p0) {v1 : Value} {p1 : (List Api_Value)} (ha1 : RV (kSl kApi_Value) m v1 p1) {r : Int} (h : hayloftref06_refused p0 p1 = some r) :
    Calls Try.prog 61 [(.int .i64 p0), v1].toArray w (Ret fun v w' => ∃ m', M.le m m' ∧ S W0 m' w' (L) (TL) ∧ RV (kInt .i64) m' v r) := by
 refine kcall Try.func61 rfl Try.ntmps61 (Nat.le_of_ble_eq_true rfl) fun a hE => ?_
 have hE : Env 50 a [(0, (.int .i64 p0)), (1, v1)] := hE
 unfold hayloftref06_refused at h
 refine kseq ?_
 refine kreg ?_
 refine sp hE (r_assign hE rfl) rfl fun a hE => ?_
 refine knil ?_
 refine kseq ?_
 refine kseq ?_
 refine kcut (fun a w => ∃ x4 : Bool, hayloftref06_refused_j1 p0 p1 x4 = some r ∧ ∃ m', M.le m m' ∧ S W0 m' w (L) (TL) ∧ Env 50 a [(0, (.int .i64 p0)), (1, v1), (13, (.bool x4))]) ?_ ?_
 {
 refine kreg ?_
 refine sp hE (r_move hE rfl) rfl fun a hE => ?_
 refine sp hE (r_bin hE rfl rfl b_lss) rfl fun a hE => ?_
 refine sp hE (r_move hE rfl) rfl fun a hE => ?_
 rcases Bool.eq_false_or_eq_true (decide (p0 < 0)) with hd118 | hd118
 {
 have h := ite_T hd118 h
 refine sx hE rfl rfl rfl rfl hd118 rfl fun a hE => ?_
 refine sx hE rfl rfl rfl rfl hd118 rfl fun a hE => ?_
 refine sp hE (r_pickT hE rfl hd118 rfl) rfl fun a hE => ?_
 refine knil ?_
 exact ⟨true, h, _, (M.le.refl _), hS, hE.cut ⟨rfl, rfl, rfl, trivial⟩⟩
 }
 {
 have h := ite_F hd118 h
 refine spg hE rfl rfl rfl rfl hd118 (r_move hE rfl) rfl fun a hE => ?_
 refine spg hE rfl rfl rfl rfl hd118 (r_bin hE rfl rfl b_gtr) rfl fun a hE => ?_
 refine sp hE (r_pickF hE rfl hd118 rfl) rfl fun a hE => ?_
 refine knil ?_
 exact ⟨(decide (4 < p0)), h, _, (M.le.refl _), hS, hE.cut ⟨rfl, rfl, rfl, trivial⟩⟩
 }
 }
 {
 rintro a w ⟨x4, h, m2, hm3, hS, hE⟩
 unfold hayloftref06_refused_j1 at h
 refine kif hE rfl (fun hd6 => ?_) (fun hd6 => ?_)
 {
 have h := ite_T hd6 h
 refine kseq ?_
 refine kreg ?_
 refine sp hE (r_assign hE rfl) rfl fun a hE => ?_
 refine knil ?_
 refine kret ?_
 obtain rfl := Option.some.inj h
 try dsimp only
 refine Fin.mk (fn := Try.f61) hE (rs := [.tmp 4]) rfl (ResL.tmp hE rfl ResL.nil) ?_
 exact ⟨_, hm3, hS, (RV_of_int (show inR .i64 62 from inR_lit (by decide)))⟩
 }
 {
 have h := ite_F hd6 h
 refine kskip ?_
 refine kseq ?_
 refine kseq ?_
 refine kreg ?_
 refine sp hE (r_move hE rfl) rfl fun a hE => ?_
 refine sp hE (r_lenSl (k := kApi_Value) hE rfl rfl Try.underlying29 (ha1.mono hm3)) rfl fun a hE => ?_
 refine sp hE (r_bin hE rfl rfl b_gtr) rfl fun a hE => ?_
 refine knil ?_
 refine kif hE rfl (fun hd11 => ?_) (fun hd11 => ?_)
 {
 have h := ite_T hd11 h
 refine kseq ?_
 refine kreg ?_
 refine sp hE (r_assign hE rfl) rfl fun a hE => ?_
 refine knil ?_
 refine kret ?_
 obtain rfl := Option.some.inj h
 try dsimp only
 refine Fin.mk (fn := Try.f61) hE (rs := [.tmp 4]) rfl (ResL.tmp hE rfl ResL.nil) ?_
 exact ⟨_, hm3, hS, (RV_of_int (show inR .i64 61 from inR_lit (by decide)))⟩
 }
 {
 have h := ite_F hd11 h
 refine kskip ?_
 refine kseq ?_
 refine kseq ?_
 refine kreg ?_
 refine sp hE (r_assign hE rfl) rfl fun a hE => ?_
 refine knil ?_
 refine kcut (fun a w => hayloftref06_refused_j2 p0 p1 = some r ∧ ∃ m', M.le m2 m' ∧ S W0 m' w (L) (TL) ∧ Env 50 a [(0, (.int .i64 p0)), (1, v1)]) ?_ ?_
 {
 refine kblock ?_
 refine kloop h (fun (s : Int) a w => ∃ m', M.le m2 m' ∧ inR .i64 s ∧ S W0 m' w (L) (TL) ∧ Env 50 a [(0, (.int .i64 p0)), (1, v1), (5, (.int .i64 s))]) ?_ ?_
 {
 exact ⟨_, (M.le.refl _), (show inR .i64 0 from inR_lit (by decide)), hS, hE.cut ⟨rfl, rfl, rfl, trivial⟩⟩
 }
 {
 rintro x84 a w ⟨m82, hm83, hr85, hS, hE⟩ r86 h hb87
 have h : hayloftref06_refused_b2 p0 p1 x84 = some r86 := h
 unfold hayloftref06_refused_b2 at h
 refine kseq ?_
 refine kseq ?_
 refine kreg ?_
 refine sp hE (r_move hE rfl) rfl fun a hE => ?_
 refine sp hE (r_move hE rfl) rfl fun a hE => ?_
 refine sp hE (r_lenSl (k := kApi_Value) hE rfl rfl Try.underlying29 (ha1.mono (M.le.trans hm3 hm83))) rfl fun a hE => ?_
 refine sp hE (r_bin hE rfl rfl b_lss) rfl fun a hE => ?_
 refine knil ?_
 refine kif hE rfl (fun hd92 => ?_) (fun hd92 => ?_)
 {
 have h := ite_T hd92 h
 refine kskip ?_
 refine kseq ?_
 refine kblock ?_
 refine kseq ?_
 refine kreg ?_
 refine sp hE (r_move hE rfl) rfl fun a hE => ?_
 refine sp hE (r_move hE rfl) rfl fun a hE => ?_
 obtain ⟨x95, hx96, h⟩ := ob h
 refine st hE (st_index (k := kApi_Value) hE rfl rfl Try.underlying29 Try.sizeOf53 (ha1.mono (M.le.trans hm3 hm83)) hx96) rfl ?_
 rintro v98 a _ ⟨rfl, hp97⟩ hE
 refine st hE (st_loadM hE hS ty53 rfl hp97) rfl ?_
 rintro v100 a _ ⟨rfl, hv99⟩ hE
 obtain ⟨r101, hr102, h⟩ := ob h
 refine st hE (st_call (vs := [v100]) hE rfl Try.call109 (c_hayloftref02_Right (hS := hS) hv99 hr102)) rfl ?_
 rintro v106 a w ⟨m103, hm104, hS, hv105⟩ hE
 obtain rfl := RV_bool hv105
 refine sp hE (r_assign hE rfl) rfl fun a hE => ?_
 refine knil ?_
 refine kseq ?_
 refine kreg ?_
 refine sp hE (r_move hE rfl) rfl fun a hE => ?_
 refine sp hE (r_not hE rfl) rfl fun a hE => ?_
 refine knil ?_
 refine kif hE rfl (fun hd110 => ?_) (fun hd110 => ?_)
 {
 have h := ite_T hd110 h
 refine kseq ?_
 refine kreg ?_
 refine sp hE (r_assign hE rfl) rfl fun a hE => ?_
 refine knil ?_
 refine kret ?_
 have h := unwrap h hb87
 obtain rfl := Option.some.inj h
 try dsimp only
 refine Fin.mk (fn := Try.f61) hE (rs := [.tmp 4]) rfl (ResL.tmp hE rfl ResL.nil) ?_
 exact ⟨_, (M.le.trans hm3 (M.le.trans hm83 hm104)), hS, (RV_of_int (show inR .i64 60 from inR_lit (by decide)))⟩
 }
 {
 have h := ite_F hd110 h
 refine kskip ?_
 refine kreg ?_
 refine sp hE (r_move hE rfl) rfl fun a hE => ?_
 refine sp hE (r_bin hE rfl rfl (b_add rfl)) rfl fun a hE => ?_
 refine sp hE (r_assign hE rfl) rfl fun a hE => ?_
 refine knil ?_
 exact ⟨IntKind.i64.wrap (x84 + 1), (Option.some.inj h).symm, _, (M.le.trans hm83 hm104), (inR_wrap _ _), hS, hE.cut ⟨rfl, rfl, rfl, trivial⟩⟩
 }
 }
 {
 have h := ite_F hd92 h
 refine kexit rfl rfl ?_
 have h := unwrap h hb87
 exact ⟨h, _, hm83, hS, hE.cut ⟨rfl, rfl, trivial⟩⟩
 }
 }
 }
 {
 rintro a w ⟨h, m14, hm15, hS, hE⟩
 unfold hayloftref06_refused_j2 at h
 refine kseq ?_
 refine kseq ?_
 refine kreg ?_
 refine sp hE (r_assign hE rfl) rfl fun a hE => ?_
 refine knil ?_
 refine kcut (fun a w => hayloftref06_refused_j3 = some r ∧ ∃ m', M.le m14 m' ∧ S W0 m' w (L) (TL) ∧ Env 50 a []) ?_ ?_
 {
 refine kblock ?_
 refine kloop h (fun (s : Int) a w => ∃ m', M.le m14 m' ∧ inR .i64 s ∧ S W0 m' w (L) (TL) ∧ Env 50 a [(0, (.int .i64 p0)), (1, v1), (7, (.int .i64 s))]) ?_ ?_
 {
 exact ⟨_, (M.le.refl _), (show inR .i64 0 from inR_lit (by decide)), hS, hE.cut ⟨rfl, rfl, rfl, trivial⟩⟩
 }
 {
 rintro x24 a w ⟨m22, hm23, hr25, hS, hE⟩ r26 h hb27
 have h : hayloftref06_refused_b1 p0 p1 x24 = some r26 := h
 unfold hayloftref06_refused_b1 at h
 refine kseq ?_
 refine kseq ?_
 refine kreg ?_
 refine sp hE (r_move hE rfl) rfl fun a hE => ?_
 refine sp hE (r_move hE rfl) rfl fun a hE => ?_
 refine sp hE (r_lenSl (k := kApi_Value) hE rfl rfl Try.underlying29 (ha1.mono (M.le.trans hm3 (M.le.trans hm15 hm23)))) rfl fun a hE => ?_
 refine sp hE (r_bin hE rfl rfl b_lss) rfl fun a hE => ?_
 refine knil ?_
 refine kif hE rfl (fun hd32 => ?_) (fun hd32 => ?_)
 {
 have h := ite_T hd32 h
 refine kskip ?_
 refine kseq ?_
 refine kblock ?_
 refine kseq ?_
 refine kcut (fun a w => ∃ x35 : Bool, hayloftref06_refused_j4 x24 x35 = some r26 ∧ ∃ m', M.le m22 m' ∧ S W0 m' w (L) (TL) ∧ Env 50 a [(0, (.int .i64 p0)), (1, v1), (7, (.int .i64 x24)), (49, (.bool x35))]) ?_ ?_
 {
 refine kreg ?_
 refine sp hE (r_move hE rfl) rfl fun a hE => ?_
 refine sp hE (r_bin hE rfl rfl b_eql) rfl fun a hE => ?_
 refine sp hE (r_move hE rfl) rfl fun a hE => ?_
 rcases Bool.eq_false_or_eq_true (p0 == 2) with hd45 | hd45
 {
 have h := ite_T hd45 h
 refine sx hE rfl rfl rfl rfl hd45 rfl fun a hE => ?_
 refine sx hE rfl rfl rfl rfl hd45 rfl fun a hE => ?_
 refine sp hE (r_pickT hE rfl hd45 rfl) rfl fun a hE => ?_
 refine sp hE (r_move hE rfl) rfl fun a hE => ?_
 refine spg hE rfl rfl rfl rfl rfl (r_move hE rfl) rfl fun a hE => ?_
 refine spg hE rfl rfl rfl rfl rfl (r_move hE rfl) rfl fun a hE => ?_
 obtain ⟨x50, hx51, h⟩ := ob h
 refine stg hE rfl rfl rfl rfl rfl (st_index (k := kApi_Value) hE rfl rfl Try.underlying29 Try.sizeOf53 (ha1.mono (M.le.trans hm3 (M.le.trans hm15 hm23))) hx51) rfl ?_
 rintro v53 a _ ⟨rfl, hp52⟩ hE
 refine stg hE rfl rfl rfl rfl rfl (st_fieldM hE fo53_0 fl53_0 rfl hp52) rfl ?_
 rintro v56 a _ ⟨rfl, hp55⟩ hE
 refine stg hE rfl rfl rfl rfl rfl (st_loadM hE hS ty3 rfl hp55) rfl ?_
 rintro v58 a _ ⟨rfl, hv57⟩ hE
 obtain ⟨rfl, hr59⟩ := RV_int hv57
 refine spg hE rfl rfl rfl rfl rfl (r_bin hE rfl rfl b_neq) rfl fun a hE => ?_
 refine sp hE (r_pickT hE rfl rfl rfl) rfl fun a hE => ?_
 refine knil ?_
 exact ⟨(x50.fKind != 2), h, _, (M.le.refl _), hS, hE.cut ⟨rfl, rfl, rfl, rfl, trivial⟩⟩
 }
 {
 have h := ite_F hd45 h
 refine spg hE rfl rfl rfl rfl hd45 (r_move hE rfl) rfl fun a hE => ?_
 refine spg hE rfl rfl rfl rfl hd45 (r_bin hE rfl rfl b_eql) rfl fun a hE => ?_
 refine sp hE (r_pickF hE rfl hd45 rfl) rfl fun a hE => ?_
 refine sp hE (r_move hE rfl) rfl fun a hE => ?_
 rcases Bool.eq_false_or_eq_true (p0 == 4) with hd66 | hd66
 {
 have h := ite_T hd66 h
 refine spg hE rfl rfl rfl rfl hd66 (r_move hE rfl) rfl fun a hE => ?_
 refine spg hE rfl rfl rfl rfl hd66 (r_move hE rfl) rfl fun a hE => ?_
 obtain ⟨x69, hx70, h⟩ := ob h
 refine stg hE rfl rfl rfl rfl hd66 (st_index (k := kApi_Value) hE rfl rfl Try.underlying29 Try.sizeOf53 (ha1.mono (M.le.trans hm3 (M.le.trans hm15 hm23))) hx70) rfl ?_
 rintro v72 a _ ⟨rfl, hp71⟩ hE
 refine stg hE rfl rfl rfl rfl hd66 (st_fieldM hE fo53_0 fl53_0 rfl hp71) rfl ?_
 rintro v75 a _ ⟨rfl, hp74⟩ hE
 refine stg hE rfl rfl rfl rfl hd66 (st_loadM hE hS ty3 rfl hp74) rfl ?_
 rintro v77 a _ ⟨rfl, hv76⟩ hE
 obtain ⟨rfl, hr78⟩ := RV_int hv76
 refine spg hE rfl rfl rfl rfl hd66 (r_bin hE rfl rfl b_neq) rfl fun a hE => ?_
 refine sp hE (r_pickT hE rfl hd66 rfl) rfl fun a hE => ?_
 refine knil ?_
 exact ⟨(x69.fKind != 2), h, _, (M.le.refl _), hS, hE.cut ⟨rfl, rfl, rfl, rfl, trivial⟩⟩
 }
 {
 have h := ite_F hd66 h
 refine sx hE rfl rfl rfl rfl hd66 rfl fun a hE => ?_
 refine sx hE rfl rfl rfl rfl hd66 rfl fun a hE => ?_
 refine sx hE rfl rfl rfl rfl hd66 rfl fun a hE => ?_
 refine sx hE rfl rfl rfl rfl hd66 rfl fun a hE => ?_
 refine sx hE rfl rfl rfl rfl hd66 rfl fun a hE => ?_
 refine sx hE rfl rfl rfl rfl hd66 rfl fun a hE => ?_
 refine sp hE (r_pickF hE rfl hd66 rfl) rfl fun a hE => ?_
 refine knil ?_
 exact ⟨false, h, _, (M.le.refl _), hS, hE.cut ⟨rfl, rfl, rfl, rfl, trivial⟩⟩
 }
 }
 }
 {
 rintro a w ⟨x35, h, m33, hm34, hS, hE⟩
 unfold hayloftref06_refused_j4 at h
 refine kif hE rfl (fun hd37 => ?_) (fun hd37 => ?_)
 {
 have h := ite_T hd37 h
 refine kseq ?_
 refine kreg ?_
 refine sp hE (r_assign hE rfl) rfl fun a hE => ?_
 refine knil ?_
 refine kret ?_
 have h := unwrap h hb27
 obtain rfl := Option.some.inj h
 try dsimp only
 refine Fin.mk (fn := Try.f61) hE (rs := [.tmp 4]) rfl (ResL.tmp hE rfl ResL.nil) ?_
 exact ⟨_, (M.le.trans hm3 (M.le.trans hm15 (M.le.trans hm23 hm34))), hS, (RV_of_int (show inR .i64 62 from inR_lit (by decide)))⟩
 }
 {
 have h := ite_F hd37 h
 refine kskip ?_
 refine kreg ?_
 refine sp hE (r_move hE rfl) rfl fun a hE => ?_
 refine sp hE (r_bin hE rfl rfl (b_add rfl)) rfl fun a hE => ?_
 refine sp hE (r_assign hE rfl) rfl fun a hE => ?_
 refine knil ?_
 exact ⟨IntKind.i64.wrap (x24 + 1), (Option.some.inj h).symm, _, (M.le.trans hm23 hm34), (inR_wrap _ _), hS, hE.cut ⟨rfl, rfl, rfl, trivial⟩⟩
 }
 }
 }
 {
 have h := ite_F hd32 h
 refine kexit rfl rfl ?_
 have h := unwrap h hb27
 exact ⟨h, _, hm23, hS, hE.cut trivial⟩
 }
 }
 }
 {
 rintro a w ⟨h, m18, hm19, hS, hE⟩
 unfold hayloftref06_refused_j3 at h
 refine kseq ?_
 refine kreg ?_
 refine sp hE (r_assign hE rfl) rfl fun a hE => ?_
 refine knil ?_
 refine kret ?_
 obtain rfl := Option.some.inj h
 try dsimp only
 refine Fin.mk (fn := Try.f61) hE (rs := [.tmp 4]) rfl (ResL.tmp hE rfl ResL.nil) ?_
 exact ⟨_, (M.le.trans hm3 (M.le.trans hm15 hm19)), hS, (RV_of_int (show inR .i64 0 from inR_lit (by decide)))⟩
 }
 }
 }
 }
 }
/- 28 -/
theorem c_hayloftref06_Runs {W0 : World} {m : M} {w : World} {L : List (Nat × List Value)} {TL : List (Nat × Value)} (hS : S W0 m w (L) (TL)) {v0 : Value} {p0 : (List Api_Value)} (ha0 : RV (kSl kApi_Value) m v0 p0) {r : (List Hayloftref06_Run)} (h : hayloftref06_Runs p0 = some r) :
    Calls Try.prog 28 [v0].toArray w (Ret fun v w' => ∃ m', M.le m m' ∧ S W0 m' w' (L) ((5, v) :: TL) ∧ RV (kSl kHayloftref06_Run) m' v r) := by
 refine kcall Try.func28 rfl Try.ntmps28 (Nat.le_of_ble_eq_true rfl) fun a hE => ?_
 have hE : Env 55 a [(0, v0)] := hE
 unfold hayloftref06_Runs at h
 refine kseq ?_
 refine kreg ?_
 refine sp hE (r_assign hE rfl) rfl fun a hE => ?_
 refine knil ?_
 refine kseq ?_
 refine kreg ?_
 refine sp hE (r_assign hE rfl) rfl fun a hE => ?_
 refine knil ?_
 refine kseq ?_
 refine kseq ?_
 refine kreg ?_
 refine sp hE (r_assign hE rfl) rfl fun a hE => ?_
 refine knil ?_
 refine kcut (fun a w => ∃ x6 : (List Hayloftref06_Run), hayloftref06_Runs_j1 x6 = some r ∧ ∃ m', M.le m m' ∧ ∃ (v7 : Value), RV (kSl kHayloftref06_Run) m' v7 x6 ∧ S W0 m' w (L) ((5, v7) :: TL) ∧ Env 55 a [(3, v7)]) ?_ ?_
 {
 refine kblock ?_
 refine kloop h (fun (s : ((List Hayloftref06_Run) × Int)) a w => ∃ m', M.le m m' ∧ ∃ (v15 : Value), RV (kSl kHayloftref06_Run) m' v15 s.1 ∧ inR .i64 s.2 ∧ S W0 m' w (L) ((5, v15) :: TL) ∧ Env 55 a [(0, v0), (3, v15), (4, (.int .i64 s.2))]) ?_ ?_
 {
 exact ⟨_, (M.le.refl _), (.slice none 0 0), RV_nil, (show inR .i64 0 from inR_lit (by decide)), (hS.tail0 5), hE.cut ⟨rfl, rfl, rfl, trivial⟩⟩
 }
 {
 rintro ⟨x14, x17⟩ a w ⟨m12, hm13, v15, hv16, hr18, hS, hE⟩ r19 h hb20
 have h : hayloftref06_Runs_b1 p0 x14 x17 = some r19 := h
 unfold hayloftref06_Runs_b1 at h
 refine kseq ?_
 refine kseq ?_
 refine kreg ?_
 refine sp hE (r_move hE rfl) rfl fun a hE => ?_
 refine sp hE (r_move hE rfl) rfl fun a hE => ?_
 refine sp hE (r_lenSl (k := kApi_Value) hE rfl rfl Try.underlying29 (ha0.mono hm13)) rfl fun a hE => ?_
 refine sp hE (r_bin hE rfl rfl b_lss) rfl fun a hE => ?_
 refine knil ?_
 refine kif hE rfl (fun hd25 => ?_) (fun hd25 => ?_)
 {
 have h := ite_T hd25 h
 refine kskip ?_
 refine kseq ?_
 refine kcut (fun a w => ∃ x28 : (List Hayloftref06_Run), hayloftref06_Runs_j2 x17 x28 = some r19 ∧ ∃ m', M.le m12 m' ∧ ∃ (v29 : Value), RV (kSl kHayloftref06_Run) m' v29 x28 ∧ S W0 m' w (L) ((5, v29) :: TL) ∧ Env 55 a [(0, v0), (3, v29), (4, (.int .i64 x17))]) ?_ ?_
 {
 refine kblock ?_
 refine kseq ?_
 refine kseq ?_
 refine kcut (fun a w => ∃ x37 : Bool, hayloftref06_Runs_j3 p0 x14 x17 x37 = some r19 ∧ ∃ m', M.le m12 m' ∧ S W0 m' w (L) ((5, v15) :: TL) ∧ Env 55 a [(0, v0), (3, v15), (4, (.int .i64 x17)), (25, (.bool x37))]) ?_ ?_
 {
 rcases Bool.eq_false_or_eq_true (decide (0 < x17)) with hd158 | hd158
 {
 have h := ite_T hd158 h
 obtain ⟨x159, hx160, h⟩ := ob h
 obtain ⟨x163, hx164, h⟩ := ob h
 refine kchain (k := 12) (m := m12) (es := []) (Φ := (fun i m ws v => match i with | 0 => v = (.int .i64 x17) ∧ inR .i64 x17 | 1 => v = (.bool (decide (0 < x17))) | 2 => v = (.bool (decide (0 < x17))) | 3 => v = v0 | 4 => v = (.int .i64 x17) ∧ inR .i64 x17 | 5 => PR kApi_Value m v x159 | 6 => RV kApi_Value m v x159 | 7 => v = v0 | 8 => v = (.int .i64 x17) ∧ inR .i64 x17 | 9 => v = (.int .i64 (IntKind.i64.wrap (x17 - 1))) ∧ inR .i64 (IntKind.i64.wrap (x17 - 1)) | 10 => PR kApi_Value m v x163 | 11 => RV kApi_Value m v x163 | _ => True)) (Q := (fun c m ws L' TL' => match c with | 0 => L = L' ∧ (5, v15) :: TL = TL' | _ => False)) (cs := [⟨0, 0, false, [(4, (.int .i64 x17))]⟩, ⟨0, 0, false, []⟩, ⟨0, 0, false, []⟩, ⟨0, 0, false, [(0, v0)]⟩, ⟨0, 0, false, [(4, (.int .i64 x17))]⟩, ⟨0, 0, false, []⟩, ⟨0, 0, false, []⟩, ⟨0, 0, false, [(0, v0)]⟩, ⟨0, 0, false, [(4, (.int .i64 x17))]⟩, ⟨0, 0, false, []⟩, ⟨0, 0, false, []⟩, ⟨0, 0, false, []⟩]) mixed hE hS ⟨rfl, rfl⟩ rfl rfl ⟨⟨rfl, trivial⟩, trivial, trivial, ⟨rfl, trivial⟩, ⟨rfl, trivial⟩, trivial, trivial, ⟨rfl, trivial⟩, ⟨rfl, trivial⟩, trivial, trivial, trivial, trivial⟩ (by kernel_rfl) ?_ ?_ ?_ ?_
 {
 intro i m_ m2_ ws v hm_ hp_
 match i, hp_ with
 | 0, hp_ => exact hp_
 | 1, hp_ => exact hp_
 | 2, hp_ => exact hp_
 | 3, hp_ => exact hp_
 | 4, hp_ => exact hp_
 | 5, hp_ => exact PR.mono hp_ hm_
 | 6, hp_ => exact RV.mono hp_ hm_
 | 7, hp_ => exact hp_
 | 8, hp_ => exact hp_
 | 9, hp_ => exact hp_
 | 10, hp_ => exact PR.mono hp_ hm_
 | 11, hp_ => exact RV.mono hp_ hm_
 | _ + 12, hp_ => exact trivial
 }
 {
 intro c m_ m2_ ws L_ T_ hm_ hq_
 match c, hq_ with
 | 0, ⟨e1_, e2_⟩ => exact ⟨e1_, e2_⟩
 | _ + 1, hq_ => exact hq_.elim
 }
 {
 refine ⟨?_, ?_, ?_, ?_, ?_, ?_, ?_, ?_, ?_, ?_, ?_, ?_, trivial⟩
 {
 refine cplain fun pre_ post_ L_ T_ m' a' w' hl' hp' hm' hq' hS' hE' hT' => ?_
 obtain rfl := len0 hl'
 refine Step.imp (Run1.pure (r_move hE' rfl)) ?_
 rintro _ _ ⟨rfl, rfl⟩
 exact ⟨_, M.le.refl _, hS', ⟨rfl, hr18⟩⟩
 }
 {
 refine cplain fun pre_ post_ L_ T_ m' a' w' hl' hp' hm' hq' hS' hE' hT' => ?_
 obtain rfl := len0 hl'
 obtain ⟨v168, e169, q170⟩ : ∃ v, a'.tmps.getD 12 undef = v ∧ (v = (.int .i64 x17) ∧ inR .i64 x17) := ⟨_, rfl, hT' 0 (by decide) 12 rfl⟩
 obtain ⟨q170, hr171⟩ := q170
 have hE := hE'.add (e169.trans q170)
 refine Step.imp (Run1.pure (r_bin hE rfl rfl b_gtr)) ?_
 rintro _ _ ⟨rfl, rfl⟩
 exact ⟨_, M.le.refl _, hS', rfl⟩
 }
 {
 refine cplain fun pre_ post_ L_ T_ m' a' w' hl' hp' hm' hq' hS' hE' hT' => ?_
 obtain rfl := len0 hl'
 obtain ⟨v173, e174, q175⟩ : ∃ v, a'.tmps.getD 13 undef = v ∧ (v = (.bool (decide (0 < x17)))) := ⟨_, rfl, hT' 1 (by decide) 13 rfl⟩
 have hE := hE'.add (e174.trans q175)
 refine Step.imp (Run1.pure (r_move hE rfl)) ?_
 rintro _ _ ⟨rfl, rfl⟩
 exact ⟨_, M.le.refl _, hS', rfl⟩
 }
 {
 refine cguard rfl rfl (by decide) (fun _ _ _ h_ => Eq.trans h_ (congrArg Value.bool hd158)) fun pre_ post_ L_ T_ m' a' w' hl' hp' hm' hq' hS' hE' hT' => ?_
 obtain rfl := len0 hl'
 refine Step.imp (Run1.pure (r_move hE' rfl)) ?_
 rintro _ _ ⟨rfl, rfl⟩
 exact ⟨_, M.le.refl _, hS', rfl⟩
 }
 {
 refine cguard rfl rfl (by decide) (fun _ _ _ h_ => Eq.trans h_ (congrArg Value.bool hd158)) fun pre_ post_ L_ T_ m' a' w' hl' hp' hm' hq' hS' hE' hT' => ?_
 obtain rfl := len0 hl'
 refine Step.imp (Run1.pure (r_move hE' rfl)) ?_
 rintro _ _ ⟨rfl, rfl⟩
 exact ⟨_, M.le.refl _, hS', ⟨rfl, hr18⟩⟩
 }
 {
 refine cguard rfl rfl (by decide) (fun _ _ _ h_ => Eq.trans h_ (congrArg Value.bool hd158)) fun pre_ post_ L_ T_ m' a' w' hl' hp' hm' hq' hS' hE' hT' => ?_
 obtain rfl := len0 hl'
 obtain ⟨v179, e180, q181⟩ : ∃ v, a'.tmps.getD 15 undef = v ∧ (v = v0) := ⟨_, rfl, hT' 3 (by decide) 15 rfl⟩
 have hE := hE'.add (e180.trans q181)
 obtain ⟨v182, e183, q184⟩ : ∃ v, a'.tmps.getD 16 undef = v ∧ (v = (.int .i64 x17) ∧ inR .i64 x17) := ⟨_, rfl, hT' 4 (by decide) 16 rfl⟩
 obtain ⟨q184, hr185⟩ := q184
 have hE := hE.add (e183.trans q184)
 refine Step.imp (st_index (k := kApi_Value) hE rfl rfl Try.underlying29 Try.sizeOf53 (ha0.mono (M.le.trans hm13 hm')) hx160) ?_
 rintro v186 _ ⟨rfl, hp161⟩
 exact ⟨_, M.le.refl _, hS', hp161⟩
 }
 {
 refine cguard rfl rfl (by decide) (fun _ _ _ h_ => Eq.trans h_ (congrArg Value.bool hd158)) fun pre_ post_ L_ T_ m' a' w' hl' hp' hm' hq' hS' hE' hT' => ?_
 obtain rfl := len0 hl'
 obtain ⟨v187, e188, q189⟩ : ∃ v, a'.tmps.getD 17 undef = v ∧ (PR kApi_Value m' v x159) := ⟨_, rfl, hT' 5 (by decide) 17 rfl⟩
 have hE := hE'.add (e188)
 refine Step.imp (st_loadM hE hS' ty53 rfl q189) ?_
 rintro v190 _ ⟨rfl, hv162⟩
 exact ⟨_, M.le.refl _, hS', hv162⟩
 }
 {
 refine cguard rfl rfl (by decide) (fun _ _ _ h_ => Eq.trans h_ (congrArg Value.bool hd158)) fun pre_ post_ L_ T_ m' a' w' hl' hp' hm' hq' hS' hE' hT' => ?_
 obtain rfl := len0 hl'
 refine Step.imp (Run1.pure (r_move hE' rfl)) ?_
 rintro _ _ ⟨rfl, rfl⟩
 exact ⟨_, M.le.refl _, hS', rfl⟩
 }
 {
 refine cguard rfl rfl (by decide) (fun _ _ _ h_ => Eq.trans h_ (congrArg Value.bool hd158)) fun pre_ post_ L_ T_ m' a' w' hl' hp' hm' hq' hS' hE' hT' => ?_
 obtain rfl := len0 hl'
 refine Step.imp (Run1.pure (r_move hE' rfl)) ?_
 rintro _ _ ⟨rfl, rfl⟩
 exact ⟨_, M.le.refl _, hS', ⟨rfl, hr18⟩⟩
 }
 {
 refine cguard rfl rfl (by decide) (fun _ _ _ h_ => Eq.trans h_ (congrArg Value.bool hd158)) fun pre_ post_ L_ T_ m' a' w' hl' hp' hm' hq' hS' hE' hT' => ?_
 obtain rfl := len0 hl'
 obtain ⟨v193, e194, q195⟩ : ∃ v, a'.tmps.getD 20 undef = v ∧ (v = (.int .i64 x17) ∧ inR .i64 x17) := ⟨_, rfl, hT' 8 (by decide) 20 rfl⟩
 obtain ⟨q195, hr196⟩ := q195
 have hE := hE'.add (e194.trans q195)
 refine Step.imp (Run1.pure (r_bin hE rfl rfl (b_sub rfl))) ?_
 rintro _ _ ⟨rfl, rfl⟩
 exact ⟨_, M.le.refl _, hS', ⟨rfl, (inR_wrap _ _)⟩⟩
 }
 {
 refine cguard rfl rfl (by decide) (fun _ _ _ h_ => Eq.trans h_ (congrArg Value.bool hd158)) fun pre_ post_ L_ T_ m' a' w' hl' hp' hm' hq' hS' hE' hT' => ?_
 obtain rfl := len0 hl'
 obtain ⟨v198, e199, q200⟩ : ∃ v, a'.tmps.getD 19 undef = v ∧ (v = v0) := ⟨_, rfl, hT' 7 (by decide) 19 rfl⟩
 have hE := hE'.add (e199.trans q200)
 obtain ⟨v201, e202, q203⟩ : ∃ v, a'.tmps.getD 21 undef = v ∧ (v = (.int .i64 (IntKind.i64.wrap (x17 - 1))) ∧ inR .i64 (IntKind.i64.wrap (x17 - 1))) := ⟨_, rfl, hT' 9 (by decide) 21 rfl⟩
 obtain ⟨q203, hr204⟩ := q203
 have hE := hE.add (e202.trans q203)
 refine Step.imp (st_index (k := kApi_Value) hE rfl rfl Try.underlying29 Try.sizeOf53 (ha0.mono (M.le.trans hm13 hm')) hx164) ?_
 rintro v205 _ ⟨rfl, hp165⟩
 exact ⟨_, M.le.refl _, hS', hp165⟩
 }
 {
 refine cguard rfl rfl (by decide) (fun _ _ _ h_ => Eq.trans h_ (congrArg Value.bool hd158)) fun pre_ post_ L_ T_ m' a' w' hl' hp' hm' hq' hS' hE' hT' => ?_
 obtain rfl := len0 hl'
 obtain ⟨v206, e207, q208⟩ : ∃ v, a'.tmps.getD 22 undef = v ∧ (PR kApi_Value m' v x163) := ⟨_, rfl, hT' 10 (by decide) 22 rfl⟩
 have hE := hE'.add (e207)
 refine Step.imp (st_loadM hE hS' ty53 rfl q208) ?_
 rintro v209 _ ⟨rfl, hv166⟩
 exact ⟨_, M.le.refl _, hS', hv166⟩
 }
 }
 {
 intro ws_ L_ T_ m210 a w hl211 hm212 hq213 hS hd214 hn215 ho216 hT217
 obtain rfl := len0 hl211
 obtain ⟨rfl, rfl⟩ := hq213
 have hE := Env.of (k := 12) (l' := [(0, v0), (3, v15), (4, (.int .i64 x17)), (6, (.int .i64 x17)), (7, v0), (8, (.int .i64 (p0.length : Int))), (9, (.bool (decide (x17 < (p0.length : Int)))))]) hd214 hn215 ho216 ⟨rfl, rfl, rfl, rfl, rfl, rfl, rfl, trivial⟩ rfl
 obtain ⟨v218, e219, q220⟩ : ∃ v, a.tmps.getD 14 undef = v ∧ (v = (.bool (decide (0 < x17)))) := ⟨_, rfl, hT217 2 (by decide) 14 rfl⟩
 have hE := hE.add (e219.trans q220)
 obtain ⟨v221, e222, q223⟩ : ∃ v, a.tmps.getD 15 undef = v ∧ (v = v0) := ⟨_, rfl, hT217 3 (by decide) 15 rfl⟩
 have hE := hE.add (e222.trans q223)
 obtain ⟨v224, e225, q226⟩ : ∃ v, a.tmps.getD 16 undef = v ∧ (v = (.int .i64 x17) ∧ inR .i64 x17) := ⟨_, rfl, hT217 4 (by decide) 16 rfl⟩
 obtain ⟨q226, hr227⟩ := q226
 have hE := hE.add (e225.trans q226)
 obtain ⟨v228, e229, q230⟩ : ∃ v, a.tmps.getD 17 undef = v ∧ (PR kApi_Value m210 v x159) := ⟨_, rfl, hT217 5 (by decide) 17 rfl⟩
 have hE := hE.add (e229)
 obtain ⟨v231, e232, q233⟩ : ∃ v, a.tmps.getD 18 undef = v ∧ (RV kApi_Value m210 v x159) := ⟨_, rfl, hT217 6 (by decide) 18 rfl⟩
 have hE := hE.add (e232)
 obtain ⟨v234, e235, q236⟩ : ∃ v, a.tmps.getD 19 undef = v ∧ (v = v0) := ⟨_, rfl, hT217 7 (by decide) 19 rfl⟩
 have hE := hE.add (e235.trans q236)
 obtain ⟨v237, e238, q239⟩ : ∃ v, a.tmps.getD 20 undef = v ∧ (v = (.int .i64 x17) ∧ inR .i64 x17) := ⟨_, rfl, hT217 8 (by decide) 20 rfl⟩
 obtain ⟨q239, hr240⟩ := q239
 have hE := hE.add (e238.trans q239)
 obtain ⟨v241, e242, q243⟩ : ∃ v, a.tmps.getD 21 undef = v ∧ (v = (.int .i64 (IntKind.i64.wrap (x17 - 1))) ∧ inR .i64 (IntKind.i64.wrap (x17 - 1))) := ⟨_, rfl, hT217 9 (by decide) 21 rfl⟩
 obtain ⟨q243, hr244⟩ := q243
 have hE := hE.add (e242.trans q243)
 obtain ⟨v245, e246, q247⟩ : ∃ v, a.tmps.getD 22 undef = v ∧ (PR kApi_Value m210 v x163) := ⟨_, rfl, hT217 10 (by decide) 22 rfl⟩
 have hE := hE.add (e246)
 obtain ⟨v248, e249, q250⟩ : ∃ v, a.tmps.getD 23 undef = v ∧ (RV kApi_Value m210 v x163) := ⟨_, rfl, hT217 11 (by decide) 23 rfl⟩
 have hE := hE.add (e249)
 refine spg hE rfl rfl rfl rfl hd158 (r_eqlK hE eq53 rfl rfl q233 q250 rfl) rfl fun a hE => ?_
 refine sp hE (r_pickT hE rfl hd158 rfl) rfl fun a hE => ?_
 refine knil ?_
 exact ⟨(decide (x159 = x163)), h, _, hm212, hS, hE.cut ⟨rfl, rfl, rfl, rfl, trivial⟩⟩
 }
 }
 {
 have h := ite_F hd158 h
 refine kchain (k := 12) (m := m12) (es := []) (Φ := (fun i m ws v => match i with | 0 => v = (.int .i64 x17) ∧ inR .i64 x17 | 1 => v = (.bool (decide (0 < x17))) | 2 => v = (.bool (decide (0 < x17))) | 3 => v = undef | 4 => v = undef | 5 => v = undef | 6 => v = undef | 7 => v = undef | 8 => v = undef | 9 => v = undef | 10 => v = undef | 11 => v = undef | _ => True)) (Q := (fun c m ws L' TL' => match c with | 0 => L = L' ∧ (5, v15) :: TL = TL' | _ => False)) (cs := [⟨0, 0, false, [(4, (.int .i64 x17))]⟩, ⟨0, 0, false, []⟩, ⟨0, 0, false, []⟩, ⟨0, 0, false, [(0, v0)]⟩, ⟨0, 0, false, [(4, (.int .i64 x17))]⟩, ⟨0, 0, false, []⟩, ⟨0, 0, false, []⟩, ⟨0, 0, false, [(0, v0)]⟩, ⟨0, 0, false, [(4, (.int .i64 x17))]⟩, ⟨0, 0, false, []⟩, ⟨0, 0, false, []⟩, ⟨0, 0, false, []⟩]) mixed hE hS ⟨rfl, rfl⟩ rfl rfl ⟨⟨rfl, trivial⟩, trivial, trivial, ⟨rfl, trivial⟩, ⟨rfl, trivial⟩, trivial, trivial, ⟨rfl, trivial⟩, ⟨rfl, trivial⟩, trivial, trivial, trivial, trivial⟩ (by kernel_rfl) ?_ ?_ ?_ ?_
 {
 intro i m_ m2_ ws v hm_ hp_
 match i, hp_ with
 | 0, hp_ => exact hp_
 | 1, hp_ => exact hp_
 | 2, hp_ => exact hp_
 | 3, hp_ => exact hp_
 | 4, hp_ => exact hp_
 | 5, hp_ => exact hp_
 | 6, hp_ => exact hp_
 | 7, hp_ => exact hp_
 | 8, hp_ => exact hp_
 | 9, hp_ => exact hp_
 | 10, hp_ => exact hp_
 | 11, hp_ => exact hp_
 | _ + 12, hp_ => exact trivial
 }
 {
 intro c m_ m2_ ws L_ T_ hm_ hq_
 match c, hq_ with
 | 0, ⟨e1_, e2_⟩ => exact ⟨e1_, e2_⟩
 | _ + 1, hq_ => exact hq_.elim
 }
 {
 refine ⟨?_, ?_, ?_, ?_, ?_, ?_, ?_, ?_, ?_, ?_, ?_, ?_, trivial⟩
 {
 refine cplain fun pre_ post_ L_ T_ m' a' w' hl' hp' hm' hq' hS' hE' hT' => ?_
 obtain rfl := len0 hl'
 refine Step.imp (Run1.pure (r_move hE' rfl)) ?_
 rintro _ _ ⟨rfl, rfl⟩
 exact ⟨_, M.le.refl _, hS', ⟨rfl, hr18⟩⟩
 }
 {
 refine cplain fun pre_ post_ L_ T_ m' a' w' hl' hp' hm' hq' hS' hE' hT' => ?_
 obtain rfl := len0 hl'
 obtain ⟨v254, e255, q256⟩ : ∃ v, a'.tmps.getD 12 undef = v ∧ (v = (.int .i64 x17) ∧ inR .i64 x17) := ⟨_, rfl, hT' 0 (by decide) 12 rfl⟩
 obtain ⟨q256, hr257⟩ := q256
 have hE := hE'.add (e255.trans q256)
 refine Step.imp (Run1.pure (r_bin hE rfl rfl b_gtr)) ?_
 rintro _ _ ⟨rfl, rfl⟩
 exact ⟨_, M.le.refl _, hS', rfl⟩
 }
 {
 refine cplain fun pre_ post_ L_ T_ m' a' w' hl' hp' hm' hq' hS' hE' hT' => ?_
 obtain rfl := len0 hl'
 obtain ⟨v259, e260, q261⟩ : ∃ v, a'.tmps.getD 13 undef = v ∧ (v = (.bool (decide (0 < x17)))) := ⟨_, rfl, hT' 1 (by decide) 13 rfl⟩
 have hE := hE'.add (e260.trans q261)
 refine Step.imp (Run1.pure (r_move hE rfl)) ?_
 rintro _ _ ⟨rfl, rfl⟩
 exact ⟨_, M.le.refl _, hS', rfl⟩
 }
 {
 exact cskip (b := false) rfl rfl (by decide) (fun _ _ _ h_ => Eq.trans h_ (congrArg Value.bool hd158)) (by decide) (fun _ _ => rfl)
 }
 {
 exact cskip (b := false) rfl rfl (by decide) (fun _ _ _ h_ => Eq.trans h_ (congrArg Value.bool hd158)) (by decide) (fun _ _ => rfl)
 }
 {
 exact cskip (b := false) rfl rfl (by decide) (fun _ _ _ h_ => Eq.trans h_ (congrArg Value.bool hd158)) (by decide) (fun _ _ => rfl)
 }
 {
 exact cskip (b := false) rfl rfl (by decide) (fun _ _ _ h_ => Eq.trans h_ (congrArg Value.bool hd158)) (by decide) (fun _ _ => rfl)
 }
 {
 exact cskip (b := false) rfl rfl (by decide) (fun _ _ _ h_ => Eq.trans h_ (congrArg Value.bool hd158)) (by decide) (fun _ _ => rfl)
 }
 {
 exact cskip (b := false) rfl rfl (by decide) (fun _ _ _ h_ => Eq.trans h_ (congrArg Value.bool hd158)) (by decide) (fun _ _ => rfl)
 }
 {
 exact cskip (b := false) rfl rfl (by decide) (fun _ _ _ h_ => Eq.trans h_ (congrArg Value.bool hd158)) (by decide) (fun _ _ => rfl)
 }
 {
 exact cskip (b := false) rfl rfl (by decide) (fun _ _ _ h_ => Eq.trans h_ (congrArg Value.bool hd158)) (by decide) (fun _ _ => rfl)
 }
 {
 exact cskip (b := false) rfl rfl (by decide) (fun _ _ _ h_ => Eq.trans h_ (congrArg Value.bool hd158)) (by decide) (fun _ _ => rfl)
 }
 }
 {
 intro ws_ L_ T_ m263 a w hl264 hm265 hq266 hS hd267 hn268 ho269 hT270
 obtain rfl := len0 hl264
 obtain ⟨rfl, rfl⟩ := hq266
 have hE := Env.of (k := 12) (l' := [(0, v0), (3, v15), (4, (.int .i64 x17)), (6, (.int .i64 x17)), (7, v0), (8, (.int .i64 (p0.length : Int))), (9, (.bool (decide (x17 < (p0.length : Int)))))]) hd267 hn268 ho269 ⟨rfl, rfl, rfl, rfl, rfl, rfl, rfl, trivial⟩ rfl
 obtain ⟨v271, e272, q273⟩ : ∃ v, a.tmps.getD 14 undef = v ∧ (v = (.bool (decide (0 < x17)))) := ⟨_, rfl, hT270 2 (by decide) 14 rfl⟩
 have hE := hE.add (e272.trans q273)
 obtain ⟨v274, e275, q276⟩ : ∃ v, a.tmps.getD 15 undef = v ∧ (v = undef) := ⟨_, rfl, hT270 3 (by decide) 15 rfl⟩
 have hE := hE.add (e275.trans q276)
 obtain ⟨v277, e278, q279⟩ : ∃ v, a.tmps.getD 16 undef = v ∧ (v = undef) := ⟨_, rfl, hT270 4 (by decide) 16 rfl⟩
 have hE := hE.add (e278.trans q279)
 obtain ⟨v280, e281, q282⟩ : ∃ v, a.tmps.getD 17 undef = v ∧ (v = undef) := ⟨_, rfl, hT270 5 (by decide) 17 rfl⟩
 have hE := hE.add (e281.trans q282)
 obtain ⟨v283, e284, q285⟩ : ∃ v, a.tmps.getD 18 undef = v ∧ (v = undef) := ⟨_, rfl, hT270 6 (by decide) 18 rfl⟩
 have hE := hE.add (e284.trans q285)
 obtain ⟨v286, e287, q288⟩ : ∃ v, a.tmps.getD 19 undef = v ∧ (v = undef) := ⟨_, rfl, hT270 7 (by decide) 19 rfl⟩
 have hE := hE.add (e287.trans q288)
 obtain ⟨v289, e290, q291⟩ : ∃ v, a.tmps.getD 20 undef = v ∧ (v = undef) := ⟨_, rfl, hT270 8 (by decide) 20 rfl⟩
 have hE := hE.add (e290.trans q291)
 obtain ⟨v292, e293, q294⟩ : ∃ v, a.tmps.getD 21 undef = v ∧ (v = undef) := ⟨_, rfl, hT270 9 (by decide) 21 rfl⟩
 have hE := hE.add (e293.trans q294)
 obtain ⟨v295, e296, q297⟩ : ∃ v, a.tmps.getD 22 undef = v ∧ (v = undef) := ⟨_, rfl, hT270 10 (by decide) 22 rfl⟩
 have hE := hE.add (e296.trans q297)
 obtain ⟨v298, e299, q300⟩ : ∃ v, a.tmps.getD 23 undef = v ∧ (v = undef) := ⟨_, rfl, hT270 11 (by decide) 23 rfl⟩
 have hE := hE.add (e299.trans q300)
 refine sx hE rfl rfl rfl rfl hd158 rfl fun a hE => ?_
 refine sp hE (r_pickF hE rfl hd158 rfl) rfl fun a hE => ?_
 refine knil ?_
 exact ⟨false, h, _, hm265, hS, hE.cut ⟨rfl, rfl, rfl, rfl, trivial⟩⟩
 }
 }
 }
 {
 rintro a w ⟨x37, h, m35, hm36, hS, hE⟩
 unfold hayloftref06_Runs_j3 at h
 refine kif hE rfl (fun hd39 => ?_) (fun hd39 => ?_)
 {
 have h := ite_T hd39 h
 refine kseq ?_
 refine kreg ?_
 refine sp hE (r_move hE rfl) rfl fun a hE => ?_
 refine sp hE (r_move hE rfl) rfl fun a hE => ?_
 refine sp hE (r_lenSl (k := kHayloftref06_Run) hE rfl rfl Try.underlying50 (hv16.mono hm36)) rfl fun a hE => ?_
 refine sp hE (r_bin hE rfl rfl (b_sub rfl)) rfl fun a hE => ?_
 obtain ⟨x44, hx45, h⟩ := ob h
 refine st hE (st_index (k := kHayloftref06_Run) hE rfl rfl Try.underlying50 Try.sizeOf56 (hv16.mono hm36) hx45) rfl ?_
 rintro v47 a _ ⟨rfl, hp46⟩ hE
 refine st hE (st_loadM hE hS ty56 rfl hp46) rfl ?_
 rintro v49 a _ ⟨rfl, hv48⟩ hE
 refine st hE (st_alloc hS Try.zeroValue56 rfl (cs := zc56)) rfl ?_
 rintro _ a w ⟨b50, rfl, hS⟩ hE
 refine st0 hE (st_storeF hE hS ty56 StF_self rfl rfl hv48 (i := 0) rfl (zr56 _)) ?_
 rintro _ w ⟨cs52, hc53, hS⟩ hE
 refine knil ?_
 refine kseq ?_
 refine kreg ?_
 refine sp hE (r_fieldL hE fo56_0 rfl) rfl fun a hE => ?_
 refine st hE (st_loadL hE hS ty3 rfl (i := 0) rfl (fl56_0.R_drop (R_whole hc53))) rfl ?_
 rintro v57 a _ ⟨rfl, hv56⟩ hE
 obtain ⟨rfl, hr58⟩ := RV_int hv56
 refine sp hE (r_bin hE rfl rfl (b_add rfl)) rfl fun a hE => ?_
 refine sp hE (r_fieldL hE fo56_0 rfl) rfl fun a hE => ?_
 refine st0 hE (st_storeF hE hS ty3 sf56_0 rfl rfl (RV_of_int (inR_wrap _ _)) (i := 0) rfl hc53) ?_
 rintro _ w ⟨cs61, hc62, hS⟩ hE
 refine knil ?_
 refine kseq ?_
 obtain ⟨x68, hx69, h⟩ := ob h
 obtain ⟨z71, hz72, h⟩ := ob h
 refine kchain (k := 9) (m := m35) (es := [0, 6]) (Φ := (fun i m ws v => match i with | 0 => v = (wi ws 0).v ∧ RV (kSl kHayloftref06_Run) m v ([]) | 1 => v = v15 | 2 => v = v15 | 3 => v = (.int .i64 (x14.length : Int)) ∧ inR .i64 (x14.length : Int) | 4 => v = (.int .i64 (IntKind.i64.wrap ((x14.length : Int) - 1))) ∧ inR .i64 (IntKind.i64.wrap ((x14.length : Int) - 1)) | 5 => RV (kSl kHayloftref06_Run) m v x68 | 6 => v = (wi ws 1).v ∧ RV (kSl kHayloftref06_Run) m v z71 | 7 => RV kHayloftref06_Run m v ({ x44 with fMany := IntKind.i64.wrap (x44.fMany + 1) }) | 8 => RV (kSl kHayloftref06_Run) m v ([{ x44 with fMany := IntKind.i64.wrap (x44.fMany + 1) }]) | _ => True)) (Q := (fun c m ws L' TL' => match c with | 0 => (b50, cs61) :: L = L' ∧ (5, v15) :: TL = TL' | 1 => (b50, cs61) :: L = L' ∧ (5, (wi ws 0).v) :: (5, v15) :: TL = TL' | 2 => (b50, cs61) :: L = L' ∧ (5, (wi ws 1).v) :: (5, v15) :: TL = TL' | _ => False)) (cs := [⟨0, 0, true, []⟩, ⟨0, 1, false, [(3, v15)]⟩, ⟨0, 1, false, [(3, v15)]⟩, ⟨0, 1, false, []⟩, ⟨0, 1, false, []⟩, ⟨0, 1, false, []⟩, ⟨1, 1, true, []⟩, ⟨0, 2, false, [(5, (.pointer (some ⟨b50, 0, none⟩)))]⟩, ⟨0, 2, false, []⟩]) mixed hE hS ⟨rfl, rfl⟩ rfl rfl ⟨trivial, ⟨rfl, trivial⟩, ⟨rfl, trivial⟩, trivial, trivial, trivial, trivial, ⟨rfl, trivial⟩, trivial, trivial⟩ (by kernel_rfl) ?_ ?_ ?_ ?_
 {
 intro i m_ m2_ ws v hm_ hp_
 match i, hp_ with
 | 0, hp_ => exact ⟨hp_.1, RV.mono hp_.2 hm_⟩
 | 1, hp_ => exact hp_
 | 2, hp_ => exact hp_
 | 3, hp_ => exact hp_
 | 4, hp_ => exact hp_
 | 5, hp_ => exact RV.mono hp_ hm_
 | 6, hp_ => exact ⟨hp_.1, RV.mono hp_.2 hm_⟩
 | 7, hp_ => exact RV.mono hp_ hm_
 | 8, hp_ => exact RV.mono hp_ hm_
 | _ + 9, hp_ => exact trivial
 }
 {
 intro c m_ m2_ ws L_ T_ hm_ hq_
 match c, hq_ with
 | 0, ⟨e1_, e2_⟩ => exact ⟨e1_, e2_⟩
 | 1, ⟨e1_, e2_⟩ => exact ⟨e1_, e2_⟩
 | 2, ⟨e1_, e2_⟩ => exact ⟨e1_, e2_⟩
 | _ + 3, hq_ => exact hq_.elim
 }
 {
 refine ⟨?_, ?_, ?_, ?_, ?_, ?_, ?_, ?_, ?_, trivial⟩
 {
 refine cturn fun pre_ L_ T_ m' a' w' hl' hm' hq' hS' hE' hT' => ?_
 obtain rfl := len0 hl'
 obtain ⟨rfl, rfl⟩ := hq'
 refine Step.imp (st_lit (k := kHayloftref06_Run) (xs := []) (vs := []) hE' hS' rfl Try.underlying50 Try.sizeOf56 Try.zeroValue56 trivial rfl (by decide)) ?_
 rintro vv67 w ⟨m65, hm66, hS, hv64⟩
 exact ⟨_, ⟨0, vv67, [], [], []⟩, _, _, hm66, hS, ⟨rfl, rfl⟩, ⟨rfl, hv64⟩⟩
 }
 {
 refine cplain fun pre_ post_ L_ T_ m' a' w' hl' hp' hm' hq' hS' hE' hT' => ?_
 obtain rfl := len0 hl'
 refine Step.imp (Run1.pure (r_move hE' rfl)) ?_
 rintro _ _ ⟨rfl, rfl⟩
 exact ⟨_, M.le.refl _, hS', rfl⟩
 }
 {
 refine cplain fun pre_ post_ L_ T_ m' a' w' hl' hp' hm' hq' hS' hE' hT' => ?_
 obtain rfl := len0 hl'
 refine Step.imp (Run1.pure (r_move hE' rfl)) ?_
 rintro _ _ ⟨rfl, rfl⟩
 exact ⟨_, M.le.refl _, hS', rfl⟩
 }
 {
 refine cplain fun pre_ post_ L_ T_ m' a' w' hl' hp' hm' hq' hS' hE' hT' => ?_
 obtain rfl := len0 hl'
 obtain ⟨v83, e84, q85⟩ : ∃ v, a'.tmps.getD 38 undef = v ∧ (v = v15) := ⟨_, rfl, hT' 2 (by decide) 38 rfl⟩
 have hE := hE'.add (e84.trans q85)
 refine Step.imp (Run1.pure (r_lenSl (k := kHayloftref06_Run) hE rfl rfl Try.underlying50 (hv16.mono (M.le.trans hm36 hm')))) ?_
 rintro _ _ ⟨rfl, rfl⟩
 exact ⟨_, M.le.refl _, hS', ⟨rfl, (inR_len (RV_len (hv16.mono (M.le.trans hm36 hm'))))⟩⟩
 }
 {
 refine cplain fun pre_ post_ L_ T_ m' a' w' hl' hp' hm' hq' hS' hE' hT' => ?_
 obtain rfl := len0 hl'
 obtain ⟨v87, e88, q89⟩ : ∃ v, a'.tmps.getD 39 undef = v ∧ (v = (.int .i64 (x14.length : Int)) ∧ inR .i64 (x14.length : Int)) := ⟨_, rfl, hT' 3 (by decide) 39 rfl⟩
 obtain ⟨q89, hr90⟩ := q89
 have hE := hE'.add (e88.trans q89)
 refine Step.imp (Run1.pure (r_bin hE rfl rfl (b_sub rfl))) ?_
 rintro _ _ ⟨rfl, rfl⟩
 exact ⟨_, M.le.refl _, hS', ⟨rfl, (inR_wrap _ _)⟩⟩
 }
 {
 refine cplain fun pre_ post_ L_ T_ m' a' w' hl' hp' hm' hq' hS' hE' hT' => ?_
 obtain rfl := len0 hl'
 obtain ⟨v92, e93, q94⟩ : ∃ v, a'.tmps.getD 37 undef = v ∧ (v = v15) := ⟨_, rfl, hT' 1 (by decide) 37 rfl⟩
 have hE := hE'.add (e93.trans q94)
 obtain ⟨v95, e96, q97⟩ : ∃ v, a'.tmps.getD 40 undef = v ∧ (v = (.int .i64 (IntKind.i64.wrap ((x14.length : Int) - 1))) ∧ inR .i64 (IntKind.i64.wrap ((x14.length : Int) - 1))) := ⟨_, rfl, hT' 4 (by decide) 40 rfl⟩
 obtain ⟨q97, hr98⟩ := q97
 have hE := hE.add (e96.trans q97)
 refine Step.imp (st_slice (k := kHayloftref06_Run) hE rfl Try.underlying50 Try.sizeOf56 (hv16.mono (M.le.trans hm36 hm')) rfl ⟨_, rfl⟩ hx69 (xl := none) (xh := (some (.tmp 40)))) ?_
 rintro v99 _ ⟨rfl, hv70⟩
 exact ⟨_, M.le.refl _, hS', hv70⟩
 }
 {
 refine cturn fun pre_ L_ T_ m' a' w' hl' hm' hq' hS' hE' hT' => ?_
 obtain ⟨⟨_, vv67, _, _, _⟩, rfl⟩ := len1 hl'
 obtain ⟨rfl, rfl⟩ := hq'
 obtain ⟨v100, e101, q102⟩ : ∃ v, a'.tmps.getD 36 undef = v ∧ (v = vv67 ∧ RV (kSl kHayloftref06_Run) m' v ([])) := ⟨_, rfl, hT' 0 (by decide) 36 rfl⟩
 obtain ⟨q103, q102⟩ := q102
 rw [q103] at q102
 have hE := hE'.add (e101.trans q103)
 obtain ⟨v104, e105, q106⟩ : ∃ v, a'.tmps.getD 41 undef = v ∧ (RV (kSl kHayloftref06_Run) m' v x68) := ⟨_, rfl, hT' 5 (by decide) 41 rfl⟩
 have hE := hE.add (e105)
 refine Step.imp (st_app (k := kHayloftref06_Run) (N := 2932031007402) hE hS' rfl rfl Try.underlying50 Try.underlying50 el56 (i := 0) rfl q102 q106 hz72 rfl rfl) ?_
 rintro vv76 w ⟨m74, hm75, hS, hv73⟩
 exact ⟨_, ⟨0, vv76, [], [], []⟩, _, _, hm75, hS, ⟨rfl, rfl⟩, ⟨rfl, hv73⟩⟩
 }
 {
 refine cplain fun pre_ post_ L_ T_ m' a' w' hl' hp' hm' hq' hS' hE' hT' => ?_
 obtain rfl := len0 hl'
 rcases lenle (a := 0) (n := 1) hp' with h0_ | h0_
 {
 obtain rfl := len0 h0_
 obtain ⟨rfl, rfl⟩ := hq'
 refine Step.imp (st_loadL hE' hS' ty56 rfl (i := 0) rfl (R_whole (kHayloftref06_Run.mono hm' hc62))) ?_
 rintro v107 _ ⟨rfl, hv77⟩
 exact ⟨_, M.le.refl _, hS', hv77⟩
 }
 {
 obtain ⟨⟨_, vv67, _, _, _⟩, post_', rfl, hp1_⟩ := h0_
 rcases lenle (a := 0) (n := 0) hp1_ with h0_ | h0_
 {
 obtain rfl := len0 h0_
 obtain ⟨rfl, rfl⟩ := hq'
 refine Step.imp (st_loadL hE' hS' ty56 rfl (i := 0) rfl (R_whole (kHayloftref06_Run.mono hm' hc62))) ?_
 rintro v108 _ ⟨rfl, hv77⟩
 exact ⟨_, M.le.refl _, hS', hv77⟩
 }
 {
 obtain ⟨⟨_, vv76, _, _, _⟩, post_'', rfl, hp2_⟩ := h0_
 obtain rfl := len0 (lenz (a := 0) hp2_)
 obtain ⟨rfl, rfl⟩ := hq'
 refine Step.imp (st_loadL hE' hS' ty56 rfl (i := 0) rfl (R_whole (kHayloftref06_Run.mono hm' hc62))) ?_
 rintro v109 _ ⟨rfl, hv77⟩
 exact ⟨_, M.le.refl _, hS', hv77⟩
 }
 }
 }
 {
 refine cplain fun pre_ post_ L_ T_ m' a' w' hl' hp' hm' hq' hS' hE' hT' => ?_
 obtain rfl := len0 hl'
 obtain ⟨v110, e111, q112⟩ : ∃ v, a'.tmps.getD 43 undef = v ∧ (RV kHayloftref06_Run m' v ({ x44 with fMany := IntKind.i64.wrap (x44.fMany + 1) })) := ⟨_, rfl, hT' 7 (by decide) 43 rfl⟩
 have hE := hE'.add (e111)
 refine Step.imp (st_lit (k := kHayloftref06_Run) (xs := [{ x44 with fMany := IntKind.i64.wrap (x44.fMany + 1) }]) (vs := [v110]) hE hS' rfl Try.underlying50 Try.sizeOf56 Try.zeroValue56 ⟨q112, trivial⟩ rfl (by decide)) ?_
 rintro v113 w ⟨m79, hm80, hS, hv78⟩
 exact ⟨_, hm80, (hS.dropT 1), hv78⟩
 }
 }
 {
 intro ws_ L_ T_ m114 a w hl115 hm116 hq117 hS hd118 hn119 ho120 hT121
 obtain ⟨⟨_, vv67, _, _, _⟩, ⟨_, vv76, _, _, _⟩, rfl⟩ := len2 hl115
 obtain ⟨rfl, rfl⟩ := hq117
 have hE := Env.of (k := 9) (l' := [(0, v0), (3, v15), (4, (.int .i64 x17)), (5, (.pointer (some ⟨b50, 0, none⟩))), (25, (.bool x37)), (26, v15), (27, v15), (28, (.int .i64 (x14.length : Int))), (29, (.int .i64 (IntKind.i64.wrap ((x14.length : Int) - 1)))), (30, v47), (31, v49), (32, (.pointer (some ⟨b50, 0, none⟩))), (33, (.int .i64 x44.fMany)), (34, (.int .i64 (IntKind.i64.wrap (x44.fMany + 1)))), (35, (.pointer (some ⟨b50, 0, none⟩)))]) hd118 hn119 ho120 ⟨rfl, rfl, rfl, rfl, rfl, rfl, rfl, rfl, rfl, rfl, rfl, rfl, rfl, rfl, rfl, trivial⟩ rfl
 obtain ⟨v122, e123, q124⟩ : ∃ v, a.tmps.getD 42 undef = v ∧ (v = vv76 ∧ RV (kSl kHayloftref06_Run) m114 v z71) := ⟨_, rfl, hT121 6 (by decide) 42 rfl⟩
 obtain ⟨q125, q124⟩ := q124
 rw [q125] at q124
 have hE := hE.add (e123.trans q125)
 obtain ⟨v126, e127, q128⟩ : ∃ v, a.tmps.getD 44 undef = v ∧ (RV (kSl kHayloftref06_Run) m114 v ([{ x44 with fMany := IntKind.i64.wrap (x44.fMany + 1) }])) := ⟨_, rfl, hT121 8 (by decide) 44 rfl⟩
 have hE := hE.add (e127)
 obtain ⟨z129, hz130, h⟩ := ob h
 refine st hE (st_app (k := kHayloftref06_Run) (N := 2932031007402) hE hS rfl rfl Try.underlying50 Try.underlying50 el56 (i := 0) rfl q124 q128 hz130 rfl rfl) rfl ?_
 rintro v134 a w ⟨m132, hm133, hS, hv131⟩ hE
 refine sp hE (r_assign hE rfl) rfl fun a hE => ?_
 refine knil ?_
 refine kexit rfl rfl ?_
 exact ⟨z129, h, _, (M.le.trans hm36 (M.le.trans hm116 hm133)), v134, hv131, ((hS.pickL 1 [] rfl rfl rfl).pickT 2 [0] rfl rfl rfl), hE.cut ⟨rfl, rfl, rfl, trivial⟩⟩
 }
 }
 {
 have h := ite_F hd39 h
 refine kskip ?_
 refine kreg ?_
 refine sp hE (r_move hE rfl) rfl fun a hE => ?_
 refine sp hE (r_move hE rfl) rfl fun a hE => ?_
 refine sp hE (r_move hE rfl) rfl fun a hE => ?_
 obtain ⟨x139, hx140, h⟩ := ob h
 refine st hE (st_index (k := kApi_Value) hE rfl rfl Try.underlying29 Try.sizeOf53 (ha0.mono (M.le.trans hm13 hm36)) hx140) rfl ?_
 rintro v142 a _ ⟨rfl, hp141⟩ hE
 refine st hE (st_loadM hE hS ty53 rfl hp141) rfl ?_
 rintro v144 a _ ⟨rfl, hv143⟩ hE
 refine st hE (st_build (m := m35) (k := kHayloftref06_Run) (x0 := Hayloftref06_Run.zero) (xx := (⟨1, x139⟩ : Hayloftref06_Run)) (pl := [(0, 1), (1, 4)]) (pv := [(0, (.int .i64 1)), (1, v144)]) hE rfl Try.underlying56 rfl Try.zeroValue56 zr56 rfl (.cons rfl sf56_0 (RV_of_int (show inR .i64 1 from inR_lit (by decide))) (.cons rfl sf56_1 hv143 .nil))) rfl ?_
 rintro v146 a _ ⟨rfl, hv145⟩ hE
 refine st hE (st_lit (k := kHayloftref06_Run) (xs := [(⟨1, x139⟩ : Hayloftref06_Run)]) (vs := [v146]) hE hS rfl Try.underlying50 Try.sizeOf56 Try.zeroValue56 ⟨hv145, trivial⟩ rfl (by decide)) rfl ?_
 rintro v150 a w ⟨m148, hm149, hS, hv147⟩ hE
 obtain ⟨z151, hz152, h⟩ := ob h
 refine st hE (st_app (k := kHayloftref06_Run) (N := 2932031007402) hE hS rfl rfl Try.underlying50 Try.underlying50 el56 (i := 1) rfl (hv16.mono (M.le.trans hm36 hm149)) hv147 hz152 rfl rfl) rfl ?_
 rintro v156 a w ⟨m154, hm155, hS, hv153⟩ hE
 refine sp hE (r_assign hE rfl) rfl fun a hE => ?_
 refine knil ?_
 exact ⟨z151, h, _, (M.le.trans hm36 (M.le.trans hm149 hm155)), v156, hv153, (hS.pickT 2 [1] rfl rfl rfl), hE.cut ⟨rfl, rfl, rfl, trivial⟩⟩
 }
 }
 }
 {
 rintro a w ⟨x28, h, m26, hm27, v29, hv30, hS, hE⟩
 unfold hayloftref06_Runs_j2 at h
 refine kreg ?_
 refine sp hE (r_move hE rfl) rfl fun a hE => ?_
 refine sp hE (r_bin hE rfl rfl (b_add rfl)) rfl fun a hE => ?_
 refine sp hE (r_assign hE rfl) rfl fun a hE => ?_
 refine knil ?_
 exact ⟨(x28, IntKind.i64.wrap (x17 + 1)), (Option.some.inj h).symm, _, (M.le.trans hm13 hm27), v29, hv30, (inR_wrap _ _), hS, hE.cut ⟨rfl, rfl, rfl, trivial⟩⟩
 }
 }
 {
 have h := ite_F hd25 h
 refine kexit rfl rfl ?_
 have h := unwrap h hb20
 exact ⟨x14, h, _, hm13, v15, hv16, hS, hE.cut ⟨rfl, trivial⟩⟩
 }
 }
 }
 {
 rintro a w ⟨x6, h, m4, hm5, v7, hv8, hS, hE⟩
 unfold hayloftref06_Runs_j1 at h
 refine kseq ?_
 refine kreg ?_
 refine sp hE (r_move hE rfl) rfl fun a hE => ?_
 refine sp hE (r_assign hE rfl) rfl fun a hE => ?_
 refine knil ?_
 refine kret ?_
 obtain rfl := Option.some.inj h
 try dsimp only
 refine Fin.mk (fn := Try.f28) hE (rs := [.tmp 2]) rfl (ResL.tmp hE rfl ResL.nil) ?_
 exact ⟨_, hm5, (hS.pickT 1 [0] rfl rfl rfl), hv8⟩
 }
/- 110 -/
theorem c_hayloftref03_Number {W0 : World} {m : M} {w : World} {L : List (Nat × List Value)} {TL : List (Nat × Value)} (hS : S W0 m w (L) (TL)) {p0 : Int} (ha0 : inR .u64 p0) {r : (List Int)} (h : hayloftref03_Number p0 = some r) :
    Calls Try.prog 110 [(.int .u64 p0)].toArray w (Ret fun v w' => ∃ m', M.le m m' ∧ S W0 m' w' (L) ((1, v) :: TL) ∧ RV (kSl (kInt .u8)) m' v r) := by
 refine kcall Try.func110 rfl Try.ntmps110 (Nat.le_of_ble_eq_true rfl) fun a hE => ?_
 have hE : Env 17 a [(0, (.int .u64 p0))] := hE
 unfold hayloftref03_Number at h
 refine kseq ?_
 refine kreg ?_
 refine sp hE (r_assign hE rfl) rfl fun a hE => ?_
 refine knil ?_
 refine kseq ?_
 refine kreg ?_
 refine sp hE (r_assign hE rfl) rfl fun a hE => ?_
 refine knil ?_
 refine kseq ?_
 refine kseq ?_
 refine kreg ?_
 refine sp hE (r_assign hE rfl) rfl fun a hE => ?_
 refine knil ?_
 refine kcut (fun a w => ∃ x6 : (List Int), hayloftref03_Number_j1 x6 = some r ∧ ∃ m', M.le m m' ∧ ∃ (v7 : Value), RV (kSl (kInt .u8)) m' v7 x6 ∧ S W0 m' w (L) ((1, v7) :: TL) ∧ Env 17 a [(3, v7)]) ?_ ?_
 {
 refine kblock ?_
 refine kloop h (fun (s : ((List Int) × Int)) a w => ∃ m', M.le m m' ∧ ∃ (v15 : Value), RV (kSl (kInt .u8)) m' v15 s.1 ∧ inR .i64 s.2 ∧ S W0 m' w (L) ((1, v15) :: TL) ∧ Env 17 a [(0, (.int .u64 p0)), (3, v15), (4, (.int .i64 s.2))]) ?_ ?_
 {
 exact ⟨_, (M.le.refl _), (.slice none 0 0), RV_nil, (show inR .i64 56 from inR_lit (by decide)), (hS.tail0 1), hE.cut ⟨rfl, rfl, rfl, trivial⟩⟩
 }
 {
 rintro ⟨x14, x17⟩ a w ⟨m12, hm13, v15, hv16, hr18, hS, hE⟩ r19 h hb20
 have h : hayloftref03_Number_b1 p0 x14 x17 = some r19 := h
 unfold hayloftref03_Number_b1 at h
 refine kseq ?_
 refine kseq ?_
 refine kreg ?_
 refine sp hE (r_move hE rfl) rfl fun a hE => ?_
 refine sp hE (r_bin hE rfl rfl b_geq) rfl fun a hE => ?_
 refine knil ?_
 refine kif hE rfl (fun hd23 => ?_) (fun hd23 => ?_)
 {
 have h := ite_T hd23 h
 refine kskip ?_
 refine kseq ?_
 refine kblock ?_
 refine kreg ?_
 refine sp hE (r_move hE rfl) rfl fun a hE => ?_
 refine sp hE (r_move hE rfl) rfl fun a hE => ?_
 refine sp hE (r_move hE rfl) rfl fun a hE => ?_
 obtain ⟨u27, hu28, h⟩ := ob h
 refine sp hE (r_bin hE rfl rfl (b_shr rfl (of_decide_eq_true (chk_some hu28)))) rfl fun a hE => ?_
 refine sp hE (r_conv hE rfl Try.underlying24 Try.underlying5 rfl) rfl fun a hE => ?_
 refine st hE (st_lit (k := (kInt .u8)) (xs := [IntKind.u8.wrap (iShr .u64 p0 x17)]) (vs := [(.int .u8 (IntKind.u8.wrap (iShr .u64 p0 x17)))]) hE hS rfl Try.underlying37 Try.sizeOf5 Try.zeroValue5 ⟨(RV_of_int (inR_wrap _ _)), trivial⟩ rfl (by decide)) rfl ?_
 rintro v34 a w ⟨m32, hm33, hS, hv31⟩ hE
 obtain ⟨z35, hz36, h⟩ := ob h
 refine st hE (st_app (k := (kInt .u8)) (N := 140737488355328) hE hS rfl rfl Try.underlying37 Try.underlying37 el5 (i := 1) rfl (hv16.mono hm33) hv31 hz36 rfl rfl) rfl ?_
 rintro v40 a w ⟨m38, hm39, hS, hv37⟩ hE
 refine sp hE (r_assign hE rfl) rfl fun a hE => ?_
 refine knil ?_
 refine kreg ?_
 refine sp hE (r_move hE rfl) rfl fun a hE => ?_
 refine sp hE (r_bin hE rfl rfl (b_sub rfl)) rfl fun a hE => ?_
 refine sp hE (r_assign hE rfl) rfl fun a hE => ?_
 refine knil ?_
 exact ⟨(z35, IntKind.i64.wrap (x17 - 8)), (Option.some.inj h).symm, _, (M.le.trans hm13 (M.le.trans hm33 hm39)), v40, hv37, (inR_wrap _ _), (hS.pickT 2 [1] rfl rfl rfl), hE.cut ⟨rfl, rfl, rfl, trivial⟩⟩
 }
 {
 have h := ite_F hd23 h
 refine kexit rfl rfl ?_
 have h := unwrap h hb20
 exact ⟨x14, h, _, hm13, v15, hv16, hS, hE.cut ⟨rfl, trivial⟩⟩
 }
 }
 }
 {
 rintro a w ⟨x6, h, m4, hm5, v7, hv8, hS, hE⟩
 unfold hayloftref03_Number_j1 at h
 refine kseq ?_
 refine kreg ?_
 refine sp hE (r_move hE rfl) rfl fun a hE => ?_
 refine sp hE (r_assign hE rfl) rfl fun a hE => ?_
 refine knil ?_
 refine kret ?_
 obtain rfl := Option.some.inj h
 try dsimp only
 refine Fin.mk (fn := Try.f110) hE (rs := [.tmp 2]) rfl (ResL.tmp hE rfl ResL.nil) ?_
 exact ⟨_, hm5, (hS.pickT 1 [0] rfl rfl rfl), hv8⟩
 }
/- 62 -/
theorem c_hayloftref03_One {W0 : World} {m : M} {w : World} {L : List (Nat × List Value)} {TL : List (Nat × Value)} (hS : S W0 m w (L) (TL)) {v0 : Value} {p0 : Api_Value} (ha0 : RV kApi_Value m v0 p0) {r : (List Int)} (h : hayloftref03_One p0 = some r) :
    Calls Try.prog 62 [v0].toArray w (Ret fun v w' => ∃ m', M.le m m' ∧ S W0 m' w' (L) ((1, v) :: TL) ∧ RV (kSl (kInt .u8)) m' v r) := by
 refine kcall Try.func62 rfl Try.ntmps62 (Nat.le_of_ble_eq_true rfl) fun a hE => ?_
 have hE : Env 48 a [(0, v0)] := hE
 unfold hayloftref03_One at h
 refine kseq ?_
 refine kreg ?_
 refine st hE (st_box (k := kApi_Value) hE hS rfl ha0) rfl ?_
 rintro _ a w ⟨b1, cs2, rfl, hc3, hS⟩ hE
 refine sp hE (r_assign hE rfl) rfl fun a hE => ?_
 refine knil ?_
 refine kseq ?_
 refine kreg ?_
 refine sp hE (r_fieldL hE fo53_0 rfl) rfl fun a hE => ?_
 refine st hE (st_loadL hE hS ty3 rfl (i := 0) rfl (fl53_0.R_drop (R_whole hc3))) rfl ?_
 rintro v8 a _ ⟨rfl, hv7⟩ hE
 obtain ⟨rfl, hr9⟩ := RV_int hv7
 refine sp hE (r_conv hE rfl Try.underlying3 Try.underlying5 rfl) rfl fun a hE => ?_
 refine st hE (st_lit (k := (kInt .u8)) (xs := [IntKind.u8.wrap p0.fKind]) (vs := [(.int .u8 (IntKind.u8.wrap p0.fKind))]) hE hS rfl Try.underlying37 Try.sizeOf5 Try.zeroValue5 ⟨(RV_of_int (inR_wrap _ _)), trivial⟩ rfl (by decide)) rfl ?_
 rintro v14 a w ⟨m12, hm13, hS, hv11⟩ hE
 refine sp hE (r_assign hE rfl) rfl fun a hE => ?_
 refine knil ?_
 refine kseq ?_
 refine kseq ?_
 refine kcut (fun a w => ∃ x18 : Bool, hayloftref03_One_j1 p0 x18 = some r ∧ ∃ m', M.le m12 m' ∧ S W0 m' w ((b1, cs2) :: L) ((1, v14) :: TL) ∧ Env 48 a [(1, (.pointer (some ⟨b1, 0, none⟩))), (3, v14), (14, (.bool x18))]) ?_ ?_
 {
 refine kreg ?_
 refine sp hE (r_fieldL hE fo53_0 rfl) rfl fun a hE => ?_
 refine st hE (st_loadL hE hS ty3 rfl (i := 0) rfl (fl53_0.R_drop (R_whole (kApi_Value.mono hm13 hc3)))) rfl ?_
 rintro v118 a _ ⟨rfl, hv117⟩ hE
 obtain ⟨rfl, hr119⟩ := RV_int hv117
 refine sp hE (r_bin hE rfl rfl b_eql) rfl fun a hE => ?_
 refine sp hE (r_move hE rfl) rfl fun a hE => ?_
 rcases Bool.eq_false_or_eq_true (p0.fKind == 1) with hd122 | hd122
 {
 have h := ite_T hd122 h
 refine spg hE rfl rfl rfl rfl hd122 (r_fieldL hE fo53_1 rfl) rfl fun a hE => ?_
 refine stg hE rfl rfl rfl rfl hd122 (st_loadL hE hS ty4 rfl (i := 0) rfl (fl53_1.R_drop (R_whole (kApi_Value.mono hm13 hc3)))) rfl ?_
 rintro v125 a _ ⟨rfl, hv124⟩ hE
 obtain rfl := RV_bool hv124
 refine sp hE (r_pickT hE rfl hd122 rfl) rfl fun a hE => ?_
 refine knil ?_
 exact ⟨p0.fBool, h, _, (M.le.refl _), hS, hE.cut ⟨rfl, rfl, rfl, trivial⟩⟩
 }
 {
 have h := ite_F hd122 h
 refine sx hE rfl rfl rfl rfl hd122 rfl fun a hE => ?_
 refine sx hE rfl rfl rfl rfl hd122 rfl fun a hE => ?_
 refine sp hE (r_pickF hE rfl hd122 rfl) rfl fun a hE => ?_
 refine knil ?_
 exact ⟨false, h, _, (M.le.refl _), hS, hE.cut ⟨rfl, rfl, rfl, trivial⟩⟩
 }
 }
 {
 rintro a w ⟨x18, h, m16, hm17, hS, hE⟩
 unfold hayloftref03_One_j1 at h
 refine kif hE rfl (fun hd20 => ?_) (fun hd20 => ?_)
 {
 have h := ite_T hd20 h
 refine kseq ?_
 refine kreg ?_
 refine sp hE (r_move hE rfl) rfl fun a hE => ?_
 refine st hE (st_lit (k := (kInt .u8)) (xs := [1]) (vs := [(.int .u8 1)]) hE hS rfl Try.underlying37 Try.sizeOf5 Try.zeroValue5 ⟨(RV_of_int (show inR .u8 1 from inR_lit (by decide))), trivial⟩ rfl (by decide)) rfl ?_
 rintro v25 a w ⟨m23, hm24, hS, hv22⟩ hE
 obtain ⟨z26, hz27, h⟩ := ob h
 refine st hE (st_app (k := (kInt .u8)) (N := 140737488355328) hE hS rfl rfl Try.underlying37 Try.underlying37 el5 (i := 1) rfl (hv11.mono (M.le.trans hm17 hm24)) hv22 hz27 rfl rfl) rfl ?_
 rintro v31 a w ⟨m29, hm30, hS, hv28⟩ hE
 refine sp hE (r_assign hE rfl) rfl fun a hE => ?_
 refine knil ?_
 refine kret ?_
 obtain rfl := Option.some.inj h
 try dsimp only
 refine Fin.mk (fn := Try.f62) hE (rs := [.tmp 2]) rfl (ResL.tmp hE rfl ResL.nil) ?_
 exact ⟨_, (M.le.trans hm13 (M.le.trans hm17 (M.le.trans hm24 hm30))), ((hS.dropL 1).pickT 2 [1] rfl rfl rfl), hv28⟩
 }
 {
 have h := ite_F hd20 h
 refine kskip ?_
 refine kseq ?_
 refine kseq ?_
 refine kreg ?_
 refine sp hE (r_fieldL hE fo53_0 rfl) rfl fun a hE => ?_
 refine st hE (st_loadL hE hS ty3 rfl (i := 0) rfl (fl53_0.R_drop (R_whole (kApi_Value.mono (M.le.trans hm13 hm17) hc3)))) rfl ?_
 rintro v35 a _ ⟨rfl, hv34⟩ hE
 obtain ⟨rfl, hr36⟩ := RV_int hv34
 refine sp hE (r_bin hE rfl rfl b_eql) rfl fun a hE => ?_
 refine knil ?_
 refine kif hE rfl (fun hd38 => ?_) (fun hd38 => ?_)
 {
 have h := ite_T hd38 h
 refine kseq ?_
 refine kreg ?_
 refine sp hE (r_move hE rfl) rfl fun a hE => ?_
 refine st hE (st_lit (k := (kInt .u8)) (xs := [0]) (vs := [(.int .u8 0)]) hE hS rfl Try.underlying37 Try.sizeOf5 Try.zeroValue5 ⟨(RV_of_int (show inR .u8 0 from inR_lit (by decide))), trivial⟩ rfl (by decide)) rfl ?_
 rintro v43 a w ⟨m41, hm42, hS, hv40⟩ hE
 obtain ⟨z44, hz45, h⟩ := ob h
 refine st hE (st_app (k := (kInt .u8)) (N := 140737488355328) hE hS rfl rfl Try.underlying37 Try.underlying37 el5 (i := 1) rfl (hv11.mono (M.le.trans hm17 hm42)) hv40 hz45 rfl rfl) rfl ?_
 rintro v49 a w ⟨m47, hm48, hS, hv46⟩ hE
 refine sp hE (r_assign hE rfl) rfl fun a hE => ?_
 refine knil ?_
 refine kret ?_
 obtain rfl := Option.some.inj h
 try dsimp only
 refine Fin.mk (fn := Try.f62) hE (rs := [.tmp 2]) rfl (ResL.tmp hE rfl ResL.nil) ?_
 exact ⟨_, (M.le.trans hm13 (M.le.trans hm17 (M.le.trans hm42 hm48))), ((hS.dropL 1).pickT 2 [1] rfl rfl rfl), hv46⟩
 }
 {
 have h := ite_F hd38 h
 refine kskip ?_
 refine kseq ?_
 refine kseq ?_
 refine kreg ?_
 refine sp hE (r_fieldL hE fo53_0 rfl) rfl fun a hE => ?_
 refine st hE (st_loadL hE hS ty3 rfl (i := 0) rfl (fl53_0.R_drop (R_whole (kApi_Value.mono (M.le.trans hm13 hm17) hc3)))) rfl ?_
 rintro v53 a _ ⟨rfl, hv52⟩ hE
 obtain ⟨rfl, hr54⟩ := RV_int hv52
 refine sp hE (r_bin hE rfl rfl b_eql) rfl fun a hE => ?_
 refine knil ?_
 refine kif hE rfl (fun hd56 => ?_) (fun hd56 => ?_)
 {
 have h := ite_T hd56 h
 refine kseq ?_
 refine kreg ?_
 refine sp hE (r_move hE rfl) rfl fun a hE => ?_
 refine sp hE (r_fieldL hE fo53_2 rfl) rfl fun a hE => ?_
 refine st hE (st_loadL hE hS ty2 rfl (i := 0) rfl (fl53_2.R_drop (R_whole (kApi_Value.mono (M.le.trans hm13 hm17) hc3)))) rfl ?_
 rintro v60 a _ ⟨rfl, hv59⟩ hE
 obtain ⟨rfl, hr61⟩ := RV_int hv59
 refine sp hE (r_conv hE rfl Try.underlying2 Try.underlying24 rfl) rfl fun a hE => ?_
 obtain ⟨r63, hr64, h⟩ := ob h
 refine st hE (st_call (vs := [(.int .u64 (IntKind.u64.wrap p0.fInt))]) hE rfl Try.call110 (c_hayloftref03_Number (hS := hS) (inR_wrap _ _) hr64)) rfl ?_
 rintro v68 a w ⟨m65, hm66, hS, hv67⟩ hE
 obtain ⟨z69, hz70, h⟩ := ob h
 refine st hE (st_app (k := (kInt .u8)) (N := 140737488355328) hE hS rfl rfl Try.underlying37 Try.underlying37 el5 (i := 1) rfl (hv11.mono (M.le.trans hm17 hm66)) hv67 hz70 rfl rfl) rfl ?_
 rintro v74 a w ⟨m72, hm73, hS, hv71⟩ hE
 refine sp hE (r_assign hE rfl) rfl fun a hE => ?_
 refine knil ?_
 refine kret ?_
 obtain rfl := Option.some.inj h
 try dsimp only
 refine Fin.mk (fn := Try.f62) hE (rs := [.tmp 2]) rfl (ResL.tmp hE rfl ResL.nil) ?_
 exact ⟨_, (M.le.trans hm13 (M.le.trans hm17 (M.le.trans hm66 hm73))), ((hS.dropL 1).pickT 2 [1] rfl rfl rfl), hv71⟩
 }
 {
 have h := ite_F hd56 h
 refine kskip ?_
 refine kseq ?_
 refine kseq ?_
 refine kreg ?_
 refine sp hE (r_fieldL hE fo53_0 rfl) rfl fun a hE => ?_
 refine st hE (st_loadL hE hS ty3 rfl (i := 0) rfl (fl53_0.R_drop (R_whole (kApi_Value.mono (M.le.trans hm13 hm17) hc3)))) rfl ?_
 rintro v78 a _ ⟨rfl, hv77⟩ hE
 obtain ⟨rfl, hr79⟩ := RV_int hv77
 refine sp hE (r_bin hE rfl rfl b_eql) rfl fun a hE => ?_
 refine knil ?_
 refine kif hE rfl (fun hd81 => ?_) (fun hd81 => ?_)
 {
 have h := ite_T hd81 h
 refine kseq ?_
 refine kreg ?_
 refine sp hE (r_move hE rfl) rfl fun a hE => ?_
 refine sp hE (r_fieldL hE fo53_3 rfl) rfl fun a hE => ?_
 refine st hE (st_loadL hE hS ty9 rfl (i := 0) rfl (fl53_3.R_drop (R_whole (kApi_Value.mono (M.le.trans hm13 hm17) hc3)))) rfl ?_
 rintro v85 a _ ⟨rfl, hv84⟩ hE
 obtain ⟨rfl, hb86, hl87⟩ := RV_str hv84
 refine sp hE (r_lenStr hE rfl rfl Try.underlying9) rfl fun a hE => ?_
 refine sp hE (r_conv hE rfl Try.underlying3 Try.underlying5 rfl) rfl fun a hE => ?_
 refine st hE (st_lit (k := (kInt .u8)) (xs := [IntKind.u8.wrap (p0.fText.length : Int)]) (vs := [(.int .u8 (IntKind.u8.wrap (p0.fText.length : Int)))]) hE hS rfl Try.underlying37 Try.sizeOf5 Try.zeroValue5 ⟨(RV_of_int (inR_wrap _ _)), trivial⟩ rfl (by decide)) rfl ?_
 rintro v93 a w ⟨m91, hm92, hS, hv90⟩ hE
 obtain ⟨z94, hz95, h⟩ := ob h
 refine st hE (st_app (k := (kInt .u8)) (N := 140737488355328) hE hS rfl rfl Try.underlying37 Try.underlying37 el5 (i := 1) rfl (hv11.mono (M.le.trans hm17 hm92)) hv90 hz95 rfl rfl) rfl ?_
 rintro v99 a w ⟨m97, hm98, hS, hv96⟩ hE
 refine sp hE (r_assign hE rfl) rfl fun a hE => ?_
 refine knil ?_
 refine kseq ?_
 refine kreg ?_
 refine sp hE (r_move hE rfl) rfl fun a hE => ?_
 refine sp hE (r_fieldL hE fo53_3 rfl) rfl fun a hE => ?_
 refine st hE (st_loadL hE hS ty9 rfl (i := 0) rfl (fl53_3.R_drop (R_whole (kApi_Value.mono (M.le.trans hm13 (M.le.trans hm17 (M.le.trans hm92 hm98))) hc3)))) rfl ?_
 rintro v104 a _ ⟨rfl, hv103⟩ hE
 obtain ⟨rfl, hb105, hl106⟩ := RV_str hv103
 obtain ⟨z107, hz108, h⟩ := ob h
 refine st hE (st_appS (N := 140737488355328) hE hS rfl rfl Try.underlying37 Try.underlying9 el5 (i := 1) rfl hv96 hb105 hz108 rfl rfl) rfl ?_
 rintro v112 a w ⟨m110, hm111, hS, hv109⟩ hE
 refine sp hE (r_assign hE rfl) rfl fun a hE => ?_
 refine knil ?_
 refine kret ?_
 obtain rfl := Option.some.inj h
 try dsimp only
 refine Fin.mk (fn := Try.f62) hE (rs := [.tmp 2]) rfl (ResL.tmp hE rfl ResL.nil) ?_
 exact ⟨_, (M.le.trans hm13 (M.le.trans hm17 (M.le.trans hm92 (M.le.trans hm98 hm111)))), ((hS.dropL 1).pickT 2 [1] rfl rfl rfl), hv109⟩
 }
 {
 have h := ite_F hd81 h
 refine kskip ?_
 refine kseq ?_
 refine kreg ?_
 refine sp hE (r_move hE rfl) rfl fun a hE => ?_
 refine sp hE (r_assign hE rfl) rfl fun a hE => ?_
 refine knil ?_
 refine kret ?_
 obtain rfl := Option.some.inj h
 try dsimp only
 refine Fin.mk (fn := Try.f62) hE (rs := [.tmp 2]) rfl (ResL.tmp hE rfl ResL.nil) ?_
 exact ⟨_, (M.le.trans hm13 hm17), ((hS.dropL 1).pickT 1 [0] rfl rfl rfl), (hv11.mono hm17)⟩
 }
 }
 }
 }
 }
/- 63 -/
theorem c_hayloftref06_delta {W0 : World} {m : M} {w : World} {L : List (Nat × List Value)} {TL : List (Nat × Value)} (hS : S W0 m w (L) (TL)) {v0 : Value} {p0 : (List Api_Value)} (ha0 : RV (kSl kApi_Value) m v0 p0) {r : (List Int)} (h : hayloftref06_delta p0 = some r) :
    Calls Try.prog 63 [v0].toArray w (Ret fun v w' => ∃ m', M.le m m' ∧ S W0 m' w' (L) ((1, v) :: TL) ∧ RV (kSl (kInt .u8)) m' v r) := by
 refine kcall Try.func63 rfl Try.ntmps63 (Nat.le_of_ble_eq_true rfl) fun a hE => ?_
 have hE : Env 57 a [(0, v0)] := hE
 unfold hayloftref06_delta at h
 refine kseq ?_
 refine kreg ?_
 refine sp hE (r_assign hE rfl) rfl fun a hE => ?_
 refine knil ?_
 refine kseq ?_
 refine kreg ?_
 refine sp hE (r_move hE rfl) rfl fun a hE => ?_
 obtain ⟨x3, hx4, h⟩ := ob h
 refine st hE (st_index (k := kApi_Value) hE rfl rfl Try.underlying29 Try.sizeOf53 ha0 hx4) rfl ?_
 rintro v6 a _ ⟨rfl, hp5⟩ hE
 refine st hE (st_fieldM hE fo53_2 fl53_2 rfl hp5) rfl ?_
 rintro v9 a _ ⟨rfl, hp8⟩ hE
 refine st hE (st_loadM hE hS ty2 rfl hp8) rfl ?_
 rintro v11 a _ ⟨rfl, hv10⟩ hE
 obtain ⟨rfl, hr12⟩ := RV_int hv10
 refine sp hE (r_conv hE rfl Try.underlying2 Try.underlying24 rfl) rfl fun a hE => ?_
 obtain ⟨r14, hr15, h⟩ := ob h
 refine st hE (st_call (vs := [(.int .u64 (IntKind.u64.wrap x3.fInt))]) hE rfl Try.call110 (c_hayloftref03_Number (hS := hS) (inR_wrap _ _) hr15)) rfl ?_
 rintro v19 a w ⟨m16, hm17, hS, hv18⟩ hE
 refine sp hE (r_assign hE rfl) rfl fun a hE => ?_
 refine knil ?_
 refine kseq ?_
 refine kseq ?_
 refine kreg ?_
 refine sp hE (r_assign hE rfl) rfl fun a hE => ?_
 refine knil ?_
 refine kcut (fun a w => ∃ x24 : (List Int), hayloftref06_delta_j1 x24 = some r ∧ ∃ m', M.le m16 m' ∧ ∃ (v25 : Value), RV (kSl (kInt .u8)) m' v25 x24 ∧ S W0 m' w (L) ((1, v25) :: TL) ∧ Env 57 a [(3, v25)]) ?_ ?_
 {
 refine kblock ?_
 refine kloop h (fun (s : ((List Int) × Int)) a w => ∃ m', M.le m16 m' ∧ ∃ (v33 : Value), RV (kSl (kInt .u8)) m' v33 s.1 ∧ inR .i64 s.2 ∧ S W0 m' w (L) ((1, v33) :: TL) ∧ Env 57 a [(0, v0), (3, v33), (4, (.int .i64 s.2))]) ?_ ?_
 {
 exact ⟨_, (M.le.refl _), v19, hv18, (show inR .i64 1 from inR_lit (by decide)), hS, hE.cut ⟨rfl, rfl, rfl, trivial⟩⟩
 }
 {
 rintro ⟨x32, x35⟩ a w ⟨m30, hm31, v33, hv34, hr36, hS, hE⟩ r37 h hb38
 have h : hayloftref06_delta_b1 p0 x32 x35 = some r37 := h
 unfold hayloftref06_delta_b1 at h
 refine kseq ?_
 refine kseq ?_
 refine kreg ?_
 refine sp hE (r_move hE rfl) rfl fun a hE => ?_
 refine sp hE (r_move hE rfl) rfl fun a hE => ?_
 refine sp hE (r_lenSl (k := kApi_Value) hE rfl rfl Try.underlying29 (ha0.mono (M.le.trans hm17 hm31))) rfl fun a hE => ?_
 refine sp hE (r_bin hE rfl rfl b_lss) rfl fun a hE => ?_
 refine knil ?_
 refine kif hE rfl (fun hd43 => ?_) (fun hd43 => ?_)
 {
 have h := ite_T hd43 h
 refine kskip ?_
 refine kseq ?_
 refine kcut (fun a w => ∃ x46 : (List Int), hayloftref06_delta_j2 x35 x46 = some r37 ∧ ∃ m', M.le m30 m' ∧ ∃ (v47 : Value), RV (kSl (kInt .u8)) m' v47 x46 ∧ S W0 m' w (L) ((1, v47) :: TL) ∧ Env 57 a [(0, v0), (3, v47), (4, (.int .i64 x35))]) ?_ ?_
 {
 refine kblock ?_
 refine kseq ?_
 obtain ⟨x53, hx54, h⟩ := ob h
 obtain ⟨x60, hx61, h⟩ := ob h
 refine kchain (k := 11) (m := m30) (es := []) (Φ := (fun i m ws v => match i with | 0 => v = v0 | 1 => v = (.int .i64 x35) ∧ inR .i64 x35 | 2 => PR kApi_Value m v x53 | 3 => PR (kInt .i64) m v x53.fInt | 4 => v = (.int .i64 x53.fInt) ∧ inR .i64 x53.fInt | 5 => v = v0 | 6 => v = (.int .i64 x35) ∧ inR .i64 x35 | 7 => v = (.int .i64 (IntKind.i64.wrap (x35 - 1))) ∧ inR .i64 (IntKind.i64.wrap (x35 - 1)) | 8 => PR kApi_Value m v x60 | 9 => PR (kInt .i64) m v x60.fInt | 10 => v = (.int .i64 x60.fInt) ∧ inR .i64 x60.fInt | _ => True)) (Q := (fun c m ws L' TL' => match c with | 0 => L = L' ∧ (1, v33) :: TL = TL' | _ => False)) (cs := [⟨0, 0, false, [(0, v0)]⟩, ⟨0, 0, false, [(4, (.int .i64 x35))]⟩, ⟨0, 0, false, []⟩, ⟨0, 0, false, []⟩, ⟨0, 0, false, []⟩, ⟨0, 0, false, [(0, v0)]⟩, ⟨0, 0, false, [(4, (.int .i64 x35))]⟩, ⟨0, 0, false, []⟩, ⟨0, 0, false, []⟩, ⟨0, 0, false, []⟩, ⟨0, 0, false, []⟩]) mixed hE hS ⟨rfl, rfl⟩ rfl rfl ⟨⟨rfl, trivial⟩, ⟨rfl, trivial⟩, trivial, trivial, trivial, ⟨rfl, trivial⟩, ⟨rfl, trivial⟩, trivial, trivial, trivial, trivial, trivial⟩ (by kernel_rfl) ?_ ?_ ?_ ?_
 {
 intro i m_ m2_ ws v hm_ hp_
 match i, hp_ with
 | 0, hp_ => exact hp_
 | 1, hp_ => exact hp_
 | 2, hp_ => exact PR.mono hp_ hm_
 | 3, hp_ => exact PR.mono hp_ hm_
 | 4, hp_ => exact hp_
 | 5, hp_ => exact hp_
 | 6, hp_ => exact hp_
 | 7, hp_ => exact hp_
 | 8, hp_ => exact PR.mono hp_ hm_
 | 9, hp_ => exact PR.mono hp_ hm_
 | 10, hp_ => exact hp_
 | _ + 11, hp_ => exact trivial
 }
 {
 intro c m_ m2_ ws L_ T_ hm_ hq_
 match c, hq_ with
 | 0, ⟨e1_, e2_⟩ => exact ⟨e1_, e2_⟩
 | _ + 1, hq_ => exact hq_.elim
 }
 {
 refine ⟨?_, ?_, ?_, ?_, ?_, ?_, ?_, ?_, ?_, ?_, ?_, trivial⟩
 {
 refine cplain fun pre_ post_ L_ T_ m' a' w' hl' hp' hm' hq' hS' hE' hT' => ?_
 obtain rfl := len0 hl'
 refine Step.imp (Run1.pure (r_move hE' rfl)) ?_
 rintro _ _ ⟨rfl, rfl⟩
 exact ⟨_, M.le.refl _, hS', rfl⟩
 }
 {
 refine cplain fun pre_ post_ L_ T_ m' a' w' hl' hp' hm' hq' hS' hE' hT' => ?_
 obtain rfl := len0 hl'
 refine Step.imp (Run1.pure (r_move hE' rfl)) ?_
 rintro _ _ ⟨rfl, rfl⟩
 exact ⟨_, M.le.refl _, hS', ⟨rfl, hr36⟩⟩
 }
 {
 refine cplain fun pre_ post_ L_ T_ m' a' w' hl' hp' hm' hq' hS' hE' hT' => ?_
 obtain rfl := len0 hl'
 obtain ⟨v69, e70, q71⟩ : ∃ v, a'.tmps.getD 19 undef = v ∧ (v = v0) := ⟨_, rfl, hT' 0 (by decide) 19 rfl⟩
 have hE := hE'.add (e70.trans q71)
 obtain ⟨v72, e73, q74⟩ : ∃ v, a'.tmps.getD 20 undef = v ∧ (v = (.int .i64 x35) ∧ inR .i64 x35) := ⟨_, rfl, hT' 1 (by decide) 20 rfl⟩
 obtain ⟨q74, hr75⟩ := q74
 have hE := hE.add (e73.trans q74)
 refine Step.imp (st_index (k := kApi_Value) hE rfl rfl Try.underlying29 Try.sizeOf53 (ha0.mono (M.le.trans hm17 (M.le.trans hm31 hm'))) hx54) ?_
 rintro v76 _ ⟨rfl, hp55⟩
 exact ⟨_, M.le.refl _, hS', hp55⟩
 }
 {
 refine cplain fun pre_ post_ L_ T_ m' a' w' hl' hp' hm' hq' hS' hE' hT' => ?_
 obtain rfl := len0 hl'
 obtain ⟨v77, e78, q79⟩ : ∃ v, a'.tmps.getD 21 undef = v ∧ (PR kApi_Value m' v x53) := ⟨_, rfl, hT' 2 (by decide) 21 rfl⟩
 have hE := hE'.add (e78)
 refine Step.imp (st_fieldM hE fo53_2 fl53_2 rfl q79) ?_
 rintro v80 _ ⟨rfl, hp57⟩
 exact ⟨_, M.le.refl _, hS', hp57⟩
 }
 {
 refine cplain fun pre_ post_ L_ T_ m' a' w' hl' hp' hm' hq' hS' hE' hT' => ?_
 obtain rfl := len0 hl'
 obtain ⟨v81, e82, q83⟩ : ∃ v, a'.tmps.getD 22 undef = v ∧ (PR (kInt .i64) m' v x53.fInt) := ⟨_, rfl, hT' 3 (by decide) 22 rfl⟩
 have hE := hE'.add (e82)
 refine Step.imp (st_loadM hE hS' ty2 rfl q83) ?_
 rintro v84 _ ⟨rfl, hv58⟩
 obtain ⟨rfl, hr85⟩ := RV_int hv58
 exact ⟨_, M.le.refl _, hS', ⟨rfl, hr85⟩⟩
 }
 {
 refine cplain fun pre_ post_ L_ T_ m' a' w' hl' hp' hm' hq' hS' hE' hT' => ?_
 obtain rfl := len0 hl'
 refine Step.imp (Run1.pure (r_move hE' rfl)) ?_
 rintro _ _ ⟨rfl, rfl⟩
 exact ⟨_, M.le.refl _, hS', rfl⟩
 }
 {
 refine cplain fun pre_ post_ L_ T_ m' a' w' hl' hp' hm' hq' hS' hE' hT' => ?_
 obtain rfl := len0 hl'
 refine Step.imp (Run1.pure (r_move hE' rfl)) ?_
 rintro _ _ ⟨rfl, rfl⟩
 exact ⟨_, M.le.refl _, hS', ⟨rfl, hr36⟩⟩
 }
 {
 refine cplain fun pre_ post_ L_ T_ m' a' w' hl' hp' hm' hq' hS' hE' hT' => ?_
 obtain rfl := len0 hl'
 obtain ⟨v88, e89, q90⟩ : ∃ v, a'.tmps.getD 25 undef = v ∧ (v = (.int .i64 x35) ∧ inR .i64 x35) := ⟨_, rfl, hT' 6 (by decide) 25 rfl⟩
 obtain ⟨q90, hr91⟩ := q90
 have hE := hE'.add (e89.trans q90)
 refine Step.imp (Run1.pure (r_bin hE rfl rfl (b_sub rfl))) ?_
 rintro _ _ ⟨rfl, rfl⟩
 exact ⟨_, M.le.refl _, hS', ⟨rfl, (inR_wrap _ _)⟩⟩
 }
 {
 refine cplain fun pre_ post_ L_ T_ m' a' w' hl' hp' hm' hq' hS' hE' hT' => ?_
 obtain rfl := len0 hl'
 obtain ⟨v93, e94, q95⟩ : ∃ v, a'.tmps.getD 24 undef = v ∧ (v = v0) := ⟨_, rfl, hT' 5 (by decide) 24 rfl⟩
 have hE := hE'.add (e94.trans q95)
 obtain ⟨v96, e97, q98⟩ : ∃ v, a'.tmps.getD 26 undef = v ∧ (v = (.int .i64 (IntKind.i64.wrap (x35 - 1))) ∧ inR .i64 (IntKind.i64.wrap (x35 - 1))) := ⟨_, rfl, hT' 7 (by decide) 26 rfl⟩
 obtain ⟨q98, hr99⟩ := q98
 have hE := hE.add (e97.trans q98)
 refine Step.imp (st_index (k := kApi_Value) hE rfl rfl Try.underlying29 Try.sizeOf53 (ha0.mono (M.le.trans hm17 (M.le.trans hm31 hm'))) hx61) ?_
 rintro v100 _ ⟨rfl, hp62⟩
 exact ⟨_, M.le.refl _, hS', hp62⟩
 }
 {
 refine cplain fun pre_ post_ L_ T_ m' a' w' hl' hp' hm' hq' hS' hE' hT' => ?_
 obtain rfl := len0 hl'
 obtain ⟨v101, e102, q103⟩ : ∃ v, a'.tmps.getD 27 undef = v ∧ (PR kApi_Value m' v x60) := ⟨_, rfl, hT' 8 (by decide) 27 rfl⟩
 have hE := hE'.add (e102)
 refine Step.imp (st_fieldM hE fo53_2 fl53_2 rfl q103) ?_
 rintro v104 _ ⟨rfl, hp64⟩
 exact ⟨_, M.le.refl _, hS', hp64⟩
 }
 {
 refine cplain fun pre_ post_ L_ T_ m' a' w' hl' hp' hm' hq' hS' hE' hT' => ?_
 obtain rfl := len0 hl'
 obtain ⟨v105, e106, q107⟩ : ∃ v, a'.tmps.getD 28 undef = v ∧ (PR (kInt .i64) m' v x60.fInt) := ⟨_, rfl, hT' 9 (by decide) 28 rfl⟩
 have hE := hE'.add (e106)
 refine Step.imp (st_loadM hE hS' ty2 rfl q107) ?_
 rintro v108 _ ⟨rfl, hv65⟩
 obtain ⟨rfl, hr109⟩ := RV_int hv65
 exact ⟨_, M.le.refl _, hS', ⟨rfl, hr109⟩⟩
 }
 }
 {
 intro ws_ L_ T_ m110 a w hl111 hm112 hq113 hS hd114 hn115 ho116 hT117
 obtain rfl := len0 hl111
 obtain ⟨rfl, rfl⟩ := hq113
 have hE := Env.of (k := 11) (l' := [(0, v0), (3, v33), (4, (.int .i64 x35)), (13, (.int .i64 x35)), (14, v0), (15, (.int .i64 (p0.length : Int))), (16, (.bool (decide (x35 < (p0.length : Int)))))]) hd114 hn115 ho116 ⟨rfl, rfl, rfl, rfl, rfl, rfl, rfl, trivial⟩ rfl
 obtain ⟨v118, e119, q120⟩ : ∃ v, a.tmps.getD 23 undef = v ∧ (v = (.int .i64 x53.fInt) ∧ inR .i64 x53.fInt) := ⟨_, rfl, hT117 4 (by decide) 23 rfl⟩
 obtain ⟨q120, hr121⟩ := q120
 have hE := hE.add (e119.trans q120)
 obtain ⟨v122, e123, q124⟩ : ∃ v, a.tmps.getD 29 undef = v ∧ (v = (.int .i64 x60.fInt) ∧ inR .i64 x60.fInt) := ⟨_, rfl, hT117 10 (by decide) 29 rfl⟩
 obtain ⟨q124, hr125⟩ := q124
 have hE := hE.add (e123.trans q124)
 refine sp hE (r_bin hE rfl rfl (b_sub rfl)) rfl fun a hE => ?_
 refine sp hE (r_assign hE rfl) rfl fun a hE => ?_
 refine knil ?_
 refine kseq ?_
 refine kreg ?_
 refine sp hE (r_move hE rfl) rfl fun a hE => ?_
 refine sp hE (r_bin hE rfl rfl (b_mul rfl)) rfl fun a hE => ?_
 refine sp hE (r_conv hE rfl Try.underlying2 Try.underlying24 rfl) rfl fun a hE => ?_
 refine sp hE (r_assign hE rfl) rfl fun a hE => ?_
 refine knil ?_
 refine kseq ?_
 refine kseq ?_
 refine kreg ?_
 refine sp hE (r_move hE rfl) rfl fun a hE => ?_
 refine sp hE (r_bin hE rfl rfl b_lss) rfl fun a hE => ?_
 refine knil ?_
 refine kcut (fun a w => ∃ x136 : Int, hayloftref06_delta_j3 x32 x35 x136 = some r37 ∧ ∃ m', M.le m110 m' ∧ inR .u64 x136 ∧ S W0 m' w (L) ((1, v33) :: TL) ∧ Env 57 a [(0, v0), (3, v33), (4, (.int .i64 x35)), (6, (.int .u64 x136))]) ?_ ?_
 {
 refine kif hE rfl (fun hd192 => ?_) (fun hd192 => ?_)
 {
 have h := ite_T hd192 h
 refine kreg ?_
 refine sp hE (r_move hE rfl) rfl fun a hE => ?_
 refine sp hE (r_bin hE rfl rfl (b_mul rfl)) rfl fun a hE => ?_
 refine sp hE (r_bin hE rfl rfl (b_sub rfl)) rfl fun a hE => ?_
 refine sp hE (r_conv hE rfl Try.underlying2 Try.underlying24 rfl) rfl fun a hE => ?_
 refine sp hE (r_assign hE rfl) rfl fun a hE => ?_
 refine knil ?_
 exact ⟨(IntKind.u64.wrap (IntKind.i64.wrap ((IntKind.i64.wrap ((-2) * (IntKind.i64.wrap (x53.fInt - x60.fInt)))) - 1))), h, _, (M.le.refl _), (inR_wrap _ _), hS, hE.cut ⟨rfl, rfl, rfl, rfl, trivial⟩⟩
 }
 {
 have h := ite_F hd192 h
 refine kskip ?_
 exact ⟨(IntKind.u64.wrap (IntKind.i64.wrap (2 * (IntKind.i64.wrap (x53.fInt - x60.fInt))))), h, _, (M.le.refl _), (inR_wrap _ _), hS, hE.cut ⟨rfl, rfl, rfl, rfl, trivial⟩⟩
 }
 }
 {
 rintro a w ⟨x136, h, m134, hm135, hr137, hS, hE⟩
 unfold hayloftref06_delta_j3 at h
 refine kseq ?_
 refine kcut (fun a w => ∃ x141 : (List Int), ∃ x144 : Int, hayloftref06_delta_j4 x35 x141 x144 = some r37 ∧ ∃ m', M.le m134 m' ∧ ∃ (v142 : Value), RV (kSl (kInt .u8)) m' v142 x141 ∧ inR .u64 x144 ∧ S W0 m' w (L) ((1, v142) :: TL) ∧ Env 57 a [(0, v0), (3, v142), (4, (.int .i64 x35)), (6, (.int .u64 x144))]) ?_ ?_
 {
 refine kblock ?_
 refine kloop h (fun (s : ((List Int) × Int)) a w => ∃ m', M.le m134 m' ∧ ∃ (v164 : Value), RV (kSl (kInt .u8)) m' v164 s.1 ∧ inR .u64 s.2 ∧ S W0 m' w (L) ((1, v164) :: TL) ∧ Env 57 a [(0, v0), (3, v164), (4, (.int .i64 x35)), (6, (.int .u64 s.2))]) ?_ ?_
 {
 exact ⟨_, (M.le.refl _), v33, (hv34.mono (M.le.trans hm112 hm135)), hr137, hS, hE.cut ⟨rfl, rfl, rfl, rfl, trivial⟩⟩
 }
 {
 rintro ⟨x163, x166⟩ a w ⟨m161, hm162, v164, hv165, hr167, hS, hE⟩ r168 h hb169
 have h : hayloftref06_delta_b2 x35 x163 x166 = some r168 := h
 unfold hayloftref06_delta_b2 at h
 refine kseq ?_
 refine kseq ?_
 refine kreg ?_
 refine sp hE (r_move hE rfl) rfl fun a hE => ?_
 refine sp hE (r_bin hE rfl rfl b_geq) rfl fun a hE => ?_
 refine knil ?_
 refine kif hE rfl (fun hd172 => ?_) (fun hd172 => ?_)
 {
 have h := ite_T hd172 h
 refine kskip ?_
 refine kblock ?_
 refine kseq ?_
 refine kreg ?_
 refine sp hE (r_move hE rfl) rfl fun a hE => ?_
 refine sp hE (r_move hE rfl) rfl fun a hE => ?_
 refine sp hE (r_bin hE rfl rfl (b_rem rfl (by decide))) rfl fun a hE => ?_
 refine sp hE (r_bin hE rfl rfl (b_add rfl)) rfl fun a hE => ?_
 refine sp hE (r_conv hE rfl Try.underlying24 Try.underlying5 rfl) rfl fun a hE => ?_
 refine st hE (st_lit (k := (kInt .u8)) (xs := [IntKind.u8.wrap (IntKind.u64.wrap ((x166.tmod 128) + 128))]) (vs := [(.int .u8 (IntKind.u8.wrap (IntKind.u64.wrap ((x166.tmod 128) + 128))))]) hE hS rfl Try.underlying37 Try.sizeOf5 Try.zeroValue5 ⟨(RV_of_int (inR_wrap _ _)), trivial⟩ rfl (by decide)) rfl ?_
 rintro v181 a w ⟨m179, hm180, hS, hv178⟩ hE
 obtain ⟨z182, hz183, h⟩ := ob h
 refine st hE (st_app (k := (kInt .u8)) (N := 140737488355328) hE hS rfl rfl Try.underlying37 Try.underlying37 el5 (i := 1) rfl (hv165.mono hm180) hv178 hz183 rfl rfl) rfl ?_
 rintro v187 a w ⟨m185, hm186, hS, hv184⟩ hE
 refine sp hE (r_assign hE rfl) rfl fun a hE => ?_
 refine knil ?_
 refine kreg ?_
 refine sp hE (r_move hE rfl) rfl fun a hE => ?_
 refine sp hE (r_bin hE rfl rfl (b_quo rfl (by decide))) rfl fun a hE => ?_
 refine sp hE (r_assign hE rfl) rfl fun a hE => ?_
 refine knil ?_
 exact ⟨(z182, IntKind.u64.wrap (x166.tdiv 128)), (Option.some.inj h).symm, _, (M.le.trans hm162 (M.le.trans hm180 hm186)), v187, hv184, (inR_wrap _ _), (hS.pickT 2 [1] rfl rfl rfl), hE.cut ⟨rfl, rfl, rfl, rfl, trivial⟩⟩
 }
 {
 have h := ite_F hd172 h
 refine kexit rfl rfl ?_
 have h := unwrap h hb169
 exact ⟨x163, x166, h, _, hm162, v164, hv165, hr167, hS, hE.cut ⟨rfl, rfl, rfl, rfl, trivial⟩⟩
 }
 }
 }
 {
 rintro a w ⟨x141, x144, h, m139, hm140, v142, hv143, hr145, hS, hE⟩
 unfold hayloftref06_delta_j4 at h
 refine kreg ?_
 refine sp hE (r_move hE rfl) rfl fun a hE => ?_
 refine sp hE (r_move hE rfl) rfl fun a hE => ?_
 refine sp hE (r_conv hE rfl Try.underlying24 Try.underlying5 rfl) rfl fun a hE => ?_
 refine st hE (st_lit (k := (kInt .u8)) (xs := [IntKind.u8.wrap x144]) (vs := [(.int .u8 (IntKind.u8.wrap x144))]) hE hS rfl Try.underlying37 Try.sizeOf5 Try.zeroValue5 ⟨(RV_of_int (inR_wrap _ _)), trivial⟩ rfl (by decide)) rfl ?_
 rintro v153 a w ⟨m151, hm152, hS, hv150⟩ hE
 obtain ⟨z154, hz155, h⟩ := ob h
 refine st hE (st_app (k := (kInt .u8)) (N := 140737488355328) hE hS rfl rfl Try.underlying37 Try.underlying37 el5 (i := 1) rfl (hv143.mono hm152) hv150 hz155 rfl rfl) rfl ?_
 rintro v159 a w ⟨m157, hm158, hS, hv156⟩ hE
 refine sp hE (r_assign hE rfl) rfl fun a hE => ?_
 refine knil ?_
 exact ⟨z154, h, _, (M.le.trans hm112 (M.le.trans hm135 (M.le.trans hm140 (M.le.trans hm152 hm158)))), v159, hv156, (hS.pickT 2 [1] rfl rfl rfl), hE.cut ⟨rfl, rfl, rfl, trivial⟩⟩
 }
 }
 }
 }
 {
 rintro a w ⟨x46, h, m44, hm45, v47, hv48, hS, hE⟩
 unfold hayloftref06_delta_j2 at h
 refine kreg ?_
 refine sp hE (r_move hE rfl) rfl fun a hE => ?_
 refine sp hE (r_bin hE rfl rfl (b_add rfl)) rfl fun a hE => ?_
 refine sp hE (r_assign hE rfl) rfl fun a hE => ?_
 refine knil ?_
 exact ⟨(x46, IntKind.i64.wrap (x35 + 1)), (Option.some.inj h).symm, _, (M.le.trans hm31 hm45), v47, hv48, (inR_wrap _ _), hS, hE.cut ⟨rfl, rfl, rfl, trivial⟩⟩
 }
 }
 {
 have h := ite_F hd43 h
 refine kexit rfl rfl ?_
 have h := unwrap h hb38
 exact ⟨x32, h, _, hm31, v33, hv34, hS, hE.cut ⟨rfl, trivial⟩⟩
 }
 }
 }
 {
 rintro a w ⟨x24, h, m22, hm23, v25, hv26, hS, hE⟩
 unfold hayloftref06_delta_j1 at h
 refine kseq ?_
 refine kreg ?_
 refine sp hE (r_move hE rfl) rfl fun a hE => ?_
 refine sp hE (r_assign hE rfl) rfl fun a hE => ?_
 refine knil ?_
 refine kret ?_
 obtain rfl := Option.some.inj h
 try dsimp only
 refine Fin.mk (fn := Try.f63) hE (rs := [.tmp 2]) rfl (ResL.tmp hE rfl ResL.nil) ?_
 exact ⟨_, (M.le.trans hm17 hm23), (hS.pickT 1 [0] rfl rfl rfl), hv26⟩
 }
/- 121 -/
theorem c_hayloftref02_less {W0 : World} {m : M} {w : World} {L : List (Nat × List Value)} {TL : List (Nat × Value)} (hS : S W0 m w (L) (TL)) {v0 : Value} {p0 : Api_Value} (ha0 : RV kApi_Value m v0 p0) {v1 : Value} {p1 : Api_Value} (ha1 : RV kApi_Value m v1 p1) {r : Bool} (h : hayloftref02_less p0 p1 = some r) :
    Calls Try.prog 121 [v0, v1].toArray w (Ret fun v w' => ∃ m', M.le m m' ∧ S W0 m' w' (L) (TL) ∧ RV kBool m' v r) := by
 refine kcall Try.func121 rfl Try.ntmps121 (Nat.le_of_ble_eq_true rfl) fun a hE => ?_
 have hE : Env 43 a [(0, v0), (1, v1)] := hE
 unfold hayloftref02_less at h
 refine kseq ?_
 refine kreg ?_
 refine st hE (st_box (k := kApi_Value) hE hS rfl ha0) rfl ?_
 rintro _ a w ⟨b1, cs2, rfl, hc3, hS⟩ hE
 refine st hE (st_box (k := kApi_Value) hE hS rfl ha1) rfl ?_
 rintro _ a w ⟨b5, cs6, rfl, hc7, hS⟩ hE
 refine sp hE (r_assign hE rfl) rfl fun a hE => ?_
 refine knil ?_
 refine kseq ?_
 refine kseq ?_
 refine kreg ?_
 refine sp hE (r_fieldL hE fo53_0 rfl) rfl fun a hE => ?_
 refine st hE (st_loadL hE hS ty3 rfl (i := 1) rfl (fl53_0.R_drop (R_whole hc3))) rfl ?_
 rintro v12 a _ ⟨rfl, hv11⟩ hE
 obtain ⟨rfl, hr13⟩ := RV_int hv11
 refine sp hE (r_fieldL hE fo53_0 rfl) rfl fun a hE => ?_
 refine st hE (st_loadL hE hS ty3 rfl (i := 0) rfl (fl53_0.R_drop (R_whole hc7))) rfl ?_
 rintro v16 a _ ⟨rfl, hv15⟩ hE
 obtain ⟨rfl, hr17⟩ := RV_int hv15
 refine sp hE (r_bin hE rfl rfl b_neq) rfl fun a hE => ?_
 refine knil ?_
 refine kif hE rfl (fun hd19 => ?_) (fun hd19 => ?_)
 {
 have h := ite_T hd19 h
 refine kseq ?_
 refine kreg ?_
 refine sp hE (r_fieldL hE fo53_0 rfl) rfl fun a hE => ?_
 refine st hE (st_loadL hE hS ty3 rfl (i := 1) rfl (fl53_0.R_drop (R_whole hc3))) rfl ?_
 rintro v22 a _ ⟨rfl, hv21⟩ hE
 obtain ⟨rfl, hr23⟩ := RV_int hv21
 refine sp hE (r_fieldL hE fo53_0 rfl) rfl fun a hE => ?_
 refine st hE (st_loadL hE hS ty3 rfl (i := 0) rfl (fl53_0.R_drop (R_whole hc7))) rfl ?_
 rintro v26 a _ ⟨rfl, hv25⟩ hE
 obtain ⟨rfl, hr27⟩ := RV_int hv25
 refine sp hE (r_bin hE rfl rfl b_lss) rfl fun a hE => ?_
 refine sp hE (r_assign hE rfl) rfl fun a hE => ?_
 refine knil ?_
 refine kret ?_
 obtain rfl := Option.some.inj h
 try dsimp only
 refine Fin.mk (fn := Try.f121) hE (rs := [.tmp 4]) rfl (ResL.tmp hE rfl ResL.nil) ?_
 exact ⟨_, (M.le.refl _), (hS.dropL 2), RV_of_bool⟩
 }
 {
 have h := ite_F hd19 h
 refine kskip ?_
 refine kseq ?_
 refine kseq ?_
 refine kreg ?_
 refine sp hE (r_fieldL hE fo53_0 rfl) rfl fun a hE => ?_
 refine st hE (st_loadL hE hS ty3 rfl (i := 1) rfl (fl53_0.R_drop (R_whole hc3))) rfl ?_
 rintro v32 a _ ⟨rfl, hv31⟩ hE
 obtain ⟨rfl, hr33⟩ := RV_int hv31
 refine sp hE (r_bin hE rfl rfl b_eql) rfl fun a hE => ?_
 refine knil ?_
 refine kif hE rfl (fun hd35 => ?_) (fun hd35 => ?_)
 {
 have h := ite_T hd35 h
 refine kseq ?_
 refine kcut (fun a w => ∃ x38 : Bool, hayloftref02_less_j1 x38 = some r ∧ ∃ m', M.le m m' ∧ S W0 m' w ((b5, cs6) :: (b1, cs2) :: L) (TL) ∧ Env 43 a [(4, (.bool x38))]) ?_ ?_
 {
 refine kreg ?_
 refine sp hE (r_fieldL hE fo53_1 rfl) rfl fun a hE => ?_
 refine st hE (st_loadL hE hS ty4 rfl (i := 1) rfl (fl53_1.R_drop (R_whole hc3))) rfl ?_
 rintro v42 a _ ⟨rfl, hv41⟩ hE
 obtain rfl := RV_bool hv41
 refine sp hE (r_not hE rfl) rfl fun a hE => ?_
 refine sp hE (r_move hE rfl) rfl fun a hE => ?_
 rcases Bool.eq_false_or_eq_true (!p0.fBool) with hd45 | hd45
 {
 have h := ite_T hd45 h
 refine spg hE rfl rfl rfl rfl hd45 (r_fieldL hE fo53_1 rfl) rfl fun a hE => ?_
 refine stg hE rfl rfl rfl rfl hd45 (st_loadL hE hS ty4 rfl (i := 0) rfl (fl53_1.R_drop (R_whole hc7))) rfl ?_
 rintro v48 a _ ⟨rfl, hv47⟩ hE
 obtain rfl := RV_bool hv47
 refine sp hE (r_pickT hE rfl hd45 rfl) rfl fun a hE => ?_
 refine sp hE (r_assign hE rfl) rfl fun a hE => ?_
 refine knil ?_
 exact ⟨p1.fBool, h, _, (M.le.refl _), hS, hE.cut ⟨rfl, trivial⟩⟩
 }
 {
 have h := ite_F hd45 h
 refine sx hE rfl rfl rfl rfl hd45 rfl fun a hE => ?_
 refine sx hE rfl rfl rfl rfl hd45 rfl fun a hE => ?_
 refine sp hE (r_pickF hE rfl hd45 rfl) rfl fun a hE => ?_
 refine sp hE (r_assign hE rfl) rfl fun a hE => ?_
 refine knil ?_
 exact ⟨false, h, _, (M.le.refl _), hS, hE.cut ⟨rfl, trivial⟩⟩
 }
 }
 {
 rintro a w ⟨x38, h, m36, hm37, hS, hE⟩
 unfold hayloftref02_less_j1 at h
 refine kret ?_
 obtain rfl := Option.some.inj h
 try dsimp only
 refine Fin.mk (fn := Try.f121) hE (rs := [.tmp 4]) rfl (ResL.tmp hE rfl ResL.nil) ?_
 exact ⟨_, hm37, (hS.dropL 2), RV_of_bool⟩
 }
 }
 {
 have h := ite_F hd35 h
 refine kskip ?_
 refine kseq ?_
 refine kseq ?_
 refine kreg ?_
 refine sp hE (r_fieldL hE fo53_0 rfl) rfl fun a hE => ?_
 refine st hE (st_loadL hE hS ty3 rfl (i := 1) rfl (fl53_0.R_drop (R_whole hc3))) rfl ?_
 rintro v55 a _ ⟨rfl, hv54⟩ hE
 obtain ⟨rfl, hr56⟩ := RV_int hv54
 refine sp hE (r_bin hE rfl rfl b_eql) rfl fun a hE => ?_
 refine knil ?_
 refine kif hE rfl (fun hd58 => ?_) (fun hd58 => ?_)
 {
 have h := ite_T hd58 h
 refine kseq ?_
 refine kreg ?_
 refine sp hE (r_fieldL hE fo53_2 rfl) rfl fun a hE => ?_
 refine st hE (st_loadL hE hS ty2 rfl (i := 1) rfl (fl53_2.R_drop (R_whole hc3))) rfl ?_
 rintro v61 a _ ⟨rfl, hv60⟩ hE
 obtain ⟨rfl, hr62⟩ := RV_int hv60
 refine sp hE (r_fieldL hE fo53_2 rfl) rfl fun a hE => ?_
 refine st hE (st_loadL hE hS ty2 rfl (i := 0) rfl (fl53_2.R_drop (R_whole hc7))) rfl ?_
 rintro v65 a _ ⟨rfl, hv64⟩ hE
 obtain ⟨rfl, hr66⟩ := RV_int hv64
 refine sp hE (r_bin hE rfl rfl b_lss) rfl fun a hE => ?_
 refine sp hE (r_assign hE rfl) rfl fun a hE => ?_
 refine knil ?_
 refine kret ?_
 obtain rfl := Option.some.inj h
 try dsimp only
 refine Fin.mk (fn := Try.f121) hE (rs := [.tmp 4]) rfl (ResL.tmp hE rfl ResL.nil) ?_
 exact ⟨_, (M.le.refl _), (hS.dropL 2), RV_of_bool⟩
 }
 {
 have h := ite_F hd58 h
 refine kskip ?_
 refine kseq ?_
 refine kcut (fun a w => ∃ x71 : Bool, hayloftref02_less_j2 x71 = some r ∧ ∃ m', M.le m m' ∧ S W0 m' w ((b5, cs6) :: (b1, cs2) :: L) (TL) ∧ Env 43 a [(4, (.bool x71))]) ?_ ?_
 {
 refine kreg ?_
 refine sp hE (r_fieldL hE fo53_0 rfl) rfl fun a hE => ?_
 refine st hE (st_loadL hE hS ty3 rfl (i := 1) rfl (fl53_0.R_drop (R_whole hc3))) rfl ?_
 rintro v75 a _ ⟨rfl, hv74⟩ hE
 obtain ⟨rfl, hr76⟩ := RV_int hv74
 refine sp hE (r_bin hE rfl rfl b_eql) rfl fun a hE => ?_
 refine sp hE (r_move hE rfl) rfl fun a hE => ?_
 rcases Bool.eq_false_or_eq_true (p0.fKind == 3) with hd79 | hd79
 {
 have h := ite_T hd79 h
 refine spg hE rfl rfl rfl rfl hd79 (r_fieldL hE fo53_3 rfl) rfl fun a hE => ?_
 refine stg hE rfl rfl rfl rfl hd79 (st_loadL hE hS ty9 rfl (i := 1) rfl (fl53_3.R_drop (R_whole hc3))) rfl ?_
 rintro v82 a _ ⟨rfl, hv81⟩ hE
 obtain ⟨rfl, hb83, hl84⟩ := RV_str hv81
 refine spg hE rfl rfl rfl rfl hd79 (r_fieldL hE fo53_3 rfl) rfl fun a hE => ?_
 refine stg hE rfl rfl rfl rfl hd79 (st_loadL hE hS ty9 rfl (i := 0) rfl (fl53_3.R_drop (R_whole hc7))) rfl ?_
 rintro v87 a _ ⟨rfl, hv86⟩ hE
 obtain ⟨rfl, hb88, hl89⟩ := RV_str hv86
 refine spg hE rfl rfl rfl rfl hd79 (r_lssS hE rfl rfl hb83 hb88) rfl fun a hE => ?_
 refine sp hE (r_pickT hE rfl hd79 rfl) rfl fun a hE => ?_
 refine sp hE (r_assign hE rfl) rfl fun a hE => ?_
 refine knil ?_
 exact ⟨(ltB p0.fText p1.fText), h, _, (M.le.refl _), hS, hE.cut ⟨rfl, trivial⟩⟩
 }
 {
 have h := ite_F hd79 h
 refine sx hE rfl rfl rfl rfl hd79 rfl fun a hE => ?_
 refine sx hE rfl rfl rfl rfl hd79 rfl fun a hE => ?_
 refine sx hE rfl rfl rfl rfl hd79 rfl fun a hE => ?_
 refine sx hE rfl rfl rfl rfl hd79 rfl fun a hE => ?_
 refine sx hE rfl rfl rfl rfl hd79 rfl fun a hE => ?_
 refine sp hE (r_pickF hE rfl hd79 rfl) rfl fun a hE => ?_
 refine sp hE (r_assign hE rfl) rfl fun a hE => ?_
 refine knil ?_
 exact ⟨false, h, _, (M.le.refl _), hS, hE.cut ⟨rfl, trivial⟩⟩
 }
 }
 {
 rintro a w ⟨x71, h, m69, hm70, hS, hE⟩
 unfold hayloftref02_less_j2 at h
 refine kret ?_
 obtain rfl := Option.some.inj h
 try dsimp only
 refine Fin.mk (fn := Try.f121) hE (rs := [.tmp 4]) rfl (ResL.tmp hE rfl ResL.nil) ?_
 exact ⟨_, hm70, (hS.dropL 2), RV_of_bool⟩
 }
 }
 }
 }
/- 75 -/
theorem c_hayloftref02_Compare {W0 : World} {m : M} {w : World} {L : List (Nat × List Value)} {TL : List (Nat × Value)} (hS : S W0 m w (L) (TL)) {v0 : Value} {p0 : Api_Value} (ha0 : RV kApi_Value m v0 p0) {v1 : Value} {p1 : Api_Value} (ha1 : RV kApi_Value m v1 p1) {r : Int} (h : hayloftref02_Compare p0 p1 = some r) :
    Calls Try.prog 75 [v0, v1].toArray w (Ret fun v w' => ∃ m', M.le m m' ∧ S W0 m' w' (L) (TL) ∧ RV (kInt .i64) m' v r) := by
 refine kcall Try.func75 rfl Try.ntmps75 (Nat.le_of_ble_eq_true rfl) fun a hE => ?_
 have hE : Env 15 a [(0, v0), (1, v1)] := hE
 unfold hayloftref02_Compare at h
 refine kseq ?_
 refine kreg ?_
 refine st hE (st_box (k := kApi_Value) hE hS rfl ha0) rfl ?_
 rintro _ a w ⟨b1, cs2, rfl, hc3, hS⟩ hE
 refine st hE (st_box (k := kApi_Value) hE hS rfl ha1) rfl ?_
 rintro _ a w ⟨b5, cs6, rfl, hc7, hS⟩ hE
 refine sp hE (r_assign hE rfl) rfl fun a hE => ?_
 refine knil ?_
 refine kseq ?_
 refine kreg ?_
 refine st hE (st_loadL hE hS ty53 rfl (i := 1) rfl (R_whole hc3)) rfl ?_
 rintro v11 a _ ⟨rfl, hv10⟩ hE
 refine st hE (st_loadL hE hS ty53 rfl (i := 0) rfl (R_whole hc7)) rfl ?_
 rintro v13 a _ ⟨rfl, hv12⟩ hE
 obtain ⟨r14, hr15, h⟩ := ob h
 refine st hE (st_call (vs := [v11, v13]) hE rfl Try.call121 (c_hayloftref02_less (hS := hS) hv10 hv12 hr15)) rfl ?_
 rintro v19 a w ⟨m16, hm17, hS, hv18⟩ hE
 obtain rfl := RV_bool hv18
 refine sp hE (r_assign hE rfl) rfl fun a hE => ?_
 refine knil ?_
 refine kseq ?_
 refine kreg ?_
 refine st hE (st_loadL hE hS ty53 rfl (i := 0) rfl (R_whole (kApi_Value.mono hm17 hc7))) rfl ?_
 rintro v22 a _ ⟨rfl, hv21⟩ hE
 refine st hE (st_loadL hE hS ty53 rfl (i := 1) rfl (R_whole (kApi_Value.mono hm17 hc3))) rfl ?_
 rintro v24 a _ ⟨rfl, hv23⟩ hE
 obtain ⟨r25, hr26, h⟩ := ob h
 refine st hE (st_call (vs := [v22, v24]) hE rfl Try.call121 (c_hayloftref02_less (hS := hS) hv21 hv23 hr26)) rfl ?_
 rintro v30 a w ⟨m27, hm28, hS, hv29⟩ hE
 obtain rfl := RV_bool hv29
 refine sp hE (r_assign hE rfl) rfl fun a hE => ?_
 refine knil ?_
 refine kseq ?_
 refine kseq ?_
 refine kreg ?_
 refine sp hE (r_move hE rfl) rfl fun a hE => ?_
 refine knil ?_
 refine kif hE rfl (fun hd33 => ?_) (fun hd33 => ?_)
 {
 have h := ite_T hd33 h
 refine kseq ?_
 refine kreg ?_
 refine sp hE (r_assign hE rfl) rfl fun a hE => ?_
 refine knil ?_
 refine kret ?_
 obtain rfl := Option.some.inj h
 try dsimp only
 refine Fin.mk (fn := Try.f75) hE (rs := [.tmp 4]) rfl (ResL.tmp hE rfl ResL.nil) ?_
 exact ⟨_, (M.le.trans hm17 hm28), (hS.dropL 2), (RV_of_int (show inR .i64 (-1) from inR_lit (by decide)))⟩
 }
 {
 have h := ite_F hd33 h
 refine kskip ?_
 refine kseq ?_
 refine kseq ?_
 refine kreg ?_
 refine sp hE (r_move hE rfl) rfl fun a hE => ?_
 refine knil ?_
 refine kif hE rfl (fun hd36 => ?_) (fun hd36 => ?_)
 {
 have h := ite_T hd36 h
 refine kseq ?_
 refine kreg ?_
 refine sp hE (r_assign hE rfl) rfl fun a hE => ?_
 refine knil ?_
 refine kret ?_
 obtain rfl := Option.some.inj h
 try dsimp only
 refine Fin.mk (fn := Try.f75) hE (rs := [.tmp 4]) rfl (ResL.tmp hE rfl ResL.nil) ?_
 exact ⟨_, (M.le.trans hm17 hm28), (hS.dropL 2), (RV_of_int (show inR .i64 1 from inR_lit (by decide)))⟩
 }
 {
 have h := ite_F hd36 h
 refine kskip ?_
 refine kseq ?_
 refine kreg ?_
 refine sp hE (r_assign hE rfl) rfl fun a hE => ?_
 refine knil ?_
 refine kret ?_
 obtain rfl := Option.some.inj h
 try dsimp only
 refine Fin.mk (fn := Try.f75) hE (rs := [.tmp 4]) rfl (ResL.tmp hE rfl ResL.nil) ?_
 exact ⟨_, (M.le.trans hm17 hm28), (hS.dropL 2), (RV_of_int (show inR .i64 0 from inR_lit (by decide)))⟩
 }
 }
/- 111 -/
theorem c_hayloftref06_words {W0 : World} {m : M} {w : World} {L : List (Nat × List Value)} {TL : List (Nat × Value)} (hS : S W0 m w (L) (TL)) {v0 : Value} {p0 : (List Api_Value)} (ha0 : RV (kSl kApi_Value) m v0 p0) {r : (List Api_Value)} (h : hayloftref06_words p0 = some r) :
    Calls Try.prog 111 [v0].toArray w (Ret fun v w' => ∃ m', M.le m m' ∧ S W0 m' w' (L) (TL) ∧ RV (kSl kApi_Value) m' v r) := by
 refine kcall Try.func111 rfl Try.ntmps111 (Nat.le_of_ble_eq_true rfl) fun a hE => ?_
 have hE : Env 63 a [(0, v0)] := hE
 unfold hayloftref06_words at h
 refine kseq ?_
 refine kreg ?_
 refine sp hE (r_assign hE rfl) rfl fun a hE => ?_
 refine knil ?_
 refine kseq ?_
 refine kreg ?_
 refine sp hE (r_assign hE rfl) rfl fun a hE => ?_
 refine knil ?_
 refine kseq ?_
 refine kseq ?_
 refine kreg ?_
 refine sp hE (r_assign hE rfl) rfl fun a hE => ?_
 refine knil ?_
 refine kcut (fun a w => ∃ x6 : (List Api_Value), hayloftref06_words_j1 x6 = some r ∧ ∃ m', M.le m m' ∧ ∃ (v7 : Value), RV (kSl kApi_Value) m' v7 x6 ∧ S W0 m' w (L) (TL) ∧ Env 63 a [(3, v7)]) ?_ ?_
 {
 refine kblock ?_
 refine kloop h (fun (s : ((List Api_Value) × Int)) a w => ∃ m', M.le m m' ∧ ∃ (v15 : Value), RV (kSl kApi_Value) m' v15 s.1 ∧ inR .i64 s.2 ∧ S W0 m' w (L) (TL) ∧ Env 63 a [(0, v0), (3, v15), (4, (.int .i64 s.2))]) ?_ ?_
 {
 exact ⟨_, (M.le.refl _), (.slice none 0 0), RV_nil, (show inR .i64 0 from inR_lit (by decide)), hS, hE.cut ⟨rfl, rfl, rfl, trivial⟩⟩
 }
 {
 rintro ⟨x14, x17⟩ a w ⟨m12, hm13, v15, hv16, hr18, hS, hE⟩ r19 h hb20
 have h : hayloftref06_words_b1 p0 x14 x17 = some r19 := h
 unfold hayloftref06_words_b1 at h
 refine kseq ?_
 refine kseq ?_
 refine kreg ?_
 refine sp hE (r_move hE rfl) rfl fun a hE => ?_
 refine sp hE (r_move hE rfl) rfl fun a hE => ?_
 refine sp hE (r_lenSl (k := kApi_Value) hE rfl rfl Try.underlying29 (ha0.mono hm13)) rfl fun a hE => ?_
 refine sp hE (r_bin hE rfl rfl b_lss) rfl fun a hE => ?_
 refine knil ?_
 refine kif hE rfl (fun hd25 => ?_) (fun hd25 => ?_)
 {
 have h := ite_T hd25 h
 refine kskip ?_
 refine kseq ?_
 refine kcut (fun a w => ∃ x28 : (List Api_Value), hayloftref06_words_j2 x17 x28 = some r19 ∧ ∃ m', M.le m12 m' ∧ ∃ (v29 : Value), RV (kSl kApi_Value) m' v29 x28 ∧ S W0 m' w (L) (TL) ∧ Env 63 a [(0, v0), (3, v29), (4, (.int .i64 x17))]) ?_ ?_
 {
 refine kblock ?_
 refine kseq ?_
 refine kreg ?_
 refine sp hE (r_assign hE rfl) rfl fun a hE => ?_
 refine knil ?_
 refine kseq ?_
 refine kreg ?_
 refine sp hE (r_assign hE rfl) rfl fun a hE => ?_
 refine knil ?_
 refine kseq ?_
 refine kseq ?_
 refine kreg ?_
 refine sp hE (r_assign hE rfl) rfl fun a hE => ?_
 refine knil ?_
 refine kcut (fun a w => ∃ x40 : (List Api_Value), ∃ x43 : Bool, hayloftref06_words_j3 p0 x17 x40 x43 = some r19 ∧ ∃ m', M.le m12 m' ∧ ∃ (v41 : Value), RV (kSl kApi_Value) m' v41 x40 ∧ S W0 m' w (L) ((4, v41) :: TL) ∧ Env 63 a [(0, v0), (4, (.int .i64 x17)), (5, v41), (6, (.bool x43))]) ?_ ?_
 {
 refine kblock ?_
 refine kloop h (fun (s : ((List Api_Value) × Bool × Int)) a w => ∃ m', M.le m12 m' ∧ ∃ (v79 : Value), RV (kSl kApi_Value) m' v79 s.1 ∧ inR .i64 s.2.2 ∧ S W0 m' w (L) ((4, v79) :: TL) ∧ Env 63 a [(0, v0), (3, v15), (4, (.int .i64 x17)), (5, v79), (6, (.bool s.2.1)), (7, (.int .i64 s.2.2))]) ?_ ?_
 {
 exact ⟨_, (M.le.refl _), (.slice none 0 0), RV_nil, (show inR .i64 0 from inR_lit (by decide)), (hS.tail0 4), hE.cut ⟨rfl, rfl, rfl, rfl, rfl, rfl, trivial⟩⟩
 }
 {
 rintro ⟨x78, x81, x82⟩ a w ⟨m76, hm77, v79, hv80, hr83, hS, hE⟩ r84 h hb85
 have h : hayloftref06_words_b2 p0 x14 x17 x78 x81 x82 = some r84 := h
 unfold hayloftref06_words_b2 at h
 refine kseq ?_
 refine kseq ?_
 refine kreg ?_
 refine sp hE (r_move hE rfl) rfl fun a hE => ?_
 refine sp hE (r_move hE rfl) rfl fun a hE => ?_
 refine sp hE (r_lenSl (k := kApi_Value) hE rfl rfl Try.underlying29 (hv16.mono hm77)) rfl fun a hE => ?_
 refine sp hE (r_bin hE rfl rfl b_lss) rfl fun a hE => ?_
 refine knil ?_
 refine kif hE rfl (fun hd90 => ?_) (fun hd90 => ?_)
 {
 have h := ite_T hd90 h
 refine kskip ?_
 refine kseq ?_
 refine kcut (fun a w => ∃ x93 : (List Api_Value), ∃ x96 : Bool, hayloftref06_words_j5 x82 x93 x96 = some r84 ∧ ∃ m', M.le m76 m' ∧ ∃ (v94 : Value), RV (kSl kApi_Value) m' v94 x93 ∧ S W0 m' w (L) ((4, v94) :: TL) ∧ Env 63 a [(0, v0), (3, v15), (4, (.int .i64 x17)), (5, v94), (6, (.bool x96)), (7, (.int .i64 x82))]) ?_ ?_
 {
 refine kblock ?_
 refine kseq ?_
 obtain ⟨x101, hx102, h⟩ := ob h
 obtain ⟨x105, hx106, h⟩ := ob h
 refine kchain (k := 8) (m := m76) (es := []) (Φ := (fun i m ws v => match i with | 0 => v = v0 | 1 => v = (.int .i64 x17) ∧ inR .i64 x17 | 2 => PR kApi_Value m v x101 | 3 => RV kApi_Value m v x101 | 4 => v = v15 | 5 => v = (.int .i64 x82) ∧ inR .i64 x82 | 6 => PR kApi_Value m v x105 | 7 => RV kApi_Value m v x105 | _ => True)) (Q := (fun c m ws L' TL' => match c with | 0 => L = L' ∧ (4, v79) :: TL = TL' | _ => False)) (cs := [⟨0, 0, false, [(0, v0)]⟩, ⟨0, 0, false, [(4, (.int .i64 x17))]⟩, ⟨0, 0, false, []⟩, ⟨0, 0, false, []⟩, ⟨0, 0, false, [(3, v15)]⟩, ⟨0, 0, false, [(7, (.int .i64 x82))]⟩, ⟨0, 0, false, []⟩, ⟨0, 0, false, []⟩]) mixed hE hS ⟨rfl, rfl⟩ rfl rfl ⟨⟨rfl, trivial⟩, ⟨rfl, trivial⟩, trivial, trivial, ⟨rfl, trivial⟩, ⟨rfl, trivial⟩, trivial, trivial, trivial⟩ (by kernel_rfl) ?_ ?_ ?_ ?_
 {
 intro i m_ m2_ ws v hm_ hp_
 match i, hp_ with
 | 0, hp_ => exact hp_
 | 1, hp_ => exact hp_
 | 2, hp_ => exact PR.mono hp_ hm_
 | 3, hp_ => exact RV.mono hp_ hm_
 | 4, hp_ => exact hp_
 | 5, hp_ => exact hp_
 | 6, hp_ => exact PR.mono hp_ hm_
 | 7, hp_ => exact RV.mono hp_ hm_
 | _ + 8, hp_ => exact trivial
 }
 {
 intro c m_ m2_ ws L_ T_ hm_ hq_
 match c, hq_ with
 | 0, ⟨e1_, e2_⟩ => exact ⟨e1_, e2_⟩
 | _ + 1, hq_ => exact hq_.elim
 }
 {
 refine ⟨?_, ?_, ?_, ?_, ?_, ?_, ?_, ?_, trivial⟩
 {
 refine cplain fun pre_ post_ L_ T_ m' a' w' hl' hp' hm' hq' hS' hE' hT' => ?_
 obtain rfl := len0 hl'
 refine Step.imp (Run1.pure (r_move hE' rfl)) ?_
 rintro _ _ ⟨rfl, rfl⟩
 exact ⟨_, M.le.refl _, hS', rfl⟩
 }
 {
 refine cplain fun pre_ post_ L_ T_ m' a' w' hl' hp' hm' hq' hS' hE' hT' => ?_
 obtain rfl := len0 hl'
 refine Step.imp (Run1.pure (r_move hE' rfl)) ?_
 rintro _ _ ⟨rfl, rfl⟩
 exact ⟨_, M.le.refl _, hS', ⟨rfl, hr18⟩⟩
 }
 {
 refine cplain fun pre_ post_ L_ T_ m' a' w' hl' hp' hm' hq' hS' hE' hT' => ?_
 obtain rfl := len0 hl'
 obtain ⟨v111, e112, q113⟩ : ∃ v, a'.tmps.getD 21 undef = v ∧ (v = v0) := ⟨_, rfl, hT' 0 (by decide) 21 rfl⟩
 have hE := hE'.add (e112.trans q113)
 obtain ⟨v114, e115, q116⟩ : ∃ v, a'.tmps.getD 22 undef = v ∧ (v = (.int .i64 x17) ∧ inR .i64 x17) := ⟨_, rfl, hT' 1 (by decide) 22 rfl⟩
 obtain ⟨q116, hr117⟩ := q116
 have hE := hE.add (e115.trans q116)
 refine Step.imp (st_index (k := kApi_Value) hE rfl rfl Try.underlying29 Try.sizeOf53 (ha0.mono (M.le.trans hm13 (M.le.trans hm77 hm'))) hx102) ?_
 rintro v118 _ ⟨rfl, hp103⟩
 exact ⟨_, M.le.refl _, hS', hp103⟩
 }
 {
 refine cplain fun pre_ post_ L_ T_ m' a' w' hl' hp' hm' hq' hS' hE' hT' => ?_
 obtain rfl := len0 hl'
 obtain ⟨v119, e120, q121⟩ : ∃ v, a'.tmps.getD 23 undef = v ∧ (PR kApi_Value m' v x101) := ⟨_, rfl, hT' 2 (by decide) 23 rfl⟩
 have hE := hE'.add (e120)
 refine Step.imp (st_loadM hE hS' ty53 rfl q121) ?_
 rintro v122 _ ⟨rfl, hv104⟩
 exact ⟨_, M.le.refl _, hS', hv104⟩
 }
 {
 refine cplain fun pre_ post_ L_ T_ m' a' w' hl' hp' hm' hq' hS' hE' hT' => ?_
 obtain rfl := len0 hl'
 refine Step.imp (Run1.pure (r_move hE' rfl)) ?_
 rintro _ _ ⟨rfl, rfl⟩
 exact ⟨_, M.le.refl _, hS', rfl⟩
 }
 {
 refine cplain fun pre_ post_ L_ T_ m' a' w' hl' hp' hm' hq' hS' hE' hT' => ?_
 obtain rfl := len0 hl'
 refine Step.imp (Run1.pure (r_move hE' rfl)) ?_
 rintro _ _ ⟨rfl, rfl⟩
 exact ⟨_, M.le.refl _, hS', ⟨rfl, hr83⟩⟩
 }
 {
 refine cplain fun pre_ post_ L_ T_ m' a' w' hl' hp' hm' hq' hS' hE' hT' => ?_
 obtain rfl := len0 hl'
 obtain ⟨v125, e126, q127⟩ : ∃ v, a'.tmps.getD 25 undef = v ∧ (v = v15) := ⟨_, rfl, hT' 4 (by decide) 25 rfl⟩
 have hE := hE'.add (e126.trans q127)
 obtain ⟨v128, e129, q130⟩ : ∃ v, a'.tmps.getD 26 undef = v ∧ (v = (.int .i64 x82) ∧ inR .i64 x82) := ⟨_, rfl, hT' 5 (by decide) 26 rfl⟩
 obtain ⟨q130, hr131⟩ := q130
 have hE := hE.add (e129.trans q130)
 refine Step.imp (st_index (k := kApi_Value) hE rfl rfl Try.underlying29 Try.sizeOf53 (hv16.mono (M.le.trans hm77 hm')) hx106) ?_
 rintro v132 _ ⟨rfl, hp107⟩
 exact ⟨_, M.le.refl _, hS', hp107⟩
 }
 {
 refine cplain fun pre_ post_ L_ T_ m' a' w' hl' hp' hm' hq' hS' hE' hT' => ?_
 obtain rfl := len0 hl'
 obtain ⟨v133, e134, q135⟩ : ∃ v, a'.tmps.getD 27 undef = v ∧ (PR kApi_Value m' v x105) := ⟨_, rfl, hT' 6 (by decide) 27 rfl⟩
 have hE := hE'.add (e134)
 refine Step.imp (st_loadM hE hS' ty53 rfl q135) ?_
 rintro v136 _ ⟨rfl, hv108⟩
 exact ⟨_, M.le.refl _, hS', hv108⟩
 }
 }
 {
 intro ws_ L_ T_ m137 a w hl138 hm139 hq140 hS hd141 hn142 ho143 hT144
 obtain rfl := len0 hl138
 obtain ⟨rfl, rfl⟩ := hq140
 have hE := Env.of (k := 8) (l' := [(0, v0), (3, v15), (4, (.int .i64 x17)), (5, v79), (6, (.bool x81)), (7, (.int .i64 x82)), (15, (.int .i64 x82)), (16, v15), (17, (.int .i64 (x14.length : Int))), (18, (.bool (decide (x82 < (x14.length : Int)))))]) hd141 hn142 ho143 ⟨rfl, rfl, rfl, rfl, rfl, rfl, rfl, rfl, rfl, rfl, trivial⟩ rfl
 obtain ⟨v145, e146, q147⟩ : ∃ v, a.tmps.getD 24 undef = v ∧ (RV kApi_Value m137 v x101) := ⟨_, rfl, hT144 3 (by decide) 24 rfl⟩
 have hE := hE.add (e146)
 obtain ⟨v148, e149, q150⟩ : ∃ v, a.tmps.getD 28 undef = v ∧ (RV kApi_Value m137 v x105) := ⟨_, rfl, hT144 7 (by decide) 28 rfl⟩
 have hE := hE.add (e149)
 obtain ⟨r151, hr152, h⟩ := ob h
 refine st hE (st_call (vs := [v145, v148]) hE rfl Try.call75 (c_hayloftref02_Compare (hS := hS) q147 q150 hr152)) rfl ?_
 rintro v156 a w ⟨m153, hm154, hS, hv155⟩ hE
 obtain ⟨rfl, hr157⟩ := RV_int hv155
 refine sp hE (r_assign hE rfl) rfl fun a hE => ?_
 refine knil ?_
 refine kseq ?_
 refine kseq ?_
 refine kcut (fun a w => ∃ x161 : Bool, hayloftref06_words_j6 p0 x14 x17 x78 x81 x82 r151 x161 = some r84 ∧ ∃ m', M.le m153 m' ∧ S W0 m' w (L) ((4, v79) :: TL) ∧ Env 63 a [(0, v0), (3, v15), (4, (.int .i64 x17)), (5, v79), (6, (.bool x81)), (7, (.int .i64 x82)), (8, (.int .i64 r151)), (35, (.bool x161))]) ?_ ?_
 {
 refine kreg ?_
 refine sp hE (r_move hE rfl) rfl fun a hE => ?_
 refine sp hE (r_not hE rfl) rfl fun a hE => ?_
 refine sp hE (r_move hE rfl) rfl fun a hE => ?_
 rcases Bool.eq_false_or_eq_true (!x81) with hd218 | hd218
 {
 have h := ite_T hd218 h
 refine spg hE rfl rfl rfl rfl hd218 (r_move hE rfl) rfl fun a hE => ?_
 refine spg hE rfl rfl rfl rfl hd218 (r_bin hE rfl rfl b_leq) rfl fun a hE => ?_
 refine sp hE (r_pickT hE rfl hd218 rfl) rfl fun a hE => ?_
 refine knil ?_
 exact ⟨(decide (r151 ≤ 0)), h, _, (M.le.refl _), hS, hE.cut ⟨rfl, rfl, rfl, rfl, rfl, rfl, rfl, rfl, trivial⟩⟩
 }
 {
 have h := ite_F hd218 h
 refine sx hE rfl rfl rfl rfl hd218 rfl fun a hE => ?_
 refine sx hE rfl rfl rfl rfl hd218 rfl fun a hE => ?_
 refine sp hE (r_pickF hE rfl hd218 rfl) rfl fun a hE => ?_
 refine knil ?_
 exact ⟨false, h, _, (M.le.refl _), hS, hE.cut ⟨rfl, rfl, rfl, rfl, rfl, rfl, rfl, rfl, trivial⟩⟩
 }
 }
 {
 rintro a w ⟨x161, h, m159, hm160, hS, hE⟩
 unfold hayloftref06_words_j6 at h
 refine kcut (fun a w => ∃ x165 : (List Api_Value), ∃ x168 : Bool, hayloftref06_words_j7 x14 x82 x165 x168 = some r84 ∧ ∃ m', M.le m159 m' ∧ ∃ (v166 : Value), RV (kSl kApi_Value) m' v166 x165 ∧ S W0 m' w (L) ((4, v166) :: TL) ∧ Env 63 a [(0, v0), (3, v15), (4, (.int .i64 x17)), (5, v166), (6, (.bool x168)), (7, (.int .i64 x82))]) ?_ ?_
 {
 refine kif hE rfl (fun hd190 => ?_) (fun hd190 => ?_)
 {
 have h := ite_T hd190 h
 refine kseq ?_
 refine kreg ?_
 refine sp hE (r_move hE rfl) rfl fun a hE => ?_
 refine sp hE (r_move hE rfl) rfl fun a hE => ?_
 refine sp hE (r_move hE rfl) rfl fun a hE => ?_
 obtain ⟨x194, hx195, h⟩ := ob h
 refine st hE (st_index (k := kApi_Value) hE rfl rfl Try.underlying29 Try.sizeOf53 (ha0.mono (M.le.trans hm13 (M.le.trans hm77 (M.le.trans hm139 (M.le.trans hm154 hm160))))) hx195) rfl ?_
 rintro v197 a _ ⟨rfl, hp196⟩ hE
 refine st hE (st_loadM hE hS ty53 rfl hp196) rfl ?_
 rintro v199 a _ ⟨rfl, hv198⟩ hE
 refine st hE (st_lit (k := kApi_Value) (xs := [x194]) (vs := [v199]) hE hS rfl Try.underlying29 Try.sizeOf53 Try.zeroValue53 ⟨hv198, trivial⟩ rfl (by decide)) rfl ?_
 rintro v203 a w ⟨m201, hm202, hS, hv200⟩ hE
 obtain ⟨z204, hz205, h⟩ := ob h
 refine st hE (st_app (k := kApi_Value) (N := 3518437208883) hE hS rfl rfl Try.underlying29 Try.underlying29 el53 (i := 1) rfl (hv80.mono (M.le.trans hm139 (M.le.trans hm154 (M.le.trans hm160 hm202)))) hv200 hz205 rfl rfl) rfl ?_
 rintro v209 a w ⟨m207, hm208, hS, hv206⟩ hE
 refine sp hE (r_assign hE rfl) rfl fun a hE => ?_
 refine knil ?_
 refine kseq ?_
 refine kreg ?_
 refine sp hE (r_assign hE rfl) rfl fun a hE => ?_
 refine knil ?_
 refine kseq ?_
 refine kreg ?_
 refine sp hE (r_move hE rfl) rfl fun a hE => ?_
 refine sp hE (r_bin hE rfl rfl b_eql) rfl fun a hE => ?_
 refine knil ?_
 refine kif hE rfl (fun hd214 => ?_) (fun hd214 => ?_)
 {
 have h := ite_T hd214 h
 refine kexit rfl rfl ?_
 exact ⟨z204, true, h, _, (M.le.trans hm139 (M.le.trans hm154 (M.le.trans hm160 (M.le.trans hm202 hm208)))), v209, hv206, (hS.pickT 2 [1] rfl rfl rfl), hE.cut ⟨rfl, rfl, rfl, rfl, rfl, rfl, trivial⟩⟩
 }
 {
 have h := ite_F hd214 h
 refine kskip ?_
 exact ⟨z204, true, h, _, (M.le.trans hm202 hm208), v209, hv206, (hS.pickT 2 [1] rfl rfl rfl), hE.cut ⟨rfl, rfl, rfl, rfl, rfl, rfl, trivial⟩⟩
 }
 }
 {
 have h := ite_F hd190 h
 refine kskip ?_
 exact ⟨x78, x81, h, _, (M.le.refl _), v79, (hv80.mono (M.le.trans hm139 (M.le.trans hm154 hm160))), hS, hE.cut ⟨rfl, rfl, rfl, rfl, rfl, rfl, trivial⟩⟩
 }
 }
 {
 rintro a w ⟨x165, x168, h, m163, hm164, v166, hv167, hS, hE⟩
 unfold hayloftref06_words_j7 at h
 refine kreg ?_
 refine sp hE (r_move hE rfl) rfl fun a hE => ?_
 refine sp hE (r_move hE rfl) rfl fun a hE => ?_
 refine sp hE (r_move hE rfl) rfl fun a hE => ?_
 obtain ⟨x173, hx174, h⟩ := ob h
 refine st hE (st_index (k := kApi_Value) hE rfl rfl Try.underlying29 Try.sizeOf53 (hv16.mono (M.le.trans hm77 (M.le.trans hm139 (M.le.trans hm154 (M.le.trans hm160 hm164))))) hx174) rfl ?_
 rintro v176 a _ ⟨rfl, hp175⟩ hE
 refine st hE (st_loadM hE hS ty53 rfl hp175) rfl ?_
 rintro v178 a _ ⟨rfl, hv177⟩ hE
 refine st hE (st_lit (k := kApi_Value) (xs := [x173]) (vs := [v178]) hE hS rfl Try.underlying29 Try.sizeOf53 Try.zeroValue53 ⟨hv177, trivial⟩ rfl (by decide)) rfl ?_
 rintro v182 a w ⟨m180, hm181, hS, hv179⟩ hE
 obtain ⟨z183, hz184, h⟩ := ob h
 refine st hE (st_app (k := kApi_Value) (N := 3518437208883) hE hS rfl rfl Try.underlying29 Try.underlying29 el53 (i := 1) rfl (hv167.mono hm181) hv179 hz184 rfl rfl) rfl ?_
 rintro v188 a w ⟨m186, hm187, hS, hv185⟩ hE
 refine sp hE (r_assign hE rfl) rfl fun a hE => ?_
 refine knil ?_
 exact ⟨z183, x168, h, _, (M.le.trans hm139 (M.le.trans hm154 (M.le.trans hm160 (M.le.trans hm164 (M.le.trans hm181 hm187))))), v188, hv185, (hS.pickT 2 [1] rfl rfl rfl), hE.cut ⟨rfl, rfl, rfl, rfl, rfl, rfl, trivial⟩⟩
 }
 }
 }
 }
 {
 rintro a w ⟨x93, x96, h, m91, hm92, v94, hv95, hS, hE⟩
 unfold hayloftref06_words_j5 at h
 refine kreg ?_
 refine sp hE (r_move hE rfl) rfl fun a hE => ?_
 refine sp hE (r_bin hE rfl rfl (b_add rfl)) rfl fun a hE => ?_
 refine sp hE (r_assign hE rfl) rfl fun a hE => ?_
 refine knil ?_
 exact ⟨(x93, x96, IntKind.i64.wrap (x82 + 1)), (Option.some.inj h).symm, _, (M.le.trans hm77 hm92), v94, hv95, (inR_wrap _ _), hS, hE.cut ⟨rfl, rfl, rfl, rfl, rfl, rfl, trivial⟩⟩
 }
 }
 {
 have h := ite_F hd90 h
 refine kexit rfl rfl ?_
 have h := unwrap h hb85
 exact ⟨x78, x81, h, _, hm77, v79, hv80, hS, hE.cut ⟨rfl, rfl, rfl, rfl, trivial⟩⟩
 }
 }
 }
 {
 rintro a w ⟨x40, x43, h, m38, hm39, v41, hv42, hS, hE⟩
 unfold hayloftref06_words_j3 at h
 refine kseq ?_
 refine kseq ?_
 refine kreg ?_
 refine sp hE (r_move hE rfl) rfl fun a hE => ?_
 refine sp hE (r_not hE rfl) rfl fun a hE => ?_
 refine knil ?_
 refine kcut (fun a w => ∃ x49 : (List Api_Value), hayloftref06_words_j4 x17 x49 = some r19 ∧ ∃ m', M.le m38 m' ∧ ∃ (v50 : Value), RV (kSl kApi_Value) m' v50 x49 ∧ S W0 m' w (L) ((4, v50) :: TL) ∧ Env 63 a [(0, v0), (4, (.int .i64 x17)), (5, v50)]) ?_ ?_
 {
 refine kif hE rfl (fun hd55 => ?_) (fun hd55 => ?_)
 {
 have h := ite_T hd55 h
 refine kreg ?_
 refine sp hE (r_move hE rfl) rfl fun a hE => ?_
 refine sp hE (r_move hE rfl) rfl fun a hE => ?_
 refine sp hE (r_move hE rfl) rfl fun a hE => ?_
 obtain ⟨x59, hx60, h⟩ := ob h
 refine st hE (st_index (k := kApi_Value) hE rfl rfl Try.underlying29 Try.sizeOf53 (ha0.mono (M.le.trans hm13 hm39)) hx60) rfl ?_
 rintro v62 a _ ⟨rfl, hp61⟩ hE
 refine st hE (st_loadM hE hS ty53 rfl hp61) rfl ?_
 rintro v64 a _ ⟨rfl, hv63⟩ hE
 refine st hE (st_lit (k := kApi_Value) (xs := [x59]) (vs := [v64]) hE hS rfl Try.underlying29 Try.sizeOf53 Try.zeroValue53 ⟨hv63, trivial⟩ rfl (by decide)) rfl ?_
 rintro v68 a w ⟨m66, hm67, hS, hv65⟩ hE
 obtain ⟨z69, hz70, h⟩ := ob h
 refine st hE (st_app (k := kApi_Value) (N := 3518437208883) hE hS rfl rfl Try.underlying29 Try.underlying29 el53 (i := 1) rfl (hv42.mono hm67) hv65 hz70 rfl rfl) rfl ?_
 rintro v74 a w ⟨m72, hm73, hS, hv71⟩ hE
 refine sp hE (r_assign hE rfl) rfl fun a hE => ?_
 refine knil ?_
 exact ⟨z69, h, _, (M.le.trans hm67 hm73), v74, hv71, (hS.pickT 2 [1] rfl rfl rfl), hE.cut ⟨rfl, rfl, rfl, trivial⟩⟩
 }
 {
 have h := ite_F hd55 h
 refine kskip ?_
 exact ⟨x40, h, _, (M.le.refl _), v41, hv42, hS, hE.cut ⟨rfl, rfl, rfl, trivial⟩⟩
 }
 }
 {
 rintro a w ⟨x49, h, m47, hm48, v50, hv51, hS, hE⟩
 unfold hayloftref06_words_j4 at h
 refine kreg ?_
 refine sp hE (r_move hE rfl) rfl fun a hE => ?_
 refine sp hE (r_assign hE rfl) rfl fun a hE => ?_
 refine knil ?_
 exact ⟨x49, h, _, (M.le.trans hm39 hm48), v50, hv51, (hS.pickT 1 [] rfl rfl rfl), hE.cut ⟨rfl, rfl, rfl, trivial⟩⟩
 }
 }
 }
 {
 rintro a w ⟨x28, h, m26, hm27, v29, hv30, hS, hE⟩
 unfold hayloftref06_words_j2 at h
 refine kreg ?_
 refine sp hE (r_move hE rfl) rfl fun a hE => ?_
 refine sp hE (r_bin hE rfl rfl (b_add rfl)) rfl fun a hE => ?_
 refine sp hE (r_assign hE rfl) rfl fun a hE => ?_
 refine knil ?_
 exact ⟨(x28, IntKind.i64.wrap (x17 + 1)), (Option.some.inj h).symm, _, (M.le.trans hm13 hm27), v29, hv30, (inR_wrap _ _), hS, hE.cut ⟨rfl, rfl, rfl, trivial⟩⟩
 }
 }
 {
 have h := ite_F hd25 h
 refine kexit rfl rfl ?_
 have h := unwrap h hb20
 exact ⟨x14, h, _, hm13, v15, hv16, hS, hE.cut ⟨rfl, trivial⟩⟩
 }
 }
 }
 {
 rintro a w ⟨x6, h, m4, hm5, v7, hv8, hS, hE⟩
 unfold hayloftref06_words_j1 at h
 refine kseq ?_
 refine kreg ?_
 refine sp hE (r_move hE rfl) rfl fun a hE => ?_
 refine sp hE (r_assign hE rfl) rfl fun a hE => ?_
 refine knil ?_
 refine kret ?_
 obtain rfl := Option.some.inj h
 try dsimp only
 refine Fin.mk (fn := Try.f111) hE (rs := [.tmp 2]) rfl (ResL.tmp hE rfl ResL.nil) ?_
 exact ⟨_, hm5, hS, hv8⟩
 }
/- 112 -/
theorem c_hayloftref06_Packed {W0 : World} {m : M} {w : World} {L : List (Nat × List Value)} {TL : List (Nat × Value)} (hS : S W0 m w (L) (TL)) {v0 : Value} {p0 : (List Int)} (ha0 : RV (kSl (kInt .u64)) m v0 p0) {p1 : Int} (ha1 : inR .i64 p1) {r : (List Int)} (h : hayloftref06_Packed p0 p1 = some r) :
    Calls Try.prog 112 [v0, (.int .i64 p1)].toArray w (Ret fun v w' => ∃ m', M.le m m' ∧ S W0 m' w' (L) ((1, v) :: TL) ∧ RV (kSl (kInt .u8)) m' v r) := by
 refine kcall Try.func112 rfl Try.ntmps112 (Nat.le_of_ble_eq_true rfl) fun a hE => ?_
 have hE : Env 67 a [(0, v0), (1, (.int .i64 p1))] := hE
 unfold hayloftref06_Packed at h
 refine kseq ?_
 refine kreg ?_
 refine sp hE (r_assign hE rfl) rfl fun a hE => ?_
 refine knil ?_
 refine kseq ?_
 refine kreg ?_
 refine sp hE (r_assign hE rfl) rfl fun a hE => ?_
 refine knil ?_
 refine kseq ?_
 refine kseq ?_
 refine kreg ?_
 refine sp hE (r_assign hE rfl) rfl fun a hE => ?_
 refine knil ?_
 refine kcut (fun a w => ∃ x6 : (List Int), hayloftref06_Packed_j1 x6 = some r ∧ ∃ m', M.le m m' ∧ ∃ (v7 : Value), RV (kSl (kInt .u8)) m' v7 x6 ∧ S W0 m' w (L) ((1, v7) :: TL) ∧ Env 67 a [(5, v7)]) ?_ ?_
 {
 refine kblock ?_
 refine kloop h (fun (s : ((List Int) × Int)) a w => ∃ m', M.le m m' ∧ ∃ (v109 : Value), RV (kSl (kInt .u8)) m' v109 s.1 ∧ inR .i64 s.2 ∧ S W0 m' w (L) ((1, v109) :: TL) ∧ Env 67 a [(0, v0), (1, (.int .i64 p1)), (5, v109), (6, (.int .i64 s.2))]) ?_ ?_
 {
 exact ⟨_, (M.le.refl _), (.slice none 0 0), RV_nil, (show inR .i64 0 from inR_lit (by decide)), (hS.tail0 1), hE.cut ⟨rfl, rfl, rfl, rfl, trivial⟩⟩
 }
 {
 rintro ⟨x108, x111⟩ a w ⟨m106, hm107, v109, hv110, hr112, hS, hE⟩ r113 h hb114
 have h : hayloftref06_Packed_b3 p0 p1 x108 x111 = some r113 := h
 unfold hayloftref06_Packed_b3 at h
 refine kseq ?_
 refine kseq ?_
 refine kreg ?_
 refine sp hE (r_move hE rfl) rfl fun a hE => ?_
 refine sp hE (r_move hE rfl) rfl fun a hE => ?_
 refine sp hE (r_lenSl (k := (kInt .u64)) hE rfl rfl Try.underlying125 (ha0.mono hm107)) rfl fun a hE => ?_
 refine sp hE (r_bin hE rfl rfl b_lss) rfl fun a hE => ?_
 refine knil ?_
 refine kif hE rfl (fun hd119 => ?_) (fun hd119 => ?_)
 {
 have h := ite_T hd119 h
 refine kskip ?_
 refine kseq ?_
 refine kcut (fun a w => ∃ x122 : (List Int), hayloftref06_Packed_j6 x111 x122 = some r113 ∧ ∃ m', M.le m106 m' ∧ ∃ (v123 : Value), RV (kSl (kInt .u8)) m' v123 x122 ∧ S W0 m' w (L) ((1, v123) :: TL) ∧ Env 67 a [(0, v0), (1, (.int .i64 p1)), (5, v123), (6, (.int .i64 x111))]) ?_ ?_
 {
 refine kblock ?_
 refine kseq ?_
 refine kreg ?_
 refine sp hE (r_move hE rfl) rfl fun a hE => ?_
 refine sp hE (r_move hE rfl) rfl fun a hE => ?_
 obtain ⟨x131, hx132, h⟩ := ob h
 refine st hE (st_index (k := (kInt .u64)) hE rfl rfl Try.underlying125 Try.sizeOf24 (ha0.mono hm107) hx132) rfl ?_
 rintro v134 a _ ⟨rfl, hp133⟩ hE
 refine st hE (st_loadM hE hS ty24 rfl hp133) rfl ?_
 rintro v136 a _ ⟨rfl, hv135⟩ hE
 obtain ⟨rfl, hr137⟩ := RV_int hv135
 refine sp hE (r_assign hE rfl) rfl fun a hE => ?_
 refine knil ?_
 refine kseq ?_
 refine kreg ?_
 refine sp hE (r_assign hE rfl) rfl fun a hE => ?_
 refine knil ?_
 refine kblock ?_
 refine kloop h (fun (s : ((List Int) × Int × Int)) a w => ∃ m', M.le m106 m' ∧ ∃ (v143 : Value), RV (kSl (kInt .u8)) m' v143 s.1 ∧ inR .u64 s.2.1 ∧ inR .i64 s.2.2 ∧ S W0 m' w (L) ((1, v143) :: TL) ∧ Env 67 a [(0, v0), (1, (.int .i64 p1)), (5, v143), (6, (.int .i64 x111)), (7, (.int .u64 s.2.1)), (8, (.int .i64 s.2.2))]) ?_ ?_
 {
 exact ⟨_, (M.le.refl _), v109, hv110, hr137, (show inR .i64 0 from inR_lit (by decide)), hS, hE.cut ⟨rfl, rfl, rfl, rfl, rfl, rfl, trivial⟩⟩
 }
 {
 rintro ⟨x142, x145, x147⟩ a w ⟨m140, hm141, v143, hv144, hr146, hr148, hS, hE⟩ r149 h hb150
 have h : hayloftref06_Packed_b4 p1 x111 x142 x145 x147 = some r149 := h
 unfold hayloftref06_Packed_b4 at h
 refine kseq ?_
 refine kseq ?_
 refine kreg ?_
 refine sp hE (r_move hE rfl) rfl fun a hE => ?_
 refine sp hE (r_move hE rfl) rfl fun a hE => ?_
 refine sp hE (r_bin hE rfl rfl b_lss) rfl fun a hE => ?_
 refine knil ?_
 refine kif hE rfl (fun hd154 => ?_) (fun hd154 => ?_)
 {
 have h := ite_T hd154 h
 refine kskip ?_
 refine kseq ?_
 refine kblock ?_
 refine kseq ?_
 refine kreg ?_
 refine sp hE (r_move hE rfl) rfl fun a hE => ?_
 refine sp hE (r_move hE rfl) rfl fun a hE => ?_
 refine sp hE (r_bin hE rfl rfl (b_rem rfl (by decide))) rfl fun a hE => ?_
 refine sp hE (r_conv hE rfl Try.underlying24 Try.underlying5 rfl) rfl fun a hE => ?_
 refine st hE (st_lit (k := (kInt .u8)) (xs := [IntKind.u8.wrap (x145.tmod 2)]) (vs := [(.int .u8 (IntKind.u8.wrap (x145.tmod 2)))]) hE hS rfl Try.underlying37 Try.sizeOf5 Try.zeroValue5 ⟨(RV_of_int (inR_wrap _ _)), trivial⟩ rfl (by decide)) rfl ?_
 rintro v162 a w ⟨m160, hm161, hS, hv159⟩ hE
 obtain ⟨z163, hz164, h⟩ := ob h
 refine st hE (st_app (k := (kInt .u8)) (N := 140737488355328) hE hS rfl rfl Try.underlying37 Try.underlying37 el5 (i := 1) rfl (hv144.mono hm161) hv159 hz164 rfl rfl) rfl ?_
 rintro v168 a w ⟨m166, hm167, hS, hv165⟩ hE
 refine sp hE (r_assign hE rfl) rfl fun a hE => ?_
 refine knil ?_
 refine kreg ?_
 refine sp hE (r_move hE rfl) rfl fun a hE => ?_
 refine sp hE (r_bin hE rfl rfl (b_quo rfl (by decide))) rfl fun a hE => ?_
 refine sp hE (r_assign hE rfl) rfl fun a hE => ?_
 refine knil ?_
 refine kreg ?_
 refine sp hE (r_move hE rfl) rfl fun a hE => ?_
 refine sp hE (r_bin hE rfl rfl (b_add rfl)) rfl fun a hE => ?_
 refine sp hE (r_assign hE rfl) rfl fun a hE => ?_
 refine knil ?_
 exact ⟨(z163, IntKind.u64.wrap (x145.tdiv 2), IntKind.i64.wrap (x147 + 1)), (Option.some.inj h).symm, _, (M.le.trans hm141 (M.le.trans hm161 hm167)), v168, hv165, (inR_wrap _ _), (inR_wrap _ _), (hS.pickT 2 [1] rfl rfl rfl), hE.cut ⟨rfl, rfl, rfl, rfl, rfl, rfl, trivial⟩⟩
 }
 {
 have h := ite_F hd154 h
 refine kexit rfl rfl ?_
 have h := unwrap h hb150
 exact ⟨x142, h, _, hm141, v143, hv144, hS, hE.cut ⟨rfl, rfl, rfl, rfl, trivial⟩⟩
 }
 }
 }
 {
 rintro a w ⟨x122, h, m120, hm121, v123, hv124, hS, hE⟩
 unfold hayloftref06_Packed_j6 at h
 refine kreg ?_
 refine sp hE (r_move hE rfl) rfl fun a hE => ?_
 refine sp hE (r_bin hE rfl rfl (b_add rfl)) rfl fun a hE => ?_
 refine sp hE (r_assign hE rfl) rfl fun a hE => ?_
 refine knil ?_
 exact ⟨(x122, IntKind.i64.wrap (x111 + 1)), (Option.some.inj h).symm, _, (M.le.trans hm107 hm121), v123, hv124, (inR_wrap _ _), hS, hE.cut ⟨rfl, rfl, rfl, rfl, trivial⟩⟩
 }
 }
 {
 have h := ite_F hd119 h
 refine kexit rfl rfl ?_
 have h := unwrap h hb114
 exact ⟨x108, h, _, hm107, v109, hv110, hS, hE.cut ⟨rfl, trivial⟩⟩
 }
 }
 }
 {
 rintro a w ⟨x6, h, m4, hm5, v7, hv8, hS, hE⟩
 unfold hayloftref06_Packed_j1 at h
 refine kseq ?_
 refine kreg ?_
 refine sp hE (r_assign hE rfl) rfl fun a hE => ?_
 refine knil ?_
 refine kseq ?_
 refine kseq ?_
 refine kreg ?_
 refine sp hE (r_assign hE rfl) rfl fun a hE => ?_
 refine knil ?_
 refine kcut (fun a w => ∃ x14 : (List Int), hayloftref06_Packed_j2 x14 = some r ∧ ∃ m', M.le m4 m' ∧ ∃ (v15 : Value), RV (kSl (kInt .u8)) m' v15 x14 ∧ S W0 m' w (L) ((1, v15) :: TL) ∧ Env 67 a [(9, v15)]) ?_ ?_
 {
 refine kblock ?_
 refine kloop h (fun (s : ((List Int) × Int)) a w => ∃ m', M.le m4 m' ∧ ∃ (v23 : Value), RV (kSl (kInt .u8)) m' v23 s.1 ∧ inR .i64 s.2 ∧ S W0 m' w (L) ((1, v23) :: (1, v7) :: TL) ∧ Env 67 a [(5, v7), (9, v23), (10, (.int .i64 s.2))]) ?_ ?_
 {
 exact ⟨_, (M.le.refl _), (.slice none 0 0), RV_nil, (show inR .i64 0 from inR_lit (by decide)), (hS.tail0 1), hE.cut ⟨rfl, rfl, rfl, trivial⟩⟩
 }
 {
 rintro ⟨x22, x25⟩ a w ⟨m20, hm21, v23, hv24, hr26, hS, hE⟩ r27 h hb28
 have h : hayloftref06_Packed_b1 x6 x22 x25 = some r27 := h
 unfold hayloftref06_Packed_b1 at h
 refine kseq ?_
 refine kseq ?_
 refine kreg ?_
 refine sp hE (r_move hE rfl) rfl fun a hE => ?_
 refine sp hE (r_move hE rfl) rfl fun a hE => ?_
 refine sp hE (r_lenSl (k := (kInt .u8)) hE rfl rfl Try.underlying37 (hv8.mono hm21)) rfl fun a hE => ?_
 refine sp hE (r_bin hE rfl rfl b_lss) rfl fun a hE => ?_
 refine knil ?_
 refine kif hE rfl (fun hd33 => ?_) (fun hd33 => ?_)
 {
 have h := ite_T hd33 h
 refine kskip ?_
 refine kseq ?_
 refine kcut (fun a w => ∃ x36 : (List Int), hayloftref06_Packed_j3 x25 x36 = some r27 ∧ ∃ m', M.le m20 m' ∧ ∃ (v37 : Value), RV (kSl (kInt .u8)) m' v37 x36 ∧ S W0 m' w (L) ((1, v37) :: (1, v7) :: TL) ∧ Env 67 a [(5, v7), (9, v37), (10, (.int .i64 x25))]) ?_ ?_
 {
 refine kblock ?_
 refine kseq ?_
 refine kreg ?_
 refine sp hE (r_assign hE rfl) rfl fun a hE => ?_
 refine knil ?_
 refine kseq ?_
 refine kseq ?_
 refine kreg ?_
 refine sp hE (r_assign hE rfl) rfl fun a hE => ?_
 refine knil ?_
 refine kcut (fun a w => ∃ x47 : Int, hayloftref06_Packed_j4 x22 x25 x47 = some r27 ∧ ∃ m', M.le m20 m' ∧ inR .u8 x47 ∧ S W0 m' w (L) ((1, v23) :: (1, v7) :: TL) ∧ Env 67 a [(5, v7), (9, v23), (10, (.int .i64 x25)), (11, (.int .u8 x47))]) ?_ ?_
 {
 refine kblock ?_
 refine kloop h (fun (s : (Int × Int)) a w => ∃ m', M.le m20 m' ∧ inR .u8 s.1 ∧ inR .i64 s.2 ∧ S W0 m' w (L) ((1, v23) :: (1, v7) :: TL) ∧ Env 67 a [(5, v7), (9, v23), (10, (.int .i64 x25)), (11, (.int .u8 s.1)), (12, (.int .i64 s.2))]) ?_ ?_
 {
 exact ⟨_, (M.le.refl _), (show inR .u8 0 from inR_lit (by decide)), (show inR .i64 7 from inR_lit (by decide)), hS, hE.cut ⟨rfl, rfl, rfl, rfl, rfl, trivial⟩⟩
 }
 {
 rintro ⟨x65, x67⟩ a w ⟨m63, hm64, hr66, hr68, hS, hE⟩ r69 h hb70
 have h : hayloftref06_Packed_b2 x6 x22 x25 x65 x67 = some r69 := h
 unfold hayloftref06_Packed_b2 at h
 refine kseq ?_
 refine kseq ?_
 refine kreg ?_
 refine sp hE (r_move hE rfl) rfl fun a hE => ?_
 refine sp hE (r_bin hE rfl rfl b_geq) rfl fun a hE => ?_
 refine knil ?_
 refine kif hE rfl (fun hd73 => ?_) (fun hd73 => ?_)
 {
 have h := ite_T hd73 h
 refine kskip ?_
 refine kseq ?_
 refine kblock ?_
 refine kseq ?_
 refine kreg ?_
 refine sp hE (r_move hE rfl) rfl fun a hE => ?_
 refine sp hE (r_bin hE rfl rfl (b_mul rfl)) rfl fun a hE => ?_
 refine sp hE (r_assign hE rfl) rfl fun a hE => ?_
 refine knil ?_
 refine kseq ?_
 refine kreg ?_
 refine sp hE (r_move hE rfl) rfl fun a hE => ?_
 refine sp hE (r_move hE rfl) rfl fun a hE => ?_
 refine sp hE (r_bin hE rfl rfl (b_add rfl)) rfl fun a hE => ?_
 refine sp hE (r_move hE rfl) rfl fun a hE => ?_
 refine sp hE (r_lenSl (k := (kInt .u8)) hE rfl rfl Try.underlying37 (hv8.mono (M.le.trans hm21 hm64))) rfl fun a hE => ?_
 refine sp hE (r_bin hE rfl rfl b_lss) rfl fun a hE => ?_
 refine knil ?_
 refine kcut (fun a w => ∃ x85 : Int, hayloftref06_Packed_j5 x67 x85 = some r69 ∧ ∃ m', M.le m63 m' ∧ inR .u8 x85 ∧ S W0 m' w (L) ((1, v23) :: (1, v7) :: TL) ∧ Env 67 a [(5, v7), (9, v23), (10, (.int .i64 x25)), (11, (.int .u8 x85)), (12, (.int .i64 x67))]) ?_ ?_
 {
 refine kif hE rfl (fun hd91 => ?_) (fun hd91 => ?_)
 {
 have h := ite_T hd91 h
 refine kreg ?_
 refine sp hE (r_move hE rfl) rfl fun a hE => ?_
 refine sp hE (r_move hE rfl) rfl fun a hE => ?_
 refine sp hE (r_move hE rfl) rfl fun a hE => ?_
 refine sp hE (r_move hE rfl) rfl fun a hE => ?_
 refine sp hE (r_bin hE rfl rfl (b_add rfl)) rfl fun a hE => ?_
 obtain ⟨x97, hx98, h⟩ := ob h
 refine st hE (st_index (k := (kInt .u8)) hE rfl rfl Try.underlying37 Try.sizeOf5 (hv8.mono (M.le.trans hm21 hm64)) hx98) rfl ?_
 rintro v100 a _ ⟨rfl, hp99⟩ hE
 refine st hE (st_loadM hE hS ty5 rfl hp99) rfl ?_
 rintro v102 a _ ⟨rfl, hv101⟩ hE
 obtain ⟨rfl, hr103⟩ := RV_int hv101
 refine sp hE (r_bin hE rfl rfl (b_add rfl)) rfl fun a hE => ?_
 refine sp hE (r_assign hE rfl) rfl fun a hE => ?_
 refine knil ?_
 exact ⟨(IntKind.u8.wrap ((IntKind.u8.wrap (x65 * 2)) + x97)), h, _, (M.le.refl _), (inR_wrap _ _), hS, hE.cut ⟨rfl, rfl, rfl, rfl, rfl, trivial⟩⟩
 }
 {
 have h := ite_F hd91 h
 refine kskip ?_
 exact ⟨(IntKind.u8.wrap (x65 * 2)), h, _, (M.le.refl _), (inR_wrap _ _), hS, hE.cut ⟨rfl, rfl, rfl, rfl, rfl, trivial⟩⟩
 }
 }
 {
 rintro a w ⟨x85, h, m83, hm84, hr86, hS, hE⟩
 unfold hayloftref06_Packed_j5 at h
 refine kreg ?_
 refine sp hE (r_move hE rfl) rfl fun a hE => ?_
 refine sp hE (r_bin hE rfl rfl (b_sub rfl)) rfl fun a hE => ?_
 refine sp hE (r_assign hE rfl) rfl fun a hE => ?_
 refine knil ?_
 exact ⟨(x85, IntKind.i64.wrap (x67 - 1)), (Option.some.inj h).symm, _, (M.le.trans hm64 hm84), hr86, (inR_wrap _ _), hS, hE.cut ⟨rfl, rfl, rfl, rfl, rfl, trivial⟩⟩
 }
 }
 {
 have h := ite_F hd73 h
 refine kexit rfl rfl ?_
 have h := unwrap h hb70
 exact ⟨x65, h, _, hm64, hr66, hS, hE.cut ⟨rfl, rfl, rfl, rfl, trivial⟩⟩
 }
 }
 }
 {
 rintro a w ⟨x47, h, m45, hm46, hr48, hS, hE⟩
 unfold hayloftref06_Packed_j4 at h
 refine kreg ?_
 refine sp hE (r_move hE rfl) rfl fun a hE => ?_
 refine sp hE (r_move hE rfl) rfl fun a hE => ?_
 refine st hE (st_lit (k := (kInt .u8)) (xs := [x47]) (vs := [(.int .u8 x47)]) hE hS rfl Try.underlying37 Try.sizeOf5 Try.zeroValue5 ⟨(RV_of_int hr48), trivial⟩ rfl (by decide)) rfl ?_
 rintro v55 a w ⟨m53, hm54, hS, hv52⟩ hE
 obtain ⟨z56, hz57, h⟩ := ob h
 refine st hE (st_app (k := (kInt .u8)) (N := 140737488355328) hE hS rfl rfl Try.underlying37 Try.underlying37 el5 (i := 1) rfl (hv24.mono (M.le.trans hm46 hm54)) hv52 hz57 rfl rfl) rfl ?_
 rintro v61 a w ⟨m59, hm60, hS, hv58⟩ hE
 refine sp hE (r_assign hE rfl) rfl fun a hE => ?_
 refine knil ?_
 exact ⟨z56, h, _, (M.le.trans hm46 (M.le.trans hm54 hm60)), v61, hv58, (hS.pickT 3 [1, 2] rfl rfl rfl), hE.cut ⟨rfl, rfl, rfl, trivial⟩⟩
 }
 }
 {
 rintro a w ⟨x36, h, m34, hm35, v37, hv38, hS, hE⟩
 unfold hayloftref06_Packed_j3 at h
 refine kreg ?_
 refine sp hE (r_move hE rfl) rfl fun a hE => ?_
 refine sp hE (r_bin hE rfl rfl (b_add rfl)) rfl fun a hE => ?_
 refine sp hE (r_assign hE rfl) rfl fun a hE => ?_
 refine knil ?_
 exact ⟨(x36, IntKind.i64.wrap (x25 + 8)), (Option.some.inj h).symm, _, (M.le.trans hm21 hm35), v37, hv38, (inR_wrap _ _), hS, hE.cut ⟨rfl, rfl, rfl, trivial⟩⟩
 }
 }
 {
 have h := ite_F hd33 h
 refine kexit rfl rfl ?_
 have h := unwrap h hb28
 exact ⟨x22, h, _, hm21, v23, hv24, (hS.pickT 2 [0] rfl rfl rfl), hE.cut ⟨rfl, trivial⟩⟩
 }
 }
 }
 {
 rintro a w ⟨x14, h, m12, hm13, v15, hv16, hS, hE⟩
 unfold hayloftref06_Packed_j2 at h
 refine kseq ?_
 refine kreg ?_
 refine sp hE (r_move hE rfl) rfl fun a hE => ?_
 refine sp hE (r_assign hE rfl) rfl fun a hE => ?_
 refine knil ?_
 refine kret ?_
 obtain rfl := Option.some.inj h
 try dsimp only
 refine Fin.mk (fn := Try.f112) hE (rs := [.tmp 4]) rfl (ResL.tmp hE rfl ResL.nil) ?_
 exact ⟨_, (M.le.trans hm5 hm13), (hS.pickT 1 [0] rfl rfl rfl), hv16⟩
 }
 }
/- 64 -/
theorem c_hayloftref06_dict {W0 : World} {m : M} {w : World} {L : List (Nat × List Value)} {TL : List (Nat × Value)} (hS : S W0 m w (L) (TL)) {v0 : Value} {p0 : (List Api_Value)} (ha0 : RV (kSl kApi_Value) m v0 p0) {r : (List Int)} (h : hayloftref06_dict p0 = some r) :
    Calls Try.prog 64 [v0].toArray w (Ret fun v w' => ∃ m', M.le m m' ∧ S W0 m' w' (L) ((1, v) :: TL) ∧ RV (kSl (kInt .u8)) m' v r) := by
 refine kcall Try.func64 rfl Try.ntmps64 (Nat.le_of_ble_eq_true rfl) fun a hE => ?_
 have hE : Env 63 a [(0, v0)] := hE
 unfold hayloftref06_dict at h
 refine kseq ?_
 refine kreg ?_
 refine sp hE (r_assign hE rfl) rfl fun a hE => ?_
 refine knil ?_
 refine kseq ?_
 refine kreg ?_
 refine sp hE (r_move hE rfl) rfl fun a hE => ?_
 obtain ⟨r3, hr4, h⟩ := ob h
 refine st hE (st_call (vs := [v0]) hE rfl Try.call111 (c_hayloftref06_words (hS := hS) ha0 hr4)) rfl ?_
 rintro v8 a w ⟨m5, hm6, hS, hv7⟩ hE
 refine sp hE (r_assign hE rfl) rfl fun a hE => ?_
 refine knil ?_
 refine kseq ?_
 refine kreg ?_
 refine sp hE (r_move hE rfl) rfl fun a hE => ?_
 refine sp hE (r_lenSl (k := kApi_Value) hE rfl rfl Try.underlying29 hv7) rfl fun a hE => ?_
 refine sp hE (r_conv hE rfl Try.underlying3 Try.underlying5 rfl) rfl fun a hE => ?_
 refine st hE (st_lit (k := (kInt .u8)) (xs := [IntKind.u8.wrap (r3.length : Int)]) (vs := [(.int .u8 (IntKind.u8.wrap (r3.length : Int)))]) hE hS rfl Try.underlying37 Try.sizeOf5 Try.zeroValue5 ⟨(RV_of_int (inR_wrap _ _)), trivial⟩ rfl (by decide)) rfl ?_
 rintro v16 a w ⟨m14, hm15, hS, hv13⟩ hE
 refine sp hE (r_assign hE rfl) rfl fun a hE => ?_
 refine knil ?_
 refine kseq ?_
 refine kseq ?_
 refine kreg ?_
 refine sp hE (r_assign hE rfl) rfl fun a hE => ?_
 refine knil ?_
 refine kcut (fun a w => ∃ x21 : (List Int), hayloftref06_dict_j1 p0 r3 x21 = some r ∧ ∃ m', M.le m14 m' ∧ ∃ (v22 : Value), RV (kSl (kInt .u8)) m' v22 x21 ∧ S W0 m' w (L) ((1, v22) :: TL) ∧ Env 63 a [(0, v0), (3, v8), (4, v22)]) ?_ ?_
 {
 refine kblock ?_
 refine kloop h (fun (s : ((List Int) × Int)) a w => ∃ m', M.le m14 m' ∧ ∃ (v175 : Value), RV (kSl (kInt .u8)) m' v175 s.1 ∧ inR .i64 s.2 ∧ S W0 m' w (L) ((1, v175) :: TL) ∧ Env 63 a [(0, v0), (3, v8), (4, v175), (5, (.int .i64 s.2))]) ?_ ?_
 {
 exact ⟨_, (M.le.refl _), v16, hv13, (show inR .i64 0 from inR_lit (by decide)), hS, hE.cut ⟨rfl, rfl, rfl, rfl, trivial⟩⟩
 }
 {
 rintro ⟨x174, x177⟩ a w ⟨m172, hm173, v175, hv176, hr178, hS, hE⟩ r179 h hb180
 have h : hayloftref06_dict_b3 p0 r3 x174 x177 = some r179 := h
 unfold hayloftref06_dict_b3 at h
 refine kseq ?_
 refine kseq ?_
 refine kreg ?_
 refine sp hE (r_move hE rfl) rfl fun a hE => ?_
 refine sp hE (r_move hE rfl) rfl fun a hE => ?_
 refine sp hE (r_lenSl (k := kApi_Value) hE rfl rfl Try.underlying29 (hv7.mono (M.le.trans hm15 hm173))) rfl fun a hE => ?_
 refine sp hE (r_bin hE rfl rfl b_lss) rfl fun a hE => ?_
 refine knil ?_
 refine kif hE rfl (fun hd185 => ?_) (fun hd185 => ?_)
 {
 have h := ite_T hd185 h
 refine kskip ?_
 refine kseq ?_
 refine kblock ?_
 refine kreg ?_
 refine sp hE (r_move hE rfl) rfl fun a hE => ?_
 refine sp hE (r_move hE rfl) rfl fun a hE => ?_
 refine sp hE (r_move hE rfl) rfl fun a hE => ?_
 obtain ⟨x189, hx190, h⟩ := ob h
 refine st hE (st_index (k := kApi_Value) hE rfl rfl Try.underlying29 Try.sizeOf53 (hv7.mono (M.le.trans hm15 hm173)) hx190) rfl ?_
 rintro v192 a _ ⟨rfl, hp191⟩ hE
 refine st hE (st_loadM hE hS ty53 rfl hp191) rfl ?_
 rintro v194 a _ ⟨rfl, hv193⟩ hE
 obtain ⟨r195, hr196, h⟩ := ob h
 refine st hE (st_call (vs := [v194]) hE rfl Try.call62 (c_hayloftref03_One (hS := hS) hv193 hr196)) rfl ?_
 rintro v200 a w ⟨m197, hm198, hS, hv199⟩ hE
 obtain ⟨z201, hz202, h⟩ := ob h
 refine st hE (st_app (k := (kInt .u8)) (N := 140737488355328) hE hS rfl rfl Try.underlying37 Try.underlying37 el5 (i := 1) rfl (hv176.mono hm198) hv199 hz202 rfl rfl) rfl ?_
 rintro v206 a w ⟨m204, hm205, hS, hv203⟩ hE
 refine sp hE (r_assign hE rfl) rfl fun a hE => ?_
 refine knil ?_
 refine kreg ?_
 refine sp hE (r_move hE rfl) rfl fun a hE => ?_
 refine sp hE (r_bin hE rfl rfl (b_add rfl)) rfl fun a hE => ?_
 refine sp hE (r_assign hE rfl) rfl fun a hE => ?_
 refine knil ?_
 exact ⟨(z201, IntKind.i64.wrap (x177 + 1)), (Option.some.inj h).symm, _, (M.le.trans hm173 (M.le.trans hm198 hm205)), v206, hv203, (inR_wrap _ _), (hS.pickT 2 [1] rfl rfl rfl), hE.cut ⟨rfl, rfl, rfl, rfl, trivial⟩⟩
 }
 {
 have h := ite_F hd185 h
 refine kexit rfl rfl ?_
 have h := unwrap h hb180
 exact ⟨x174, h, _, hm173, v175, hv176, hS, hE.cut ⟨rfl, rfl, rfl, trivial⟩⟩
 }
 }
 }
 {
 rintro a w ⟨x21, h, m19, hm20, v22, hv23, hS, hE⟩
 unfold hayloftref06_dict_j1 at h
 refine kseq ?_
 refine kreg ?_
 refine sp hE (r_assign hE rfl) rfl fun a hE => ?_
 refine knil ?_
 refine kseq ?_
 refine kseq ?_
 refine kreg ?_
 refine sp hE (r_assign hE rfl) rfl fun a hE => ?_
 refine knil ?_
 refine kcut (fun a w => ∃ x29 : (List Int), hayloftref06_dict_j2 r3 x21 x29 = some r ∧ ∃ m', M.le m19 m' ∧ ∃ (v30 : Value), RV (kSl (kInt .u64)) m' v30 x29 ∧ S W0 m' w (L) ((1, v30) :: (1, v22) :: TL) ∧ Env 63 a [(3, v8), (4, v22), (6, v30)]) ?_ ?_
 {
 refine kblock ?_
 refine kloop h (fun (s : ((List Int) × Int)) a w => ∃ m', M.le m19 m' ∧ ∃ (v62 : Value), RV (kSl (kInt .u64)) m' v62 s.1 ∧ inR .i64 s.2 ∧ S W0 m' w (L) ((1, v62) :: (1, v22) :: TL) ∧ Env 63 a [(0, v0), (3, v8), (4, v22), (6, v62), (7, (.int .i64 s.2))]) ?_ ?_
 {
 exact ⟨_, (M.le.refl _), (.slice none 0 0), RV_nil, (show inR .i64 0 from inR_lit (by decide)), (hS.tail0 1), hE.cut ⟨rfl, rfl, rfl, rfl, rfl, trivial⟩⟩
 }
 {
 rintro ⟨x61, x64⟩ a w ⟨m59, hm60, v62, hv63, hr65, hS, hE⟩ r66 h hb67
 have h : hayloftref06_dict_b1 p0 r3 x21 x61 x64 = some r66 := h
 unfold hayloftref06_dict_b1 at h
 refine kseq ?_
 refine kseq ?_
 refine kreg ?_
 refine sp hE (r_move hE rfl) rfl fun a hE => ?_
 refine sp hE (r_move hE rfl) rfl fun a hE => ?_
 refine sp hE (r_lenSl (k := kApi_Value) hE rfl rfl Try.underlying29 (ha0.mono (M.le.trans hm6 (M.le.trans hm15 (M.le.trans hm20 hm60))))) rfl fun a hE => ?_
 refine sp hE (r_bin hE rfl rfl b_lss) rfl fun a hE => ?_
 refine knil ?_
 refine kif hE rfl (fun hd72 => ?_) (fun hd72 => ?_)
 {
 have h := ite_T hd72 h
 refine kskip ?_
 refine kseq ?_
 refine kcut (fun a w => ∃ x75 : (List Int), hayloftref06_dict_j3 x64 x75 = some r66 ∧ ∃ m', M.le m59 m' ∧ ∃ (v76 : Value), RV (kSl (kInt .u64)) m' v76 x75 ∧ S W0 m' w (L) ((1, v76) :: (1, v22) :: TL) ∧ Env 63 a [(0, v0), (3, v8), (4, v22), (6, v76), (7, (.int .i64 x64))]) ?_ ?_
 {
 refine kblock ?_
 refine kseq ?_
 refine kreg ?_
 refine sp hE (r_assign hE rfl) rfl fun a hE => ?_
 refine knil ?_
 refine kblock ?_
 refine kloop h (fun (s : ((List Int) × Int)) a w => ∃ m', M.le m59 m' ∧ ∃ (v86 : Value), RV (kSl (kInt .u64)) m' v86 s.1 ∧ inR .i64 s.2 ∧ S W0 m' w (L) ((1, v86) :: (1, v22) :: TL) ∧ Env 63 a [(0, v0), (3, v8), (4, v22), (6, v86), (7, (.int .i64 x64)), (8, (.int .i64 s.2))]) ?_ ?_
 {
 exact ⟨_, (M.le.refl _), v62, hv63, (show inR .i64 0 from inR_lit (by decide)), hS, hE.cut ⟨rfl, rfl, rfl, rfl, rfl, rfl, trivial⟩⟩
 }
 {
 rintro ⟨x85, x88⟩ a w ⟨m83, hm84, v86, hv87, hr89, hS, hE⟩ r90 h hb91
 have h : hayloftref06_dict_b2 p0 r3 x64 x85 x88 = some r90 := h
 unfold hayloftref06_dict_b2 at h
 refine kseq ?_
 refine kseq ?_
 refine kreg ?_
 refine sp hE (r_move hE rfl) rfl fun a hE => ?_
 refine sp hE (r_move hE rfl) rfl fun a hE => ?_
 refine sp hE (r_lenSl (k := kApi_Value) hE rfl rfl Try.underlying29 (hv7.mono (M.le.trans hm15 (M.le.trans hm20 (M.le.trans hm60 hm84))))) rfl fun a hE => ?_
 refine sp hE (r_bin hE rfl rfl b_lss) rfl fun a hE => ?_
 refine knil ?_
 refine kif hE rfl (fun hd96 => ?_) (fun hd96 => ?_)
 {
 have h := ite_T hd96 h
 refine kskip ?_
 refine kseq ?_
 refine kblock ?_
 refine kseq ?_
 obtain ⟨x97, hx98, h⟩ := ob h
 obtain ⟨x101, hx102, h⟩ := ob h
 refine kchain (k := 8) (m := m83) (es := []) (Φ := (fun i m ws v => match i with | 0 => v = v8 | 1 => v = (.int .i64 x88) ∧ inR .i64 x88 | 2 => PR kApi_Value m v x97 | 3 => RV kApi_Value m v x97 | 4 => v = v0 | 5 => v = (.int .i64 x64) ∧ inR .i64 x64 | 6 => PR kApi_Value m v x101 | 7 => RV kApi_Value m v x101 | _ => True)) (Q := (fun c m ws L' TL' => match c with | 0 => L = L' ∧ (1, v86) :: (1, v22) :: TL = TL' | _ => False)) (cs := [⟨0, 0, false, [(3, v8)]⟩, ⟨0, 0, false, [(8, (.int .i64 x88))]⟩, ⟨0, 0, false, []⟩, ⟨0, 0, false, []⟩, ⟨0, 0, false, [(0, v0)]⟩, ⟨0, 0, false, [(7, (.int .i64 x64))]⟩, ⟨0, 0, false, []⟩, ⟨0, 0, false, []⟩]) mixed hE hS ⟨rfl, rfl⟩ rfl rfl ⟨⟨rfl, trivial⟩, ⟨rfl, trivial⟩, trivial, trivial, ⟨rfl, trivial⟩, ⟨rfl, trivial⟩, trivial, trivial, trivial⟩ (by kernel_rfl) ?_ ?_ ?_ ?_
 {
 intro i m_ m2_ ws v hm_ hp_
 match i, hp_ with
 | 0, hp_ => exact hp_
 | 1, hp_ => exact hp_
 | 2, hp_ => exact PR.mono hp_ hm_
 | 3, hp_ => exact RV.mono hp_ hm_
 | 4, hp_ => exact hp_
 | 5, hp_ => exact hp_
 | 6, hp_ => exact PR.mono hp_ hm_
 | 7, hp_ => exact RV.mono hp_ hm_
 | _ + 8, hp_ => exact trivial
 }
 {
 intro c m_ m2_ ws L_ T_ hm_ hq_
 match c, hq_ with
 | 0, ⟨e1_, e2_⟩ => exact ⟨e1_, e2_⟩
 | _ + 1, hq_ => exact hq_.elim
 }
 {
 refine ⟨?_, ?_, ?_, ?_, ?_, ?_, ?_, ?_, trivial⟩
 {
 refine cplain fun pre_ post_ L_ T_ m' a' w' hl' hp' hm' hq' hS' hE' hT' => ?_
 obtain rfl := len0 hl'
 refine Step.imp (Run1.pure (r_move hE' rfl)) ?_
 rintro _ _ ⟨rfl, rfl⟩
 exact ⟨_, M.le.refl _, hS', rfl⟩
 }
 {
 refine cplain fun pre_ post_ L_ T_ m' a' w' hl' hp' hm' hq' hS' hE' hT' => ?_
 obtain rfl := len0 hl'
 refine Step.imp (Run1.pure (r_move hE' rfl)) ?_
 rintro _ _ ⟨rfl, rfl⟩
 exact ⟨_, M.le.refl _, hS', ⟨rfl, hr89⟩⟩
 }
 {
 refine cplain fun pre_ post_ L_ T_ m' a' w' hl' hp' hm' hq' hS' hE' hT' => ?_
 obtain rfl := len0 hl'
 obtain ⟨v107, e108, q109⟩ : ∃ v, a'.tmps.getD 40 undef = v ∧ (v = v8) := ⟨_, rfl, hT' 0 (by decide) 40 rfl⟩
 have hE := hE'.add (e108.trans q109)
 obtain ⟨v110, e111, q112⟩ : ∃ v, a'.tmps.getD 41 undef = v ∧ (v = (.int .i64 x88) ∧ inR .i64 x88) := ⟨_, rfl, hT' 1 (by decide) 41 rfl⟩
 obtain ⟨q112, hr113⟩ := q112
 have hE := hE.add (e111.trans q112)
 refine Step.imp (st_index (k := kApi_Value) hE rfl rfl Try.underlying29 Try.sizeOf53 (hv7.mono (M.le.trans hm15 (M.le.trans hm20 (M.le.trans hm60 (M.le.trans hm84 hm'))))) hx98) ?_
 rintro v114 _ ⟨rfl, hp99⟩
 exact ⟨_, M.le.refl _, hS', hp99⟩
 }
 {
 refine cplain fun pre_ post_ L_ T_ m' a' w' hl' hp' hm' hq' hS' hE' hT' => ?_
 obtain rfl := len0 hl'
 obtain ⟨v115, e116, q117⟩ : ∃ v, a'.tmps.getD 42 undef = v ∧ (PR kApi_Value m' v x97) := ⟨_, rfl, hT' 2 (by decide) 42 rfl⟩
 have hE := hE'.add (e116)
 refine Step.imp (st_loadM hE hS' ty53 rfl q117) ?_
 rintro v118 _ ⟨rfl, hv100⟩
 exact ⟨_, M.le.refl _, hS', hv100⟩
 }
 {
 refine cplain fun pre_ post_ L_ T_ m' a' w' hl' hp' hm' hq' hS' hE' hT' => ?_
 obtain rfl := len0 hl'
 refine Step.imp (Run1.pure (r_move hE' rfl)) ?_
 rintro _ _ ⟨rfl, rfl⟩
 exact ⟨_, M.le.refl _, hS', rfl⟩
 }
 {
 refine cplain fun pre_ post_ L_ T_ m' a' w' hl' hp' hm' hq' hS' hE' hT' => ?_
 obtain rfl := len0 hl'
 refine Step.imp (Run1.pure (r_move hE' rfl)) ?_
 rintro _ _ ⟨rfl, rfl⟩
 exact ⟨_, M.le.refl _, hS', ⟨rfl, hr65⟩⟩
 }
 {
 refine cplain fun pre_ post_ L_ T_ m' a' w' hl' hp' hm' hq' hS' hE' hT' => ?_
 obtain rfl := len0 hl'
 obtain ⟨v121, e122, q123⟩ : ∃ v, a'.tmps.getD 44 undef = v ∧ (v = v0) := ⟨_, rfl, hT' 4 (by decide) 44 rfl⟩
 have hE := hE'.add (e122.trans q123)
 obtain ⟨v124, e125, q126⟩ : ∃ v, a'.tmps.getD 45 undef = v ∧ (v = (.int .i64 x64) ∧ inR .i64 x64) := ⟨_, rfl, hT' 5 (by decide) 45 rfl⟩
 obtain ⟨q126, hr127⟩ := q126
 have hE := hE.add (e125.trans q126)
 refine Step.imp (st_index (k := kApi_Value) hE rfl rfl Try.underlying29 Try.sizeOf53 (ha0.mono (M.le.trans hm6 (M.le.trans hm15 (M.le.trans hm20 (M.le.trans hm60 (M.le.trans hm84 hm')))))) hx102) ?_
 rintro v128 _ ⟨rfl, hp103⟩
 exact ⟨_, M.le.refl _, hS', hp103⟩
 }
 {
 refine cplain fun pre_ post_ L_ T_ m' a' w' hl' hp' hm' hq' hS' hE' hT' => ?_
 obtain rfl := len0 hl'
 obtain ⟨v129, e130, q131⟩ : ∃ v, a'.tmps.getD 46 undef = v ∧ (PR kApi_Value m' v x101) := ⟨_, rfl, hT' 6 (by decide) 46 rfl⟩
 have hE := hE'.add (e130)
 refine Step.imp (st_loadM hE hS' ty53 rfl q131) ?_
 rintro v132 _ ⟨rfl, hv104⟩
 exact ⟨_, M.le.refl _, hS', hv104⟩
 }
 }
 {
 intro ws_ L_ T_ m133 a w hl134 hm135 hq136 hS hd137 hn138 ho139 hT140
 obtain rfl := len0 hl134
 obtain ⟨rfl, rfl⟩ := hq136
 have hE := Env.of (k := 8) (l' := [(0, v0), (3, v8), (4, v22), (6, v86), (7, (.int .i64 x64)), (8, (.int .i64 x88)), (34, (.int .i64 x88)), (35, v8), (36, (.int .i64 (r3.length : Int))), (37, (.bool (decide (x88 < (r3.length : Int)))))]) hd137 hn138 ho139 ⟨rfl, rfl, rfl, rfl, rfl, rfl, rfl, rfl, rfl, rfl, trivial⟩ rfl
 obtain ⟨v141, e142, q143⟩ : ∃ v, a.tmps.getD 43 undef = v ∧ (RV kApi_Value m133 v x97) := ⟨_, rfl, hT140 3 (by decide) 43 rfl⟩
 have hE := hE.add (e142)
 obtain ⟨v144, e145, q146⟩ : ∃ v, a.tmps.getD 47 undef = v ∧ (RV kApi_Value m133 v x101) := ⟨_, rfl, hT140 7 (by decide) 47 rfl⟩
 have hE := hE.add (e145)
 refine sp hE (r_eqlK hE eq53 rfl rfl q143 q146 rfl) rfl fun a hE => ?_
 refine knil ?_
 refine kcut (fun a w => ∃ x150 : (List Int), hayloftref06_dict_j4 x88 x150 = some r90 ∧ ∃ m', M.le m133 m' ∧ ∃ (v151 : Value), RV (kSl (kInt .u64)) m' v151 x150 ∧ S W0 m' w (L) ((1, v151) :: (1, v22) :: TL) ∧ Env 63 a [(0, v0), (3, v8), (4, v22), (6, v151), (7, (.int .i64 x64)), (8, (.int .i64 x88))]) ?_ ?_
 {
 refine kif hE rfl (fun hd157 => ?_) (fun hd157 => ?_)
 {
 have h := ite_T hd157 h
 refine kreg ?_
 refine sp hE (r_move hE rfl) rfl fun a hE => ?_
 refine sp hE (r_move hE rfl) rfl fun a hE => ?_
 refine sp hE (r_conv hE rfl Try.underlying3 Try.underlying24 rfl) rfl fun a hE => ?_
 refine st hE (st_lit (k := (kInt .u64)) (xs := [IntKind.u64.wrap x88]) (vs := [(.int .u64 (IntKind.u64.wrap x88))]) hE hS rfl Try.underlying125 Try.sizeOf24 Try.zeroValue24 ⟨(RV_of_int (inR_wrap _ _)), trivial⟩ rfl (by decide)) rfl ?_
 rintro v164 a w ⟨m162, hm163, hS, hv161⟩ hE
 obtain ⟨z165, hz166, h⟩ := ob h
 refine st hE (st_app (k := (kInt .u64)) (N := 17592186044416) hE hS rfl rfl Try.underlying125 Try.underlying125 el24 (i := 1) rfl (hv87.mono (M.le.trans hm135 hm163)) hv161 hz166 rfl rfl) rfl ?_
 rintro v170 a w ⟨m168, hm169, hS, hv167⟩ hE
 refine sp hE (r_assign hE rfl) rfl fun a hE => ?_
 refine knil ?_
 exact ⟨z165, h, _, (M.le.trans hm163 hm169), v170, hv167, (hS.pickT 3 [1, 2] rfl rfl rfl), hE.cut ⟨rfl, rfl, rfl, rfl, rfl, rfl, trivial⟩⟩
 }
 {
 have h := ite_F hd157 h
 refine kskip ?_
 exact ⟨x85, h, _, (M.le.refl _), v86, (hv87.mono hm135), hS, hE.cut ⟨rfl, rfl, rfl, rfl, rfl, rfl, trivial⟩⟩
 }
 }
 {
 rintro a w ⟨x150, h, m148, hm149, v151, hv152, hS, hE⟩
 unfold hayloftref06_dict_j4 at h
 refine kreg ?_
 refine sp hE (r_move hE rfl) rfl fun a hE => ?_
 refine sp hE (r_bin hE rfl rfl (b_add rfl)) rfl fun a hE => ?_
 refine sp hE (r_assign hE rfl) rfl fun a hE => ?_
 refine knil ?_
 exact ⟨(x150, IntKind.i64.wrap (x88 + 1)), (Option.some.inj h).symm, _, (M.le.trans hm84 (M.le.trans hm135 hm149)), v151, hv152, (inR_wrap _ _), hS, hE.cut ⟨rfl, rfl, rfl, rfl, rfl, rfl, trivial⟩⟩
 }
 }
 }
 {
 have h := ite_F hd96 h
 refine kexit rfl rfl ?_
 have h := unwrap h hb91
 exact ⟨x85, h, _, hm84, v86, hv87, hS, hE.cut ⟨rfl, rfl, rfl, rfl, rfl, trivial⟩⟩
 }
 }
 }
 {
 rintro a w ⟨x75, h, m73, hm74, v76, hv77, hS, hE⟩
 unfold hayloftref06_dict_j3 at h
 refine kreg ?_
 refine sp hE (r_move hE rfl) rfl fun a hE => ?_
 refine sp hE (r_bin hE rfl rfl (b_add rfl)) rfl fun a hE => ?_
 refine sp hE (r_assign hE rfl) rfl fun a hE => ?_
 refine knil ?_
 exact ⟨(x75, IntKind.i64.wrap (x64 + 1)), (Option.some.inj h).symm, _, (M.le.trans hm60 hm74), v76, hv77, (inR_wrap _ _), hS, hE.cut ⟨rfl, rfl, rfl, rfl, rfl, trivial⟩⟩
 }
 }
 {
 have h := ite_F hd72 h
 refine kexit rfl rfl ?_
 have h := unwrap h hb67
 exact ⟨x61, h, _, hm60, v62, hv63, hS, hE.cut ⟨rfl, rfl, rfl, trivial⟩⟩
 }
 }
 }
 {
 rintro a w ⟨x29, h, m27, hm28, v30, hv31, hS, hE⟩
 unfold hayloftref06_dict_j2 at h
 refine kseq ?_
 refine kreg ?_
 refine sp hE (r_move hE rfl) rfl fun a hE => ?_
 refine sp hE (r_move hE rfl) rfl fun a hE => ?_
 refine sp hE (r_move hE rfl) rfl fun a hE => ?_
 refine sp hE (r_lenSl (k := kApi_Value) hE rfl rfl Try.underlying29 (hv7.mono (M.le.trans hm15 (M.le.trans hm20 hm28)))) rfl fun a hE => ?_
 refine sp hE (r_bin hE rfl rfl (b_sub rfl)) rfl fun a hE => ?_
 refine sp hE (r_conv hE rfl Try.underlying3 Try.underlying24 rfl) rfl fun a hE => ?_
 obtain ⟨r39, hr40, h⟩ := ob h
 refine st hE (st_call (vs := [(.int .u64 (IntKind.u64.wrap (IntKind.i64.wrap ((r3.length : Int) - 1))))]) hE rfl Try.call94 (c_hayloftref06_width (hS := hS) (inR_wrap _ _) hr40)) rfl ?_
 rintro v44 a w ⟨m41, hm42, hS, hv43⟩ hE
 obtain ⟨rfl, hr45⟩ := RV_int hv43
 obtain ⟨r46, hr47, h⟩ := ob h
 refine st hE (st_call (vs := [v30, (.int .i64 r39)]) hE rfl Try.call112 (c_hayloftref06_Packed (hS := hS) (hv31.mono hm42) hr45 hr47)) rfl ?_
 rintro v51 a w ⟨m48, hm49, hS, hv50⟩ hE
 obtain ⟨z52, hz53, h⟩ := ob h
 refine st hE (st_app (k := (kInt .u8)) (N := 140737488355328) hE hS rfl rfl Try.underlying37 Try.underlying37 el5 (i := 2) rfl (hv23.mono (M.le.trans hm28 (M.le.trans hm42 hm49))) hv50 hz53 rfl rfl) rfl ?_
 rintro v57 a w ⟨m55, hm56, hS, hv54⟩ hE
 refine sp hE (r_assign hE rfl) rfl fun a hE => ?_
 refine knil ?_
 refine kret ?_
 obtain rfl := Option.some.inj h
 try dsimp only
 refine Fin.mk (fn := Try.f64) hE (rs := [.tmp 2]) rfl (ResL.tmp hE rfl ResL.nil) ?_
 exact ⟨_, (M.le.trans hm6 (M.le.trans hm15 (M.le.trans hm20 (M.le.trans hm28 (M.le.trans hm42 (M.le.trans hm49 hm56)))))), (hS.pickT 3 [2] rfl rfl rfl), hv54⟩
 }
 }
/- 65 -/
theorem c_hayloftref06_small {W0 : World} {m : M} {w : World} {L : List (Nat × List Value)} {TL : List (Nat × Value)} (hS : S W0 m w (L) (TL)) {v0 : Value} {p0 : (List Api_Value)} (ha0 : RV (kSl kApi_Value) m v0 p0) {r : (List Int)} (h : hayloftref06_small p0 = some r) :
    Calls Try.prog 65 [v0].toArray w (Ret fun v w' => ∃ m', M.le m m' ∧ S W0 m' w' (L) ((1, v) :: TL) ∧ RV (kSl (kInt .u8)) m' v r) := by
 refine kcall Try.func65 rfl Try.ntmps65 (Nat.le_of_ble_eq_true rfl) fun a hE => ?_
 have hE : Env 62 a [(0, v0)] := hE
 unfold hayloftref06_small at h
 refine kseq ?_
 refine kreg ?_
 refine sp hE (r_assign hE rfl) rfl fun a hE => ?_
 refine knil ?_
 refine kseq ?_
 refine kreg ?_
 refine sp hE (r_move hE rfl) rfl fun a hE => ?_
 obtain ⟨x3, hx4, h⟩ := ob h
 refine st hE (st_index (k := kApi_Value) hE rfl rfl Try.underlying29 Try.sizeOf53 ha0 hx4) rfl ?_
 rintro v6 a _ ⟨rfl, hp5⟩ hE
 refine st hE (st_fieldM hE fo53_2 fl53_2 rfl hp5) rfl ?_
 rintro v9 a _ ⟨rfl, hp8⟩ hE
 refine st hE (st_loadM hE hS ty2 rfl hp8) rfl ?_
 rintro v11 a _ ⟨rfl, hv10⟩ hE
 obtain ⟨rfl, hr12⟩ := RV_int hv10
 refine sp hE (r_assign hE rfl) rfl fun a hE => ?_
 refine knil ?_
 refine kseq ?_
 refine kseq ?_
 refine kreg ?_
 refine sp hE (r_assign hE rfl) rfl fun a hE => ?_
 refine knil ?_
 refine kcut (fun a w => ∃ x17 : Int, hayloftref06_small_j1 p0 x17 = some r ∧ ∃ m', M.le m m' ∧ inR .i64 x17 ∧ S W0 m' w (L) (TL) ∧ Env 62 a [(0, v0), (3, (.int .i64 x17))]) ?_ ?_
 {
 refine kblock ?_
 refine kloop h (fun (s : (Int × Int)) a w => ∃ m', M.le m m' ∧ inR .i64 s.1 ∧ inR .i64 s.2 ∧ S W0 m' w (L) (TL) ∧ Env 62 a [(0, v0), (3, (.int .i64 s.1)), (4, (.int .i64 s.2))]) ?_ ?_
 {
 exact ⟨_, (M.le.refl _), hr12, (show inR .i64 0 from inR_lit (by decide)), hS, hE.cut ⟨rfl, rfl, rfl, trivial⟩⟩
 }
 {
 rintro ⟨x130, x132⟩ a w ⟨m128, hm129, hr131, hr133, hS, hE⟩ r134 h hb135
 have h : hayloftref06_small_b2 p0 x130 x132 = some r134 := h
 unfold hayloftref06_small_b2 at h
 refine kseq ?_
 refine kseq ?_
 refine kreg ?_
 refine sp hE (r_move hE rfl) rfl fun a hE => ?_
 refine sp hE (r_move hE rfl) rfl fun a hE => ?_
 refine sp hE (r_lenSl (k := kApi_Value) hE rfl rfl Try.underlying29 (ha0.mono hm129)) rfl fun a hE => ?_
 refine sp hE (r_bin hE rfl rfl b_lss) rfl fun a hE => ?_
 refine knil ?_
 refine kif hE rfl (fun hd140 => ?_) (fun hd140 => ?_)
 {
 have h := ite_T hd140 h
 refine kskip ?_
 refine kseq ?_
 refine kblock ?_
 refine kreg ?_
 refine sp hE (r_move hE rfl) rfl fun a hE => ?_
 refine sp hE (r_move hE rfl) rfl fun a hE => ?_
 refine sp hE (r_move hE rfl) rfl fun a hE => ?_
 obtain ⟨x144, hx145, h⟩ := ob h
 refine st hE (st_index (k := kApi_Value) hE rfl rfl Try.underlying29 Try.sizeOf53 (ha0.mono hm129) hx145) rfl ?_
 rintro v147 a _ ⟨rfl, hp146⟩ hE
 refine st hE (st_fieldM hE fo53_2 fl53_2 rfl hp146) rfl ?_
 rintro v150 a _ ⟨rfl, hp149⟩ hE
 refine st hE (st_loadM hE hS ty2 rfl hp149) rfl ?_
 rintro v152 a _ ⟨rfl, hv151⟩ hE
 obtain ⟨rfl, hr153⟩ := RV_int hv151
 refine sp hE (r_min2 hE rfl rfl) rfl fun a hE => ?_
 refine sp hE (r_assign hE rfl) rfl fun a hE => ?_
 refine knil ?_
 refine kreg ?_
 refine sp hE (r_move hE rfl) rfl fun a hE => ?_
 refine sp hE (r_bin hE rfl rfl (b_add rfl)) rfl fun a hE => ?_
 refine sp hE (r_assign hE rfl) rfl fun a hE => ?_
 refine knil ?_
 exact ⟨((if x144.fInt < x130 then x144.fInt else x130), IntKind.i64.wrap (x132 + 1)), (Option.some.inj h).symm, _, hm129, (inR_min hr131 hr153), (inR_wrap _ _), hS, hE.cut ⟨rfl, rfl, rfl, trivial⟩⟩
 }
 {
 have h := ite_F hd140 h
 refine kexit rfl rfl ?_
 have h := unwrap h hb135
 exact ⟨x130, h, _, hm129, hr131, hS, hE.cut ⟨rfl, rfl, trivial⟩⟩
 }
 }
 }
 {
 rintro a w ⟨x17, h, m15, hm16, hr18, hS, hE⟩
 unfold hayloftref06_small_j1 at h
 refine kseq ?_
 refine kreg ?_
 refine sp hE (r_assign hE rfl) rfl fun a hE => ?_
 refine knil ?_
 refine kseq ?_
 refine kreg ?_
 refine sp hE (r_assign hE rfl) rfl fun a hE => ?_
 refine knil ?_
 refine kseq ?_
 refine kseq ?_
 refine kreg ?_
 refine sp hE (r_assign hE rfl) rfl fun a hE => ?_
 refine knil ?_
 refine kcut (fun a w => ∃ x25 : (List Int), ∃ x28 : Int, hayloftref06_small_j2 x17 x25 x28 = some r ∧ ∃ m', M.le m15 m' ∧ ∃ (v26 : Value), RV (kSl (kInt .u64)) m' v26 x25 ∧ inR .i64 x28 ∧ S W0 m' w (L) ((1, v26) :: TL) ∧ Env 62 a [(3, (.int .i64 x17)), (5, v26), (6, (.int .i64 x28))]) ?_ ?_
 {
 refine kblock ?_
 refine kloop h (fun (s : ((List Int) × Int × Int)) a w => ∃ m', M.le m15 m' ∧ ∃ (v71 : Value), RV (kSl (kInt .u64)) m' v71 s.1 ∧ inR .i64 s.2.1 ∧ inR .i64 s.2.2 ∧ S W0 m' w (L) ((1, v71) :: TL) ∧ Env 62 a [(0, v0), (3, (.int .i64 x17)), (5, v71), (6, (.int .i64 s.2.1)), (7, (.int .i64 s.2.2))]) ?_ ?_
 {
 exact ⟨_, (M.le.refl _), (.slice none 0 0), RV_nil, (show inR .i64 0 from inR_lit (by decide)), (show inR .i64 0 from inR_lit (by decide)), (hS.tail0 1), hE.cut ⟨rfl, rfl, rfl, rfl, rfl, trivial⟩⟩
 }
 {
 rintro ⟨x70, x73, x75⟩ a w ⟨m68, hm69, v71, hv72, hr74, hr76, hS, hE⟩ r77 h hb78
 have h : hayloftref06_small_b1 p0 x17 x70 x73 x75 = some r77 := h
 unfold hayloftref06_small_b1 at h
 refine kseq ?_
 refine kseq ?_
 refine kreg ?_
 refine sp hE (r_move hE rfl) rfl fun a hE => ?_
 refine sp hE (r_move hE rfl) rfl fun a hE => ?_
 refine sp hE (r_lenSl (k := kApi_Value) hE rfl rfl Try.underlying29 (ha0.mono (M.le.trans hm16 hm69))) rfl fun a hE => ?_
 refine sp hE (r_bin hE rfl rfl b_lss) rfl fun a hE => ?_
 refine knil ?_
 refine kif hE rfl (fun hd83 => ?_) (fun hd83 => ?_)
 {
 have h := ite_T hd83 h
 refine kskip ?_
 refine kseq ?_
 refine kblock ?_
 refine kseq ?_
 refine kreg ?_
 refine sp hE (r_move hE rfl) rfl fun a hE => ?_
 refine sp hE (r_move hE rfl) rfl fun a hE => ?_
 obtain ⟨x86, hx87, h⟩ := ob h
 refine st hE (st_index (k := kApi_Value) hE rfl rfl Try.underlying29 Try.sizeOf53 (ha0.mono (M.le.trans hm16 hm69)) hx87) rfl ?_
 rintro v89 a _ ⟨rfl, hp88⟩ hE
 refine st hE (st_fieldM hE fo53_2 fl53_2 rfl hp88) rfl ?_
 rintro v92 a _ ⟨rfl, hp91⟩ hE
 refine st hE (st_loadM hE hS ty2 rfl hp91) rfl ?_
 rintro v94 a _ ⟨rfl, hv93⟩ hE
 obtain ⟨rfl, hr95⟩ := RV_int hv93
 refine sp hE (r_conv hE rfl Try.underlying2 Try.underlying24 rfl) rfl fun a hE => ?_
 refine sp hE (r_move hE rfl) rfl fun a hE => ?_
 refine sp hE (r_conv hE rfl Try.underlying2 Try.underlying24 rfl) rfl fun a hE => ?_
 refine sp hE (r_bin hE rfl rfl (b_sub rfl)) rfl fun a hE => ?_
 refine sp hE (r_assign hE rfl) rfl fun a hE => ?_
 refine knil ?_
 refine kseq ?_
 refine kreg ?_
 refine sp hE (r_move hE rfl) rfl fun a hE => ?_
 refine sp hE (r_move hE rfl) rfl fun a hE => ?_
 refine st hE (st_lit (k := (kInt .u64)) (xs := [IntKind.u64.wrap ((IntKind.u64.wrap x86.fInt) - (IntKind.u64.wrap x17))]) (vs := [(.int .u64 (IntKind.u64.wrap ((IntKind.u64.wrap x86.fInt) - (IntKind.u64.wrap x17))))]) hE hS rfl Try.underlying125 Try.sizeOf24 Try.zeroValue24 ⟨(RV_of_int (inR_wrap _ _)), trivial⟩ rfl (by decide)) rfl ?_
 rintro v106 a w ⟨m104, hm105, hS, hv103⟩ hE
 obtain ⟨z107, hz108, h⟩ := ob h
 refine st hE (st_app (k := (kInt .u64)) (N := 17592186044416) hE hS rfl rfl Try.underlying125 Try.underlying125 el24 (i := 1) rfl (hv72.mono hm105) hv103 hz108 rfl rfl) rfl ?_
 rintro v112 a w ⟨m110, hm111, hS, hv109⟩ hE
 refine sp hE (r_assign hE rfl) rfl fun a hE => ?_
 refine knil ?_
 refine kreg ?_
 refine sp hE (r_move hE rfl) rfl fun a hE => ?_
 refine sp hE (r_move hE rfl) rfl fun a hE => ?_
 obtain ⟨r116, hr117, h⟩ := ob h
 refine st hE (st_call (vs := [(.int .u64 (IntKind.u64.wrap ((IntKind.u64.wrap x86.fInt) - (IntKind.u64.wrap x17))))]) hE rfl Try.call94 (c_hayloftref06_width (hS := hS) (inR_wrap _ _) hr117)) rfl ?_
 rintro v121 a w ⟨m118, hm119, hS, hv120⟩ hE
 obtain ⟨rfl, hr122⟩ := RV_int hv120
 refine sp hE (r_max2 hE rfl rfl) rfl fun a hE => ?_
 refine sp hE (r_assign hE rfl) rfl fun a hE => ?_
 refine knil ?_
 refine kreg ?_
 refine sp hE (r_move hE rfl) rfl fun a hE => ?_
 refine sp hE (r_bin hE rfl rfl (b_add rfl)) rfl fun a hE => ?_
 refine sp hE (r_assign hE rfl) rfl fun a hE => ?_
 refine knil ?_
 exact ⟨(z107, (if x73 < r116 then r116 else x73), IntKind.i64.wrap (x75 + 1)), (Option.some.inj h).symm, _, (M.le.trans hm69 (M.le.trans hm105 (M.le.trans hm111 hm119))), v112, (hv109.mono hm119), (inR_max hr74 hr122), (inR_wrap _ _), (hS.pickT 2 [1] rfl rfl rfl), hE.cut ⟨rfl, rfl, rfl, rfl, rfl, trivial⟩⟩
 }
 {
 have h := ite_F hd83 h
 refine kexit rfl rfl ?_
 have h := unwrap h hb78
 exact ⟨x70, x73, h, _, hm69, v71, hv72, hr74, hS, hE.cut ⟨rfl, rfl, rfl, trivial⟩⟩
 }
 }
 }
 {
 rintro a w ⟨x25, x28, h, m23, hm24, v26, hv27, hr29, hS, hE⟩
 unfold hayloftref06_small_j2 at h
 refine kseq ?_
 refine kreg ?_
 refine sp hE (r_move hE rfl) rfl fun a hE => ?_
 refine sp hE (r_conv hE rfl Try.underlying2 Try.underlying24 rfl) rfl fun a hE => ?_
 obtain ⟨r33, hr34, h⟩ := ob h
 refine st hE (st_call (vs := [(.int .u64 (IntKind.u64.wrap x17))]) hE rfl Try.call110 (c_hayloftref03_Number (hS := hS) (inR_wrap _ _) hr34)) rfl ?_
 rintro v38 a w ⟨m35, hm36, hS, hv37⟩ hE
 refine sp hE (r_move hE rfl) rfl fun a hE => ?_
 refine sp hE (r_conv hE rfl Try.underlying3 Try.underlying5 rfl) rfl fun a hE => ?_
 refine st hE (st_lit (k := (kInt .u8)) (xs := [IntKind.u8.wrap x28]) (vs := [(.int .u8 (IntKind.u8.wrap x28))]) hE hS rfl Try.underlying37 Try.sizeOf5 Try.zeroValue5 ⟨(RV_of_int (inR_wrap _ _)), trivial⟩ rfl (by decide)) rfl ?_
 rintro v44 a w ⟨m42, hm43, hS, hv41⟩ hE
 obtain ⟨z45, hz46, h⟩ := ob h
 refine st hE (st_app (k := (kInt .u8)) (N := 140737488355328) hE hS rfl rfl Try.underlying37 Try.underlying37 el5 (i := 1) rfl (hv37.mono hm43) hv41 hz46 rfl rfl) rfl ?_
 rintro v50 a w ⟨m48, hm49, hS, hv47⟩ hE
 refine sp hE (r_assign hE rfl) rfl fun a hE => ?_
 refine knil ?_
 refine kseq ?_
 refine kreg ?_
 refine sp hE (r_move hE rfl) rfl fun a hE => ?_
 refine sp hE (r_move hE rfl) rfl fun a hE => ?_
 refine sp hE (r_move hE rfl) rfl fun a hE => ?_
 obtain ⟨r55, hr56, h⟩ := ob h
 refine st hE (st_call (vs := [v26, (.int .i64 x28)]) hE rfl Try.call112 (c_hayloftref06_Packed (hS := hS) (hv27.mono (M.le.trans hm36 (M.le.trans hm43 hm49))) hr29 hr56)) rfl ?_
 rintro v60 a w ⟨m57, hm58, hS, hv59⟩ hE
 obtain ⟨z61, hz62, h⟩ := ob h
 refine st hE (st_app (k := (kInt .u8)) (N := 140737488355328) hE hS rfl rfl Try.underlying37 Try.underlying37 el5 (i := 2) rfl (hv47.mono hm58) hv59 hz62 rfl rfl) rfl ?_
 rintro v66 a w ⟨m64, hm65, hS, hv63⟩ hE
 refine sp hE (r_assign hE rfl) rfl fun a hE => ?_
 refine knil ?_
 refine kret ?_
 obtain rfl := Option.some.inj h
 try dsimp only
 refine Fin.mk (fn := Try.f65) hE (rs := [.tmp 2]) rfl (ResL.tmp hE rfl ResL.nil) ?_
 exact ⟨_, (M.le.trans hm16 (M.le.trans hm24 (M.le.trans hm36 (M.le.trans hm43 (M.le.trans hm49 (M.le.trans hm58 hm65)))))), (hS.pickT 4 [2] rfl rfl rfl), hv63⟩
 }
 }
/- 29 -/
theorem c_hayloftref06_Encode {W0 : World} {m : M} {w : World} {L : List (Nat × List Value)} {TL : List (Nat × Value)} (hS : S W0 m w (L) (TL)) {p0 : Int} (ha0 : inR .i64 p0) {v1 : Value} {p1 : (List Api_Value)} (ha1 : RV (kSl kApi_Value) m v1 p1) {r : ((List Int) × Int)} (h : hayloftref06_Encode p0 p1 = some r) :
    Calls Try.prog 29 [(.int .i64 p0), v1].toArray w (Ret fun v w' => ∃ m', M.le m m' ∧ S W0 m' w' (L) (TL) ∧ ∃ v0_ v1_ : Value, v = .tuple #[v0_, v1_] ∧ RV (kSl (kInt .u8)) m' v0_ r.1 ∧ RV (kInt .i64) m' v1_ r.2) := by
 refine kcall Try.func29 rfl Try.ntmps29 (Nat.le_of_ble_eq_true rfl) fun a hE => ?_
 have hE : Env 76 a [(0, (.int .i64 p0)), (1, v1)] := hE
 unfold hayloftref06_Encode at h
 refine kseq ?_
 refine kreg ?_
 refine sp hE (r_assign hE rfl) rfl fun a hE => ?_
 refine sp hE (r_assign hE rfl) rfl fun a hE => ?_
 refine knil ?_
 refine kseq ?_
 refine kreg ?_
 refine sp hE (r_move hE rfl) rfl fun a hE => ?_
 refine sp hE (r_move hE rfl) rfl fun a hE => ?_
 obtain ⟨r5, hr6, h⟩ := ob h
 refine st hE (st_call (vs := [(.int .i64 p0), v1]) hE rfl Try.call61 (c_hayloftref06_refused (hS := hS) ha0 ha1 hr6)) rfl ?_
 rintro v10 a w ⟨m7, hm8, hS, hv9⟩ hE
 obtain ⟨rfl, hr11⟩ := RV_int hv9
 refine sp hE (r_assign hE rfl) rfl fun a hE => ?_
 refine knil ?_
 refine kseq ?_
 refine kseq ?_
 refine kcut (fun a w => ∃ x15 : Bool, hayloftref06_Encode_j1 p0 p1 r5 x15 = some r ∧ ∃ m', M.le m7 m' ∧ S W0 m' w (L) (TL) ∧ Env 76 a [(0, (.int .i64 p0)), (1, v1), (6, (.int .i64 r5)), (20, (.bool x15))]) ?_ ?_
 {
 refine kreg ?_
 refine sp hE (r_move hE rfl) rfl fun a hE => ?_
 refine sp hE (r_bin hE rfl rfl b_neq) rfl fun a hE => ?_
 refine sp hE (r_move hE rfl) rfl fun a hE => ?_
 rcases Bool.eq_false_or_eq_true (r5 != 0) with hd187 | hd187
 {
 have h := ite_T hd187 h
 refine sx hE rfl rfl rfl rfl hd187 rfl fun a hE => ?_
 refine sx hE rfl rfl rfl rfl hd187 rfl fun a hE => ?_
 refine sx hE rfl rfl rfl rfl hd187 rfl fun a hE => ?_
 refine sp hE (r_pickT hE rfl hd187 rfl) rfl fun a hE => ?_
 refine knil ?_
 exact ⟨true, h, _, (M.le.refl _), hS, hE.cut ⟨rfl, rfl, rfl, rfl, trivial⟩⟩
 }
 {
 have h := ite_F hd187 h
 refine spg hE rfl rfl rfl rfl hd187 (r_move hE rfl) rfl fun a hE => ?_
 refine spg hE rfl rfl rfl rfl hd187 (r_lenSl (k := kApi_Value) hE rfl rfl Try.underlying29 (ha1.mono hm8)) rfl fun a hE => ?_
 refine spg hE rfl rfl rfl rfl hd187 (r_bin hE rfl rfl b_eql) rfl fun a hE => ?_
 refine sp hE (r_pickF hE rfl hd187 rfl) rfl fun a hE => ?_
 refine knil ?_
 exact ⟨((p1.length : Int) == 0), h, _, (M.le.refl _), hS, hE.cut ⟨rfl, rfl, rfl, rfl, trivial⟩⟩
 }
 }
 {
 rintro a w ⟨x15, h, m13, hm14, hS, hE⟩
 unfold hayloftref06_Encode_j1 at h
 refine kif hE rfl (fun hd17 => ?_) (fun hd17 => ?_)
 {
 have h := ite_T hd17 h
 refine kseq ?_
 refine kreg ?_
 refine sp hE (r_move hE rfl) rfl fun a hE => ?_
 refine sp hE (r_assign hE rfl) rfl fun a hE => ?_
 refine sp hE (r_assign hE rfl) rfl fun a hE => ?_
 refine knil ?_
 refine kret ?_
 obtain rfl := Option.some.inj h
 try dsimp only
 refine Fin.mk (fn := Try.f29) hE (rs := [.tmp 4, .tmp 5]) rfl (ResL.tmp hE rfl (ResL.tmp hE rfl ResL.nil)) ?_
 exact ⟨_, (M.le.trans hm8 hm14), hS, _, _, rfl, RV_nil, (RV_of_int hr11)⟩
 }
 {
 have h := ite_F hd17 h
 refine kskip ?_
 refine kseq ?_
 refine kreg ?_
 refine sp hE (r_assign hE rfl) rfl fun a hE => ?_
 refine knil ?_
 refine kseq ?_
 refine kseq ?_
 refine kreg ?_
 refine sp hE (r_move hE rfl) rfl fun a hE => ?_
 refine knil ?_
 refine kcut (fun a w => ∃ x25 : (List Int), hayloftref06_Encode_j2 x25 = some r ∧ ∃ m', M.le m13 m' ∧ ∃ (v26 : Value), RV (kSl (kInt .u8)) m' v26 x25 ∧ S W0 m' w (L) ((1, v26) :: TL) ∧ Env 76 a [(7, v26)]) ?_ ?_
 {
 refine kblock ?_
 refine kseq ?_
 refine kreg ?_
 refine sp hE (r_bin hE rfl rfl b_eql) rfl fun a hE => ?_
 refine sp hE (r_assign hE rfl) rfl fun a hE => ?_
 refine knil ?_
 refine kif hE rfl (fun hd34 => ?_) (fun hd34 => ?_)
 {
 have h := ite_T hd34 h
 refine kseq ?_
 refine kreg ?_
 refine sp hE (r_move hE rfl) rfl fun a hE => ?_
 obtain ⟨r36, hr37, h⟩ := ob h
 refine st hE (st_call (vs := [v1]) hE rfl Try.call28 (c_hayloftref06_Runs (hS := hS) (ha1.mono (M.le.trans hm8 hm14)) hr37)) rfl ?_
 rintro v41 a w ⟨m38, hm39, hS, hv40⟩ hE
 refine sp hE (r_assign hE rfl) rfl fun a hE => ?_
 refine knil ?_
 refine kseq ?_
 refine kreg ?_
 refine sp hE (r_assign hE rfl) rfl fun a hE => ?_
 refine knil ?_
 refine kblock ?_
 refine kloop h (fun (s : ((List Int) × Int)) a w => ∃ m', M.le m38 m' ∧ ∃ (v47 : Value), RV (kSl (kInt .u8)) m' v47 s.1 ∧ inR .i64 s.2 ∧ S W0 m' w (L) ((1, v47) :: (5, v41) :: TL) ∧ Env 76 a [(7, v47), (8, v41), (9, (.int .i64 s.2))]) ?_ ?_
 {
 exact ⟨_, (M.le.refl _), (.slice none 0 0), RV_nil, (show inR .i64 0 from inR_lit (by decide)), (hS.tail0 1), hE.cut ⟨rfl, rfl, rfl, trivial⟩⟩
 }
 {
 rintro ⟨x46, x49⟩ a w ⟨m44, hm45, v47, hv48, hr50, hS, hE⟩ r51 h hb52
 have h : hayloftref06_Encode_b1 r36 x46 x49 = some r51 := h
 unfold hayloftref06_Encode_b1 at h
 refine kseq ?_
 refine kseq ?_
 refine kreg ?_
 refine sp hE (r_move hE rfl) rfl fun a hE => ?_
 refine sp hE (r_move hE rfl) rfl fun a hE => ?_
 refine sp hE (r_lenSl (k := kHayloftref06_Run) hE rfl rfl Try.underlying50 (hv40.mono hm45)) rfl fun a hE => ?_
 refine sp hE (r_bin hE rfl rfl b_lss) rfl fun a hE => ?_
 refine knil ?_
 refine kif hE rfl (fun hd57 => ?_) (fun hd57 => ?_)
 {
 have h := ite_T hd57 h
 refine kskip ?_
 refine kseq ?_
 refine kblock ?_
 refine kseq ?_
 refine kreg ?_
 refine sp hE (r_move hE rfl) rfl fun a hE => ?_
 refine sp hE (r_move hE rfl) rfl fun a hE => ?_
 refine sp hE (r_move hE rfl) rfl fun a hE => ?_
 obtain ⟨x61, hx62, h⟩ := ob h
 refine st hE (st_index (k := kHayloftref06_Run) hE rfl rfl Try.underlying50 Try.sizeOf56 (hv40.mono hm45) hx62) rfl ?_
 rintro v64 a _ ⟨rfl, hp63⟩ hE
 refine st hE (st_fieldM hE fo56_0 fl56_0 rfl hp63) rfl ?_
 rintro v67 a _ ⟨rfl, hp66⟩ hE
 refine st hE (st_loadM hE hS ty3 rfl hp66) rfl ?_
 rintro v69 a _ ⟨rfl, hv68⟩ hE
 obtain ⟨rfl, hr70⟩ := RV_int hv68
 refine sp hE (r_conv hE rfl Try.underlying3 Try.underlying5 rfl) rfl fun a hE => ?_
 refine st hE (st_lit (k := (kInt .u8)) (xs := [IntKind.u8.wrap x61.fMany]) (vs := [(.int .u8 (IntKind.u8.wrap x61.fMany))]) hE hS rfl Try.underlying37 Try.sizeOf5 Try.zeroValue5 ⟨(RV_of_int (inR_wrap _ _)), trivial⟩ rfl (by decide)) rfl ?_
 rintro v75 a w ⟨m73, hm74, hS, hv72⟩ hE
 obtain ⟨z76, hz77, h⟩ := ob h
 refine st hE (st_app (k := (kInt .u8)) (N := 140737488355328) hE hS rfl rfl Try.underlying37 Try.underlying37 el5 (i := 1) rfl (hv48.mono hm74) hv72 hz77 rfl rfl) rfl ?_
 rintro v81 a w ⟨m79, hm80, hS, hv78⟩ hE
 refine sp hE (r_assign hE rfl) rfl fun a hE => ?_
 refine knil ?_
 refine kreg ?_
 refine sp hE (r_move hE rfl) rfl fun a hE => ?_
 refine sp hE (r_move hE rfl) rfl fun a hE => ?_
 refine sp hE (r_move hE rfl) rfl fun a hE => ?_
 obtain ⟨x86, hx87, h⟩ := ob h
 refine st hE (st_index (k := kHayloftref06_Run) hE rfl rfl Try.underlying50 Try.sizeOf56 (hv40.mono (M.le.trans hm45 (M.le.trans hm74 hm80))) hx87) rfl ?_
 rintro v89 a _ ⟨rfl, hp88⟩ hE
 refine st hE (st_fieldM hE fo56_1 fl56_1 rfl hp88) rfl ?_
 rintro v92 a _ ⟨rfl, hp91⟩ hE
 refine st hE (st_loadM hE hS ty53 rfl hp91) rfl ?_
 rintro v94 a _ ⟨rfl, hv93⟩ hE
 obtain ⟨r95, hr96, h⟩ := ob h
 refine st hE (st_call (vs := [v94]) hE rfl Try.call62 (c_hayloftref03_One (hS := hS) hv93 hr96)) rfl ?_
 rintro v100 a w ⟨m97, hm98, hS, hv99⟩ hE
 obtain ⟨z101, hz102, h⟩ := ob h
 refine st hE (st_app (k := (kInt .u8)) (N := 140737488355328) hE hS rfl rfl Try.underlying37 Try.underlying37 el5 (i := 2) rfl (hv78.mono hm98) hv99 hz102 rfl rfl) rfl ?_
 rintro v106 a w ⟨m104, hm105, hS, hv103⟩ hE
 refine sp hE (r_assign hE rfl) rfl fun a hE => ?_
 refine knil ?_
 refine kreg ?_
 refine sp hE (r_move hE rfl) rfl fun a hE => ?_
 refine sp hE (r_bin hE rfl rfl (b_add rfl)) rfl fun a hE => ?_
 refine sp hE (r_assign hE rfl) rfl fun a hE => ?_
 refine knil ?_
 exact ⟨(z101, IntKind.i64.wrap (x49 + 1)), (Option.some.inj h).symm, _, (M.le.trans hm45 (M.le.trans hm74 (M.le.trans hm80 (M.le.trans hm98 hm105)))), v106, hv103, (inR_wrap _ _), (hS.pickT 4 [2, 3] rfl rfl rfl), hE.cut ⟨rfl, rfl, rfl, trivial⟩⟩
 }
 {
 have h := ite_F hd57 h
 refine kexit rfl rfl ?_
 have h := unwrap h hb52
 exact ⟨x46, h, _, (M.le.trans hm39 hm45), v47, hv48, (hS.pickT 2 [0] rfl rfl rfl), hE.cut ⟨rfl, trivial⟩⟩
 }
 }
 }
 {
 have h := ite_F hd34 h
 refine kseq ?_
 refine kreg ?_
 refine sp hE (r_bin hE rfl rfl b_eql) rfl fun a hE => ?_
 refine sp hE (r_assign hE rfl) rfl fun a hE => ?_
 refine knil ?_
 refine kif hE rfl (fun hd113 => ?_) (fun hd113 => ?_)
 {
 have h := ite_T hd113 h
 refine kreg ?_
 refine sp hE (r_move hE rfl) rfl fun a hE => ?_
 obtain ⟨r115, hr116, h⟩ := ob h
 refine st hE (st_call (vs := [v1]) hE rfl Try.call63 (c_hayloftref06_delta (hS := hS) (ha1.mono (M.le.trans hm8 hm14)) hr116)) rfl ?_
 rintro v120 a w ⟨m117, hm118, hS, hv119⟩ hE
 refine sp hE (r_assign hE rfl) rfl fun a hE => ?_
 refine knil ?_
 exact ⟨r115, h, _, hm118, v120, hv119, hS, hE.cut ⟨rfl, trivial⟩⟩
 }
 {
 have h := ite_F hd113 h
 refine kseq ?_
 refine kreg ?_
 refine sp hE (r_bin hE rfl rfl b_eql) rfl fun a hE => ?_
 refine sp hE (r_assign hE rfl) rfl fun a hE => ?_
 refine knil ?_
 refine kif hE rfl (fun hd124 => ?_) (fun hd124 => ?_)
 {
 have h := ite_T hd124 h
 refine kreg ?_
 refine sp hE (r_move hE rfl) rfl fun a hE => ?_
 obtain ⟨r126, hr127, h⟩ := ob h
 refine st hE (st_call (vs := [v1]) hE rfl Try.call64 (c_hayloftref06_dict (hS := hS) (ha1.mono (M.le.trans hm8 hm14)) hr127)) rfl ?_
 rintro v131 a w ⟨m128, hm129, hS, hv130⟩ hE
 refine sp hE (r_assign hE rfl) rfl fun a hE => ?_
 refine knil ?_
 exact ⟨r126, h, _, hm129, v131, hv130, hS, hE.cut ⟨rfl, trivial⟩⟩
 }
 {
 have h := ite_F hd124 h
 refine kseq ?_
 refine kreg ?_
 refine sp hE (r_bin hE rfl rfl b_eql) rfl fun a hE => ?_
 refine sp hE (r_assign hE rfl) rfl fun a hE => ?_
 refine knil ?_
 refine kif hE rfl (fun hd135 => ?_) (fun hd135 => ?_)
 {
 have h := ite_T hd135 h
 refine kreg ?_
 refine sp hE (r_move hE rfl) rfl fun a hE => ?_
 obtain ⟨r137, hr138, h⟩ := ob h
 refine st hE (st_call (vs := [v1]) hE rfl Try.call65 (c_hayloftref06_small (hS := hS) (ha1.mono (M.le.trans hm8 hm14)) hr138)) rfl ?_
 rintro v142 a w ⟨m139, hm140, hS, hv141⟩ hE
 refine sp hE (r_assign hE rfl) rfl fun a hE => ?_
 refine knil ?_
 exact ⟨r137, h, _, hm140, v142, hv141, hS, hE.cut ⟨rfl, trivial⟩⟩
 }
 {
 have h := ite_F hd135 h
 refine kseq ?_
 refine kreg ?_
 refine sp hE (r_assign hE rfl) rfl fun a hE => ?_
 refine knil ?_
 refine kblock ?_
 refine kloop h (fun (s : ((List Int) × Int)) a w => ∃ m', M.le m13 m' ∧ ∃ (v148 : Value), RV (kSl (kInt .u8)) m' v148 s.1 ∧ inR .i64 s.2 ∧ S W0 m' w (L) ((1, v148) :: TL) ∧ Env 76 a [(1, v1), (7, v148), (10, (.int .i64 s.2))]) ?_ ?_
 {
 exact ⟨_, (M.le.refl _), (.slice none 0 0), RV_nil, (show inR .i64 0 from inR_lit (by decide)), (hS.tail0 1), hE.cut ⟨rfl, rfl, rfl, trivial⟩⟩
 }
 {
 rintro ⟨x147, x150⟩ a w ⟨m145, hm146, v148, hv149, hr151, hS, hE⟩ r152 h hb153
 have h : hayloftref06_Encode_b2 p1 x147 x150 = some r152 := h
 unfold hayloftref06_Encode_b2 at h
 refine kseq ?_
 refine kseq ?_
 refine kreg ?_
 refine sp hE (r_move hE rfl) rfl fun a hE => ?_
 refine sp hE (r_move hE rfl) rfl fun a hE => ?_
 refine sp hE (r_lenSl (k := kApi_Value) hE rfl rfl Try.underlying29 (ha1.mono (M.le.trans hm8 (M.le.trans hm14 hm146)))) rfl fun a hE => ?_
 refine sp hE (r_bin hE rfl rfl b_lss) rfl fun a hE => ?_
 refine knil ?_
 refine kif hE rfl (fun hd158 => ?_) (fun hd158 => ?_)
 {
 have h := ite_T hd158 h
 refine kskip ?_
 refine kseq ?_
 refine kblock ?_
 refine kreg ?_
 refine sp hE (r_move hE rfl) rfl fun a hE => ?_
 refine sp hE (r_move hE rfl) rfl fun a hE => ?_
 refine sp hE (r_move hE rfl) rfl fun a hE => ?_
 obtain ⟨x162, hx163, h⟩ := ob h
 refine st hE (st_index (k := kApi_Value) hE rfl rfl Try.underlying29 Try.sizeOf53 (ha1.mono (M.le.trans hm8 (M.le.trans hm14 hm146))) hx163) rfl ?_
 rintro v165 a _ ⟨rfl, hp164⟩ hE
 refine st hE (st_loadM hE hS ty53 rfl hp164) rfl ?_
 rintro v167 a _ ⟨rfl, hv166⟩ hE
 obtain ⟨r168, hr169, h⟩ := ob h
 refine st hE (st_call (vs := [v167]) hE rfl Try.call62 (c_hayloftref03_One (hS := hS) hv166 hr169)) rfl ?_
 rintro v173 a w ⟨m170, hm171, hS, hv172⟩ hE
 obtain ⟨z174, hz175, h⟩ := ob h
 refine st hE (st_app (k := (kInt .u8)) (N := 140737488355328) hE hS rfl rfl Try.underlying37 Try.underlying37 el5 (i := 1) rfl (hv149.mono hm171) hv172 hz175 rfl rfl) rfl ?_
 rintro v179 a w ⟨m177, hm178, hS, hv176⟩ hE
 refine sp hE (r_assign hE rfl) rfl fun a hE => ?_
 refine knil ?_
 refine kreg ?_
 refine sp hE (r_move hE rfl) rfl fun a hE => ?_
 refine sp hE (r_bin hE rfl rfl (b_add rfl)) rfl fun a hE => ?_
 refine sp hE (r_assign hE rfl) rfl fun a hE => ?_
 refine knil ?_
 exact ⟨(z174, IntKind.i64.wrap (x150 + 1)), (Option.some.inj h).symm, _, (M.le.trans hm146 (M.le.trans hm171 hm178)), v179, hv176, (inR_wrap _ _), (hS.pickT 2 [1] rfl rfl rfl), hE.cut ⟨rfl, rfl, rfl, trivial⟩⟩
 }
 {
 have h := ite_F hd158 h
 refine kexit rfl rfl ?_
 have h := unwrap h hb153
 exact ⟨x147, h, _, hm146, v148, hv149, hS, hE.cut ⟨rfl, trivial⟩⟩
 }
 }
 }
 }
 }
 }
 }
 {
 rintro a w ⟨x25, h, m23, hm24, v26, hv27, hS, hE⟩
 unfold hayloftref06_Encode_j2 at h
 refine kseq ?_
 refine kreg ?_
 refine sp hE (r_move hE rfl) rfl fun a hE => ?_
 refine sp hE (r_assign hE rfl) rfl fun a hE => ?_
 refine sp hE (r_assign hE rfl) rfl fun a hE => ?_
 refine knil ?_
 refine kret ?_
 obtain rfl := Option.some.inj h
 try dsimp only
 refine Fin.mk (fn := Try.f29) hE (rs := [.tmp 4, .tmp 5]) rfl (ResL.tmp hE rfl (ResL.tmp hE rfl ResL.nil)) ?_
 exact ⟨_, (M.le.trans hm8 (M.le.trans hm14 hm24)), (hS.dropT 1), _, _, rfl, hv27, (RV_of_int (show inR .i64 0 from inR_lit (by decide)))⟩
 }
 }
 }
/- 21 -/
/- 25 -/
theorem c_encode_Best {W0 : World} {m : M} {w : World} {L : List (Nat × List Value)} {TL : List (Nat × Value)} (hS : S W0 m w (L) (TL)) {v0 : Value} {p0 : (List Api_Value)} (ha0 : RV (kSl kApi_Value) m v0 p0) {r : Int} (h : encode_Best p0 = some r) :
    Calls Try.prog 25 [v0].toArray w (Ret fun v w' => ∃ m', M.le m m' ∧ S W0 m' w' (L) (TL) ∧ RV (kInt .i64) m' v r) := by
 refine kcall Try.func25 rfl Try.ntmps25 (Nat.le_of_ble_eq_true rfl) fun a hE => ?_
 have hE : Env 34 a [(0, v0)] := hE
 unfold encode_Best at h
 refine kseq ?_
 refine kreg ?_
 refine sp hE (r_assign hE rfl) rfl fun a hE => ?_
 refine knil ?_
 refine kseq ?_
 refine kreg ?_
 refine sp hE (r_assign hE rfl) rfl fun a hE => ?_
 refine sp hE (r_assign hE rfl) rfl fun a hE => ?_
 refine knil ?_
 refine kseq ?_
 refine kseq ?_
 refine kreg ?_
 refine sp hE (r_assign hE rfl) rfl fun a hE => ?_
 refine knil ?_
 refine kcut (fun a w => ∃ x7 : Int, encode_Best_j1 x7 = some r ∧ ∃ m', M.le m m' ∧ inR .i64 x7 ∧ S W0 m' w (L) (TL) ∧ Env 34 a [(3, (.int .i64 x7))]) ?_ ?_
 {
 refine kblock ?_
 refine kloop h (fun (s : (Int × Int × Int)) a w => ∃ m', M.le m m' ∧ inR .i64 s.1 ∧ inR .i64 s.2.1 ∧ inR .i64 s.2.2 ∧ S W0 m' w (L) (TL) ∧ Env 34 a [(0, v0), (3, (.int .i64 s.1)), (4, (.int .i64 s.2.1)), (5, (.int .i64 s.2.2))]) ?_ ?_
 {
 exact ⟨_, (M.le.refl _), (show inR .i64 0 from inR_lit (by decide)), (show inR .i64 (-1) from inR_lit (by decide)), (show inR .i64 0 from inR_lit (by decide)), hS, hE.cut ⟨rfl, rfl, rfl, rfl, trivial⟩⟩
 }
 {
 rintro ⟨x14, x16, x18⟩ a w ⟨m12, hm13, hr15, hr17, hr19, hS, hE⟩ r20 h hb21
 have h : encode_Best_b1 p0 x14 x16 x18 = some r20 := h
 unfold encode_Best_b1 at h
 refine kseq ?_
 refine kseq ?_
 refine kreg ?_
 refine sp hE (r_move hE rfl) rfl fun a hE => ?_
 refine sp hE (r_bin hE rfl rfl b_leq) rfl fun a hE => ?_
 refine knil ?_
 refine kif hE rfl (fun hd24 => ?_) (fun hd24 => ?_)
 {
 have h := ite_T hd24 h
 refine kskip ?_
 refine kseq ?_
 refine kblock ?_
 refine kseq ?_
 refine kreg ?_
 refine sp hE (r_move hE rfl) rfl fun a hE => ?_
 refine sp hE (r_move hE rfl) rfl fun a hE => ?_
 obtain ⟨r27, hr28, h⟩ := ob h
 refine st hE (st_call (vs := [(.int .i64 x18), v0]) hE rfl Try.call24 (c_encode_Encode (hS := hS) hr19 (ha0.mono hm13) hr28)) rfl ?_
 rintro _ a w ⟨m29, hm30, hS, v0_31, v1_32, rfl, hv0_33, hv1_34⟩ hE
 obtain ⟨rfl, hr36⟩ := RV_int hv1_34
 refine sp hE (r_move hE rfl) rfl fun a hE => ?_
 refine sp hE (r_extract hE rfl rfl) rfl fun a hE => ?_
 refine sp hE (r_extract hE rfl rfl) rfl fun a hE => ?_
 refine sp hE (r_assign hE rfl) rfl fun a hE => ?_
 refine sp hE (r_assign hE rfl) rfl fun a hE => ?_
 refine knil ?_
 refine kseq ?_
 refine kcut (fun a w => ∃ x44 : Bool, encode_Best_j2 x14 x16 x18 r27 x44 = some r20 ∧ ∃ m', M.le m29 m' ∧ S W0 m' w (L) (TL) ∧ Env 34 a [(0, v0), (3, (.int .i64 x14)), (4, (.int .i64 x16)), (5, (.int .i64 x18)), (6, v0_31), (29, (.bool x44))]) ?_ ?_
 {
 refine kreg ?_
 refine sp hE (r_move hE rfl) rfl fun a hE => ?_
 refine sp hE (r_bin hE rfl rfl b_eql) rfl fun a hE => ?_
 refine sp hE (r_move hE rfl) rfl fun a hE => ?_
 rcases Bool.eq_false_or_eq_true (r27.2 == 0) with hd65 | hd65
 {
 have h := ite_T hd65 h
 refine spg hE rfl rfl rfl rfl hd65 (r_move hE rfl) rfl fun a hE => ?_
 refine spg hE rfl rfl rfl rfl hd65 (r_bin hE rfl rfl b_lss) rfl fun a hE => ?_
 refine spg hE rfl rfl rfl rfl hd65 (r_move hE rfl) rfl fun a hE => ?_
 rcases Bool.eq_false_or_eq_true (decide (x16 < 0)) with hd69 | hd69
 {
 have h := ite_T hd69 h
 refine sx hE rfl rfl rfl rfl hd69 rfl fun a hE => ?_
 refine sx hE rfl rfl rfl rfl hd69 rfl fun a hE => ?_
 refine sx hE rfl rfl rfl rfl hd69 rfl fun a hE => ?_
 refine sx hE rfl rfl rfl rfl hd69 rfl fun a hE => ?_
 refine spg hE rfl rfl rfl rfl hd65 (r_pickT hE rfl hd69 rfl) rfl fun a hE => ?_
 refine sp hE (r_pickT hE rfl hd65 rfl) rfl fun a hE => ?_
 refine knil ?_
 exact ⟨true, h, _, (M.le.refl _), hS, hE.cut ⟨rfl, rfl, rfl, rfl, rfl, rfl, trivial⟩⟩
 }
 {
 have h := ite_F hd69 h
 refine spg hE rfl rfl rfl rfl hd69 (r_move hE rfl) rfl fun a hE => ?_
 refine spg hE rfl rfl rfl rfl hd69 (r_lenSl (k := (kInt .u8)) hE rfl rfl Try.underlying37 hv0_33) rfl fun a hE => ?_
 refine spg hE rfl rfl rfl rfl hd69 (r_move hE rfl) rfl fun a hE => ?_
 refine spg hE rfl rfl rfl rfl hd69 (r_bin hE rfl rfl b_lss) rfl fun a hE => ?_
 refine spg hE rfl rfl rfl rfl hd65 (r_pickF hE rfl hd69 rfl) rfl fun a hE => ?_
 refine sp hE (r_pickT hE rfl hd65 rfl) rfl fun a hE => ?_
 refine knil ?_
 exact ⟨(decide ((r27.1.length : Int) < x16)), h, _, (M.le.refl _), hS, hE.cut ⟨rfl, rfl, rfl, rfl, rfl, rfl, trivial⟩⟩
 }
 }
 {
 have h := ite_F hd65 h
 refine sx hE rfl rfl rfl rfl hd65 rfl fun a hE => ?_
 refine sx hE rfl rfl rfl rfl hd65 rfl fun a hE => ?_
 refine sx hE rfl rfl rfl rfl hd65 rfl fun a hE => ?_
 refine sxu hE rfl rfl rfl rfl fun a hE => ?_
 refine sxu hE rfl rfl rfl rfl fun a hE => ?_
 refine sxu hE rfl rfl rfl rfl fun a hE => ?_
 refine sxu hE rfl rfl rfl rfl fun a hE => ?_
 refine sx hE rfl rfl rfl rfl hd65 rfl fun a hE => ?_
 refine sp hE (r_pickF hE rfl hd65 rfl) rfl fun a hE => ?_
 refine knil ?_
 exact ⟨false, h, _, (M.le.refl _), hS, hE.cut ⟨rfl, rfl, rfl, rfl, rfl, rfl, trivial⟩⟩
 }
 }
 {
 rintro a w ⟨x44, h, m42, hm43, hS, hE⟩
 unfold encode_Best_j2 at h
 refine kcut (fun a w => ∃ x48 : Int, ∃ x50 : Int, encode_Best_j3 x18 x48 x50 = some r20 ∧ ∃ m', M.le m42 m' ∧ inR .i64 x48 ∧ inR .i64 x50 ∧ S W0 m' w (L) (TL) ∧ Env 34 a [(0, v0), (3, (.int .i64 x48)), (4, (.int .i64 x50)), (5, (.int .i64 x18))]) ?_ ?_
 {
 refine kif hE rfl (fun hd56 => ?_) (fun hd56 => ?_)
 {
 have h := ite_T hd56 h
 refine kreg ?_
 refine sp hE (r_move hE rfl) rfl fun a hE => ?_
 refine sp hE (r_move hE rfl) rfl fun a hE => ?_
 refine sp hE (r_lenSl (k := (kInt .u8)) hE rfl rfl Try.underlying37 (hv0_33.mono hm43)) rfl fun a hE => ?_
 refine sp hE (r_assign hE rfl) rfl fun a hE => ?_
 refine sp hE (r_assign hE rfl) rfl fun a hE => ?_
 refine knil ?_
 exact ⟨x18, (r27.1.length : Int), h, _, (M.le.refl _), hr19, (inR_len (RV_len (hv0_33.mono hm43))), hS, hE.cut ⟨rfl, rfl, rfl, rfl, trivial⟩⟩
 }
 {
 have h := ite_F hd56 h
 refine kskip ?_
 exact ⟨x14, x16, h, _, (M.le.refl _), hr15, hr17, hS, hE.cut ⟨rfl, rfl, rfl, rfl, trivial⟩⟩
 }
 }
 {
 rintro a w ⟨x48, x50, h, m46, hm47, hr49, hr51, hS, hE⟩
 unfold encode_Best_j3 at h
 refine kreg ?_
 refine sp hE (r_move hE rfl) rfl fun a hE => ?_
 refine sp hE (r_bin hE rfl rfl (b_add rfl)) rfl fun a hE => ?_
 refine sp hE (r_assign hE rfl) rfl fun a hE => ?_
 refine knil ?_
 exact ⟨(x48, x50, IntKind.i64.wrap (x18 + 1)), (Option.some.inj h).symm, _, (M.le.trans hm13 (M.le.trans hm30 (M.le.trans hm43 hm47))), hr49, hr51, (inR_wrap _ _), hS, hE.cut ⟨rfl, rfl, rfl, rfl, trivial⟩⟩
 }
 }
 }
 {
 have h := ite_F hd24 h
 refine kexit rfl rfl ?_
 have h := unwrap h hb21
 exact ⟨x14, h, _, hm13, hr15, hS, hE.cut ⟨rfl, trivial⟩⟩
 }
 }
 }
 {
 rintro a w ⟨x7, h, m5, hm6, hr8, hS, hE⟩
 unfold encode_Best_j1 at h
 refine kseq ?_
 refine kreg ?_
 refine sp hE (r_move hE rfl) rfl fun a hE => ?_
 refine sp hE (r_assign hE rfl) rfl fun a hE => ?_
 refine knil ?_
 refine kret ?_
 obtain rfl := Option.some.inj h
 try dsimp only
 refine Fin.mk (fn := Try.f25) hE (rs := [.tmp 2]) rfl (ResL.tmp hE rfl ResL.nil) ?_
 exact ⟨_, hm6, hS, (RV_of_int hr8)⟩
 }
/- 22 -/
theorem c_hayloftlaw06_alive {W0 : World} {m : M} {w : World} {L : List (Nat × List Value)} {TL : List (Nat × Value)} (hS : S W0 m w (L) (TL))  {r : Bool} (h : hayloftlaw06_alive = some r) :
    Calls Try.prog 22 [].toArray w (Ret fun v w' => ∃ m', M.le m m' ∧ S W0 m' w' (L) (TL) ∧ RV kBool m' v r) := by
 refine kcall Try.func22 rfl Try.ntmps22 (Nat.le_of_ble_eq_true rfl) fun a hE => ?_
 have hE : Env 47 a [] := hE
 unfold hayloftlaw06_alive at h
 refine kseq ?_
 refine kreg ?_
 refine sp hE (r_assign hE rfl) rfl fun a hE => ?_
 refine knil ?_
 refine kseq ?_
 refine kreg ?_
 refine st hE (st_build (m := m) (k := kApi_Value) (x0 := Api_Value.zero) (xx := (⟨2, false, 5, []⟩ : Api_Value)) (pl := [(0, 1), (1, 1), (2, 1), (3, 1)]) (pv := [(0, (.int .i64 2)), (2, (.int .i64 5))]) hE rfl Try.underlying53 rfl Try.zeroValue53 zr53 rfl (.cons rfl sf53_0 (RV_of_int (show inR .i64 2 from inR_lit (by decide))) (.cons rfl sf53_2 (RV_of_int (show inR .i64 5 from inR_lit (by decide))) .nil))) rfl ?_
 rintro v3 a _ ⟨rfl, hv2⟩ hE
 refine st hE (st_build (m := m) (k := kApi_Value) (x0 := Api_Value.zero) (xx := (⟨2, false, 5, []⟩ : Api_Value)) (pl := [(0, 1), (1, 1), (2, 1), (3, 1)]) (pv := [(0, (.int .i64 2)), (2, (.int .i64 5))]) hE rfl Try.underlying53 rfl Try.zeroValue53 zr53 rfl (.cons rfl sf53_0 (RV_of_int (show inR .i64 2 from inR_lit (by decide))) (.cons rfl sf53_2 (RV_of_int (show inR .i64 5 from inR_lit (by decide))) .nil))) rfl ?_
 rintro v5 a _ ⟨rfl, hv4⟩ hE
 refine st hE (st_build (m := m) (k := kApi_Value) (x0 := Api_Value.zero) (xx := (⟨2, false, 5, []⟩ : Api_Value)) (pl := [(0, 1), (1, 1), (2, 1), (3, 1)]) (pv := [(0, (.int .i64 2)), (2, (.int .i64 5))]) hE rfl Try.underlying53 rfl Try.zeroValue53 zr53 rfl (.cons rfl sf53_0 (RV_of_int (show inR .i64 2 from inR_lit (by decide))) (.cons rfl sf53_2 (RV_of_int (show inR .i64 5 from inR_lit (by decide))) .nil))) rfl ?_
 rintro v7 a _ ⟨rfl, hv6⟩ hE
 refine st hE (st_lit (k := kApi_Value) (xs := [(⟨2, false, 5, []⟩ : Api_Value), (⟨2, false, 5, []⟩ : Api_Value), (⟨2, false, 5, []⟩ : Api_Value)]) (vs := [v3, v5, v7]) hE hS rfl Try.underlying29 Try.sizeOf53 Try.zeroValue53 ⟨hv2, hv4, hv6, trivial⟩ rfl (by decide)) rfl ?_
 rintro v11 a w ⟨m9, hm10, hS, hv8⟩ hE
 refine sp hE (r_assign hE rfl) rfl fun a hE => ?_
 refine knil ?_
 refine kseq ?_
 refine kreg ?_
 refine sp hE (r_move hE rfl) rfl fun a hE => ?_
 obtain ⟨r14, hr15, h⟩ := ob h
 refine st hE (st_call (vs := [(.int .i64 1), v11]) hE rfl Try.call24 (c_encode_Encode (hS := hS) (show inR .i64 1 from inR_lit (by decide)) hv8 hr15)) rfl ?_
 rintro _ a w ⟨m16, hm17, hS, v0_18, v1_19, rfl, hv0_20, hv1_21⟩ hE
 obtain ⟨rfl, hr23⟩ := RV_int hv1_21
 refine sp hE (r_move hE rfl) rfl fun a hE => ?_
 refine sp hE (r_extract hE rfl rfl) rfl fun a hE => ?_
 refine sp hE (r_extract hE rfl rfl) rfl fun a hE => ?_
 refine sp hE (r_assign hE rfl) rfl fun a hE => ?_
 refine sp hE (r_assign hE rfl) rfl fun a hE => ?_
 refine knil ?_
 refine kseq ?_
 refine kreg ?_
 refine sp hE (r_move hE rfl) rfl fun a hE => ?_
 obtain ⟨r30, hr31, h⟩ := ob h
 refine st hE (st_call (vs := [(.int .i64 1), v0_18, (.int .i64 3)]) hE rfl Try.call20 (c_encode_Decode (hS := hS) (show inR .i64 1 from inR_lit (by decide)) hv0_20 (show inR .i64 3 from inR_lit (by decide)) hr31)) rfl ?_
 rintro _ a w ⟨m32, hm33, hS, v0_34, v1_35, rfl, hv0_36, hv1_37⟩ hE
 obtain ⟨rfl, hr39⟩ := RV_int hv1_37
 refine sp hE (r_move hE rfl) rfl fun a hE => ?_
 refine sp hE (r_extract hE rfl rfl) rfl fun a hE => ?_
 refine sp hE (r_extract hE rfl rfl) rfl fun a hE => ?_
 refine sp hE (r_assign hE rfl) rfl fun a hE => ?_
 refine sp hE (r_assign hE rfl) rfl fun a hE => ?_
 refine knil ?_
 refine kseq ?_
 refine kcut (fun a w => ∃ x47 : Bool, hayloftlaw06_alive_j1 x47 = some r ∧ ∃ m', M.le m32 m' ∧ S W0 m' w (L) (TL) ∧ Env 47 a [(0, (.bool x47))]) ?_ ?_
 {
 refine kreg ?_
 refine sp hE (r_move hE rfl) rfl fun a hE => ?_
 refine sp hE (r_bin hE rfl rfl b_eql) rfl fun a hE => ?_
 refine sp hE (r_move hE rfl) rfl fun a hE => ?_
 rcases Bool.eq_false_or_eq_true (r14.2 == 0) with hd52 | hd52
 {
 have h := ite_T hd52 h
 refine spg hE rfl rfl rfl rfl hd52 (r_move hE rfl) rfl fun a hE => ?_
 refine spg hE rfl rfl rfl rfl hd52 (r_lenSl (k := (kInt .u8)) hE rfl rfl Try.underlying37 (hv0_20.mono hm33)) rfl fun a hE => ?_
 refine spg hE rfl rfl rfl rfl hd52 (r_bin hE rfl rfl b_eql) rfl fun a hE => ?_
 refine sp hE (r_pickT hE rfl hd52 rfl) rfl fun a hE => ?_
 refine sp hE (r_move hE rfl) rfl fun a hE => ?_
 rcases Bool.eq_false_or_eq_true ((r14.1.length : Int) == 10) with hd58 | hd58
 {
 have h := ite_T hd58 h
 refine spg hE rfl rfl rfl rfl hd58 (r_move hE rfl) rfl fun a hE => ?_
 obtain ⟨x60, hx61, h⟩ := ob h
 refine stg hE rfl rfl rfl rfl hd58 (st_index (k := (kInt .u8)) hE rfl rfl Try.underlying37 Try.sizeOf5 (hv0_20.mono hm33) hx61) rfl ?_
 rintro v63 a _ ⟨rfl, hp62⟩ hE
 refine stg hE rfl rfl rfl rfl hd58 (st_loadM hE hS ty5 rfl hp62) rfl ?_
 rintro v65 a _ ⟨rfl, hv64⟩ hE
 obtain ⟨rfl, hr66⟩ := RV_int hv64
 refine spg hE rfl rfl rfl rfl hd58 (r_bin hE rfl rfl b_eql) rfl fun a hE => ?_
 refine sp hE (r_pickT hE rfl hd58 rfl) rfl fun a hE => ?_
 refine sp hE (r_move hE rfl) rfl fun a hE => ?_
 rcases Bool.eq_false_or_eq_true (x60 == 3) with hd70 | hd70
 {
 have h := ite_T hd70 h
 refine spg hE rfl rfl rfl rfl hd70 (r_move hE rfl) rfl fun a hE => ?_
 refine spg hE rfl rfl rfl rfl hd70 (r_bin hE rfl rfl b_eql) rfl fun a hE => ?_
 refine sp hE (r_pickT hE rfl hd70 rfl) rfl fun a hE => ?_
 refine sp hE (r_move hE rfl) rfl fun a hE => ?_
 rcases Bool.eq_false_or_eq_true (r30.2 == 0) with hd75 | hd75
 {
 have h := ite_T hd75 h
 refine spg hE rfl rfl rfl rfl hd75 (r_move hE rfl) rfl fun a hE => ?_
 refine spg hE rfl rfl rfl rfl hd75 (r_lenSl (k := kApi_Value) hE rfl rfl Try.underlying29 hv0_36) rfl fun a hE => ?_
 refine spg hE rfl rfl rfl rfl hd75 (r_bin hE rfl rfl b_eql) rfl fun a hE => ?_
 refine sp hE (r_pickT hE rfl hd75 rfl) rfl fun a hE => ?_
 refine sp hE (r_move hE rfl) rfl fun a hE => ?_
 rcases Bool.eq_false_or_eq_true ((r30.1.length : Int) == 3) with hd81 | hd81
 {
 have h := ite_T hd81 h
 refine spg hE rfl rfl rfl rfl hd81 (r_move hE rfl) rfl fun a hE => ?_
 obtain ⟨r83, hr84, h⟩ := ob h
 refine stg hE rfl rfl rfl rfl hd81 (st_call (vs := [v11]) hE rfl Try.call25 (c_encode_Best (hS := hS) (hv8.mono (M.le.trans hm17 hm33)) hr84)) rfl ?_
 rintro v88 a w ⟨m85, hm86, hS, hv87⟩ hE
 obtain ⟨rfl, hr89⟩ := RV_int hv87
 refine spg hE rfl rfl rfl rfl hd81 (r_bin hE rfl rfl b_eql) rfl fun a hE => ?_
 refine sp hE (r_pickT hE rfl hd81 rfl) rfl fun a hE => ?_
 refine sp hE (r_assign hE rfl) rfl fun a hE => ?_
 refine knil ?_
 exact ⟨(r83 == 4), h, _, hm86, (hS.pickT 1 [] rfl rfl rfl), hE.cut ⟨rfl, trivial⟩⟩
 }
 {
 have h := ite_F hd81 h
 refine sx hE rfl rfl rfl rfl hd81 rfl fun a hE => ?_
 refine sx hE rfl rfl rfl rfl hd81 rfl fun a hE => ?_
 refine sx hE rfl rfl rfl rfl hd81 rfl fun a hE => ?_
 refine sp hE (r_pickF hE rfl hd81 rfl) rfl fun a hE => ?_
 refine sp hE (r_assign hE rfl) rfl fun a hE => ?_
 refine knil ?_
 exact ⟨false, h, _, (M.le.refl _), (hS.pickT 1 [] rfl rfl rfl), hE.cut ⟨rfl, trivial⟩⟩
 }
 }
 {
 have h := ite_F hd75 h
 refine sx hE rfl rfl rfl rfl hd75 rfl fun a hE => ?_
 refine sx hE rfl rfl rfl rfl hd75 rfl fun a hE => ?_
 refine sx hE rfl rfl rfl rfl hd75 rfl fun a hE => ?_
 refine sp hE (r_pickF hE rfl hd75 rfl) rfl fun a hE => ?_
 refine sp hE (r_move hE rfl) rfl fun a hE => ?_
 refine sx hE rfl rfl rfl rfl rfl rfl fun a hE => ?_
 refine sx hE rfl rfl rfl rfl rfl rfl fun a hE => ?_
 refine sx hE rfl rfl rfl rfl rfl rfl fun a hE => ?_
 refine sp hE (r_pickF hE rfl rfl rfl) rfl fun a hE => ?_
 refine sp hE (r_assign hE rfl) rfl fun a hE => ?_
 refine knil ?_
 exact ⟨false, h, _, (M.le.refl _), (hS.pickT 1 [] rfl rfl rfl), hE.cut ⟨rfl, trivial⟩⟩
 }
 }
 {
 have h := ite_F hd70 h
 refine sx hE rfl rfl rfl rfl hd70 rfl fun a hE => ?_
 refine sx hE rfl rfl rfl rfl hd70 rfl fun a hE => ?_
 refine sp hE (r_pickF hE rfl hd70 rfl) rfl fun a hE => ?_
 refine sp hE (r_move hE rfl) rfl fun a hE => ?_
 refine sx hE rfl rfl rfl rfl rfl rfl fun a hE => ?_
 refine sx hE rfl rfl rfl rfl rfl rfl fun a hE => ?_
 refine sx hE rfl rfl rfl rfl rfl rfl fun a hE => ?_
 refine sp hE (r_pickF hE rfl rfl rfl) rfl fun a hE => ?_
 refine sp hE (r_move hE rfl) rfl fun a hE => ?_
 refine sx hE rfl rfl rfl rfl rfl rfl fun a hE => ?_
 refine sx hE rfl rfl rfl rfl rfl rfl fun a hE => ?_
 refine sx hE rfl rfl rfl rfl rfl rfl fun a hE => ?_
 refine sp hE (r_pickF hE rfl rfl rfl) rfl fun a hE => ?_
 refine sp hE (r_assign hE rfl) rfl fun a hE => ?_
 refine knil ?_
 exact ⟨false, h, _, (M.le.refl _), (hS.pickT 1 [] rfl rfl rfl), hE.cut ⟨rfl, trivial⟩⟩
 }
 }
 {
 have h := ite_F hd58 h
 refine sx hE rfl rfl rfl rfl hd58 rfl fun a hE => ?_
 refine sx hE rfl rfl rfl rfl hd58 rfl fun a hE => ?_
 refine sx hE rfl rfl rfl rfl hd58 rfl fun a hE => ?_
 refine sx hE rfl rfl rfl rfl hd58 rfl fun a hE => ?_
 refine sp hE (r_pickF hE rfl hd58 rfl) rfl fun a hE => ?_
 refine sp hE (r_move hE rfl) rfl fun a hE => ?_
 refine sx hE rfl rfl rfl rfl rfl rfl fun a hE => ?_
 refine sx hE rfl rfl rfl rfl rfl rfl fun a hE => ?_
 refine sp hE (r_pickF hE rfl rfl rfl) rfl fun a hE => ?_
 refine sp hE (r_move hE rfl) rfl fun a hE => ?_
 refine sx hE rfl rfl rfl rfl rfl rfl fun a hE => ?_
 refine sx hE rfl rfl rfl rfl rfl rfl fun a hE => ?_
 refine sx hE rfl rfl rfl rfl rfl rfl fun a hE => ?_
 refine sp hE (r_pickF hE rfl rfl rfl) rfl fun a hE => ?_
 refine sp hE (r_move hE rfl) rfl fun a hE => ?_
 refine sx hE rfl rfl rfl rfl rfl rfl fun a hE => ?_
 refine sx hE rfl rfl rfl rfl rfl rfl fun a hE => ?_
 refine sx hE rfl rfl rfl rfl rfl rfl fun a hE => ?_
 refine sp hE (r_pickF hE rfl rfl rfl) rfl fun a hE => ?_
 refine sp hE (r_assign hE rfl) rfl fun a hE => ?_
 refine knil ?_
 exact ⟨false, h, _, (M.le.refl _), (hS.pickT 1 [] rfl rfl rfl), hE.cut ⟨rfl, trivial⟩⟩
 }
 }
 {
 have h := ite_F hd52 h
 refine sx hE rfl rfl rfl rfl hd52 rfl fun a hE => ?_
 refine sx hE rfl rfl rfl rfl hd52 rfl fun a hE => ?_
 refine sx hE rfl rfl rfl rfl hd52 rfl fun a hE => ?_
 refine sp hE (r_pickF hE rfl hd52 rfl) rfl fun a hE => ?_
 refine sp hE (r_move hE rfl) rfl fun a hE => ?_
 refine sx hE rfl rfl rfl rfl rfl rfl fun a hE => ?_
 refine sx hE rfl rfl rfl rfl rfl rfl fun a hE => ?_
 refine sx hE rfl rfl rfl rfl rfl rfl fun a hE => ?_
 refine sx hE rfl rfl rfl rfl rfl rfl fun a hE => ?_
 refine sp hE (r_pickF hE rfl rfl rfl) rfl fun a hE => ?_
 refine sp hE (r_move hE rfl) rfl fun a hE => ?_
 refine sx hE rfl rfl rfl rfl rfl rfl fun a hE => ?_
 refine sx hE rfl rfl rfl rfl rfl rfl fun a hE => ?_
 refine sp hE (r_pickF hE rfl rfl rfl) rfl fun a hE => ?_
 refine sp hE (r_move hE rfl) rfl fun a hE => ?_
 refine sx hE rfl rfl rfl rfl rfl rfl fun a hE => ?_
 refine sx hE rfl rfl rfl rfl rfl rfl fun a hE => ?_
 refine sx hE rfl rfl rfl rfl rfl rfl fun a hE => ?_
 refine sp hE (r_pickF hE rfl rfl rfl) rfl fun a hE => ?_
 refine sp hE (r_move hE rfl) rfl fun a hE => ?_
 refine sx hE rfl rfl rfl rfl rfl rfl fun a hE => ?_
 refine sx hE rfl rfl rfl rfl rfl rfl fun a hE => ?_
 refine sx hE rfl rfl rfl rfl rfl rfl fun a hE => ?_
 refine sp hE (r_pickF hE rfl rfl rfl) rfl fun a hE => ?_
 refine sp hE (r_assign hE rfl) rfl fun a hE => ?_
 refine knil ?_
 exact ⟨false, h, _, (M.le.refl _), (hS.pickT 1 [] rfl rfl rfl), hE.cut ⟨rfl, trivial⟩⟩
 }
 }
 {
 rintro a w ⟨x47, h, m45, hm46, hS, hE⟩
 unfold hayloftlaw06_alive_j1 at h
 refine kret ?_
 obtain rfl := Option.some.inj h
 try dsimp only
 refine Fin.mk (fn := Try.f22) hE (rs := [.tmp 0]) rfl (ResL.tmp hE rfl ResL.nil) ?_
 exact ⟨_, (M.le.trans hm10 (M.le.trans hm17 (M.le.trans hm33 hm46))), hS, RV_of_bool⟩
 }
/- 23 -/
theorem c_hayloftref02_SameRow {W0 : World} {m : M} {w : World} {L : List (Nat × List Value)} {TL : List (Nat × Value)} (hS : S W0 m w (L) (TL)) {v0 : Value} {p0 : (List Api_Value)} (ha0 : RV (kSl kApi_Value) m v0 p0) {v1 : Value} {p1 : (List Api_Value)} (ha1 : RV (kSl kApi_Value) m v1 p1) {r : Bool} (h : hayloftref02_SameRow p0 p1 = some r) :
    Calls Try.prog 23 [v0, v1].toArray w (Ret fun v w' => ∃ m', M.le m m' ∧ S W0 m' w' (L) (TL) ∧ RV kBool m' v r) := by
 refine kcall Try.func23 rfl Try.ntmps23 (Nat.le_of_ble_eq_true rfl) fun a hE => ?_
 have hE : Env 26 a [(0, v0), (1, v1)] := hE
 unfold hayloftref02_SameRow at h
 refine kseq ?_
 refine kreg ?_
 refine sp hE (r_assign hE rfl) rfl fun a hE => ?_
 refine knil ?_
 refine kseq ?_
 refine kseq ?_
 refine kreg ?_
 refine sp hE (r_move hE rfl) rfl fun a hE => ?_
 refine sp hE (r_lenSl (k := kApi_Value) hE rfl rfl Try.underlying29 ha0) rfl fun a hE => ?_
 refine sp hE (r_move hE rfl) rfl fun a hE => ?_
 refine sp hE (r_lenSl (k := kApi_Value) hE rfl rfl Try.underlying29 ha1) rfl fun a hE => ?_
 refine sp hE (r_bin hE rfl rfl b_neq) rfl fun a hE => ?_
 refine knil ?_
 refine kif hE rfl (fun hd7 => ?_) (fun hd7 => ?_)
 {
 have h := ite_T hd7 h
 refine kseq ?_
 refine kreg ?_
 refine sp hE (r_assign hE rfl) rfl fun a hE => ?_
 refine knil ?_
 refine kret ?_
 obtain rfl := Option.some.inj h
 try dsimp only
 refine Fin.mk (fn := Try.f23) hE (rs := [.tmp 4]) rfl (ResL.tmp hE rfl ResL.nil) ?_
 exact ⟨_, (M.le.refl _), hS, RV_of_bool⟩
 }
 {
 have h := ite_F hd7 h
 refine kskip ?_
 refine kseq ?_
 refine kseq ?_
 refine kreg ?_
 refine sp hE (r_assign hE rfl) rfl fun a hE => ?_
 refine knil ?_
 refine kcut (fun a w => hayloftref02_SameRow_j1 = some r ∧ ∃ m', M.le m m' ∧ S W0 m' w (L) (TL) ∧ Env 26 a []) ?_ ?_
 {
 refine kblock ?_
 refine kloop h (fun (s : Int) a w => ∃ m', M.le m m' ∧ inR .i64 s ∧ S W0 m' w (L) (TL) ∧ Env 26 a [(0, v0), (1, v1), (5, (.int .i64 s))]) ?_ ?_
 {
 exact ⟨_, (M.le.refl _), (show inR .i64 0 from inR_lit (by decide)), hS, hE.cut ⟨rfl, rfl, rfl, trivial⟩⟩
 }
 {
 rintro x16 a w ⟨m14, hm15, hr17, hS, hE⟩ r18 h hb19
 have h : hayloftref02_SameRow_b1 p0 p1 x16 = some r18 := h
 unfold hayloftref02_SameRow_b1 at h
 refine kseq ?_
 refine kseq ?_
 refine kreg ?_
 refine sp hE (r_move hE rfl) rfl fun a hE => ?_
 refine sp hE (r_move hE rfl) rfl fun a hE => ?_
 refine sp hE (r_lenSl (k := kApi_Value) hE rfl rfl Try.underlying29 (ha0.mono hm15)) rfl fun a hE => ?_
 refine sp hE (r_bin hE rfl rfl b_lss) rfl fun a hE => ?_
 refine knil ?_
 refine kif hE rfl (fun hd24 => ?_) (fun hd24 => ?_)
 {
 have h := ite_T hd24 h
 refine kskip ?_
 refine kseq ?_
 refine kblock ?_
 refine kseq ?_
 obtain ⟨x25, hx26, h⟩ := ob h
 obtain ⟨x29, hx30, h⟩ := ob h
 refine kchain (k := 8) (m := m14) (es := []) (Φ := (fun i m ws v => match i with | 0 => v = v0 | 1 => v = (.int .i64 x16) ∧ inR .i64 x16 | 2 => PR kApi_Value m v x25 | 3 => RV kApi_Value m v x25 | 4 => v = v1 | 5 => v = (.int .i64 x16) ∧ inR .i64 x16 | 6 => PR kApi_Value m v x29 | 7 => RV kApi_Value m v x29 | _ => True)) (Q := (fun c m ws L' TL' => match c with | 0 => L = L' ∧ TL = TL' | _ => False)) (cs := [⟨0, 0, false, [(0, v0)]⟩, ⟨0, 0, false, [(5, (.int .i64 x16))]⟩, ⟨0, 0, false, []⟩, ⟨0, 0, false, []⟩, ⟨0, 0, false, [(1, v1)]⟩, ⟨0, 0, false, [(5, (.int .i64 x16))]⟩, ⟨0, 0, false, []⟩, ⟨0, 0, false, []⟩]) mixed hE hS ⟨rfl, rfl⟩ rfl rfl ⟨⟨rfl, trivial⟩, ⟨rfl, trivial⟩, trivial, trivial, ⟨rfl, trivial⟩, ⟨rfl, trivial⟩, trivial, trivial, trivial⟩ (by kernel_rfl) ?_ ?_ ?_ ?_
 {
 intro i m_ m2_ ws v hm_ hp_
 match i, hp_ with
 | 0, hp_ => exact hp_
 | 1, hp_ => exact hp_
 | 2, hp_ => exact PR.mono hp_ hm_
 | 3, hp_ => exact RV.mono hp_ hm_
 | 4, hp_ => exact hp_
 | 5, hp_ => exact hp_
 | 6, hp_ => exact PR.mono hp_ hm_
 | 7, hp_ => exact RV.mono hp_ hm_
 | _ + 8, hp_ => exact trivial
 }
 {
 intro c m_ m2_ ws L_ T_ hm_ hq_
 match c, hq_ with
 | 0, ⟨e1_, e2_⟩ => exact ⟨e1_, e2_⟩
 | _ + 1, hq_ => exact hq_.elim
 }
 {
 refine ⟨?_, ?_, ?_, ?_, ?_, ?_, ?_, ?_, trivial⟩
 {
 refine cplain fun pre_ post_ L_ T_ m' a' w' hl' hp' hm' hq' hS' hE' hT' => ?_
 obtain rfl := len0 hl'
 refine Step.imp (Run1.pure (r_move hE' rfl)) ?_
 rintro _ _ ⟨rfl, rfl⟩
 exact ⟨_, M.le.refl _, hS', rfl⟩
 }
 {
 refine cplain fun pre_ post_ L_ T_ m' a' w' hl' hp' hm' hq' hS' hE' hT' => ?_
 obtain rfl := len0 hl'
 refine Step.imp (Run1.pure (r_move hE' rfl)) ?_
 rintro _ _ ⟨rfl, rfl⟩
 exact ⟨_, M.le.refl _, hS', ⟨rfl, hr17⟩⟩
 }
 {
 refine cplain fun pre_ post_ L_ T_ m' a' w' hl' hp' hm' hq' hS' hE' hT' => ?_
 obtain rfl := len0 hl'
 obtain ⟨v35, e36, q37⟩ : ∃ v, a'.tmps.getD 17 undef = v ∧ (v = v0) := ⟨_, rfl, hT' 0 (by decide) 17 rfl⟩
 have hE := hE'.add (e36.trans q37)
 obtain ⟨v38, e39, q40⟩ : ∃ v, a'.tmps.getD 18 undef = v ∧ (v = (.int .i64 x16) ∧ inR .i64 x16) := ⟨_, rfl, hT' 1 (by decide) 18 rfl⟩
 obtain ⟨q40, hr41⟩ := q40
 have hE := hE.add (e39.trans q40)
 refine Step.imp (st_index (k := kApi_Value) hE rfl rfl Try.underlying29 Try.sizeOf53 (ha0.mono (M.le.trans hm15 hm')) hx26) ?_
 rintro v42 _ ⟨rfl, hp27⟩
 exact ⟨_, M.le.refl _, hS', hp27⟩
 }
 {
 refine cplain fun pre_ post_ L_ T_ m' a' w' hl' hp' hm' hq' hS' hE' hT' => ?_
 obtain rfl := len0 hl'
 obtain ⟨v43, e44, q45⟩ : ∃ v, a'.tmps.getD 19 undef = v ∧ (PR kApi_Value m' v x25) := ⟨_, rfl, hT' 2 (by decide) 19 rfl⟩
 have hE := hE'.add (e44)
 refine Step.imp (st_loadM hE hS' ty53 rfl q45) ?_
 rintro v46 _ ⟨rfl, hv28⟩
 exact ⟨_, M.le.refl _, hS', hv28⟩
 }
 {
 refine cplain fun pre_ post_ L_ T_ m' a' w' hl' hp' hm' hq' hS' hE' hT' => ?_
 obtain rfl := len0 hl'
 refine Step.imp (Run1.pure (r_move hE' rfl)) ?_
 rintro _ _ ⟨rfl, rfl⟩
 exact ⟨_, M.le.refl _, hS', rfl⟩
 }
 {
 refine cplain fun pre_ post_ L_ T_ m' a' w' hl' hp' hm' hq' hS' hE' hT' => ?_
 obtain rfl := len0 hl'
 refine Step.imp (Run1.pure (r_move hE' rfl)) ?_
 rintro _ _ ⟨rfl, rfl⟩
 exact ⟨_, M.le.refl _, hS', ⟨rfl, hr17⟩⟩
 }
 {
 refine cplain fun pre_ post_ L_ T_ m' a' w' hl' hp' hm' hq' hS' hE' hT' => ?_
 obtain rfl := len0 hl'
 obtain ⟨v49, e50, q51⟩ : ∃ v, a'.tmps.getD 21 undef = v ∧ (v = v1) := ⟨_, rfl, hT' 4 (by decide) 21 rfl⟩
 have hE := hE'.add (e50.trans q51)
 obtain ⟨v52, e53, q54⟩ : ∃ v, a'.tmps.getD 22 undef = v ∧ (v = (.int .i64 x16) ∧ inR .i64 x16) := ⟨_, rfl, hT' 5 (by decide) 22 rfl⟩
 obtain ⟨q54, hr55⟩ := q54
 have hE := hE.add (e53.trans q54)
 refine Step.imp (st_index (k := kApi_Value) hE rfl rfl Try.underlying29 Try.sizeOf53 (ha1.mono (M.le.trans hm15 hm')) hx30) ?_
 rintro v56 _ ⟨rfl, hp31⟩
 exact ⟨_, M.le.refl _, hS', hp31⟩
 }
 {
 refine cplain fun pre_ post_ L_ T_ m' a' w' hl' hp' hm' hq' hS' hE' hT' => ?_
 obtain rfl := len0 hl'
 obtain ⟨v57, e58, q59⟩ : ∃ v, a'.tmps.getD 23 undef = v ∧ (PR kApi_Value m' v x29) := ⟨_, rfl, hT' 6 (by decide) 23 rfl⟩
 have hE := hE'.add (e58)
 refine Step.imp (st_loadM hE hS' ty53 rfl q59) ?_
 rintro v60 _ ⟨rfl, hv32⟩
 exact ⟨_, M.le.refl _, hS', hv32⟩
 }
 }
 {
 intro ws_ L_ T_ m61 a w hl62 hm63 hq64 hS hd65 hn66 ho67 hT68
 obtain rfl := len0 hl62
 obtain ⟨rfl, rfl⟩ := hq64
 have hE := Env.of (k := 8) (l' := [(0, v0), (1, v1), (5, (.int .i64 x16)), (11, (.int .i64 x16)), (12, v0), (13, (.int .i64 (p0.length : Int))), (14, (.bool (decide (x16 < (p0.length : Int)))))]) hd65 hn66 ho67 ⟨rfl, rfl, rfl, rfl, rfl, rfl, rfl, trivial⟩ rfl
 obtain ⟨v69, e70, q71⟩ : ∃ v, a.tmps.getD 20 undef = v ∧ (RV kApi_Value m61 v x25) := ⟨_, rfl, hT68 3 (by decide) 20 rfl⟩
 have hE := hE.add (e70)
 obtain ⟨v72, e73, q74⟩ : ∃ v, a.tmps.getD 24 undef = v ∧ (RV kApi_Value m61 v x29) := ⟨_, rfl, hT68 7 (by decide) 24 rfl⟩
 have hE := hE.add (e73)
 refine sp hE (r_neqK hE eq53 rfl rfl q71 q74 rfl) rfl fun a hE => ?_
 refine knil ?_
 refine kif hE rfl (fun hd76 => ?_) (fun hd76 => ?_)
 {
 have h := ite_T hd76 h
 refine kseq ?_
 refine kreg ?_
 refine sp hE (r_assign hE rfl) rfl fun a hE => ?_
 refine knil ?_
 refine kret ?_
 have h := unwrap h hb19
 obtain rfl := Option.some.inj h
 try dsimp only
 refine Fin.mk (fn := Try.f23) hE (rs := [.tmp 4]) rfl (ResL.tmp hE rfl ResL.nil) ?_
 exact ⟨_, (M.le.trans hm15 hm63), hS, RV_of_bool⟩
 }
 {
 have h := ite_F hd76 h
 refine kskip ?_
 refine kreg ?_
 refine sp hE (r_move hE rfl) rfl fun a hE => ?_
 refine sp hE (r_bin hE rfl rfl (b_add rfl)) rfl fun a hE => ?_
 refine sp hE (r_assign hE rfl) rfl fun a hE => ?_
 refine knil ?_
 exact ⟨IntKind.i64.wrap (x16 + 1), (Option.some.inj h).symm, _, (M.le.trans hm15 hm63), (inR_wrap _ _), hS, hE.cut ⟨rfl, rfl, rfl, trivial⟩⟩
 }
 }
 }
 {
 have h := ite_F hd24 h
 refine kexit rfl rfl ?_
 have h := unwrap h hb19
 exact ⟨h, _, hm15, hS, hE.cut trivial⟩
 }
 }
 }
 {
 rintro a w ⟨h, m10, hm11, hS, hE⟩
 unfold hayloftref02_SameRow_j1 at h
 refine kseq ?_
 refine kreg ?_
 refine sp hE (r_assign hE rfl) rfl fun a hE => ?_
 refine knil ?_
 refine kret ?_
 obtain rfl := Option.some.inj h
 try dsimp only
 refine Fin.mk (fn := Try.f23) hE (rs := [.tmp 4]) rfl (ResL.tmp hE rfl ResL.nil) ?_
 exact ⟨_, hm11, hS, RV_of_bool⟩
 }
 }
/- 4 -/
/- 5 -/
/- 26 -/
/- 6 -/
end Go.Proofs.Ytifobhaccglckaa.Hay
