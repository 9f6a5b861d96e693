import Derived.Test.YtifobhaccglckaaSeC3
set_option maxRecDepth 100000
set_option maxHeartbeats 4000000
set_option linter.unusedVariables false
namespace Go.Proofs.Ytifobhaccglckaa.Hay
open Go.Proofs
/- 7 -/
/- 8 -/
theorem c_hayloftlaw06_EncodeCuts {W0 : World} {m : M} {w : World} {L : List (Nat × List Value)} {TL : List (Nat × Value)} (hS : S W0 m w (L) (TL)) {p0 : Int} (ha0 : inR .i64 p0) {v1 : Value} {p1 : (List Api_Value)} (ha1 : RV (kSl kApi_Value) m v1 p1) {p2 : Int} (ha2 : inR .i64 p2) {r : Bool} (h : hayloftlaw06_EncodeCuts p0 p1 p2 = some r) :
    Calls Try.prog 8 [(.int .i64 p0), v1, (.int .i64 p2)].toArray w (Ret fun v w' => ∃ m', M.le m m' ∧ S W0 m' w' (L) (TL) ∧ RV kBool m' v r) := by
 refine kcall Try.func8 rfl Try.ntmps8 (Nat.le_of_ble_eq_true rfl) fun a hE => ?_
 have hE : Env 65 a [(0, (.int .i64 p0)), (1, v1), (2, (.int .i64 p2))] := hE
 unfold hayloftlaw06_EncodeCuts at h
 refine kseq ?_
 refine kreg ?_
 refine sp hE (r_assign hE rfl) rfl fun a hE => ?_
 refine knil ?_
 refine kseq ?_
 refine kreg ?_
 refine sp hE (r_move hE rfl) rfl fun a hE => ?_
 refine sp hE (r_move hE rfl) rfl fun a hE => ?_
 obtain ⟨r4, hr5, h⟩ := ob h
 refine st hE (st_call (vs := [(.int .i64 p0), v1]) hE rfl Try.call24 (c_encode_Encode (hS := hS) ha0 ha1 hr5)) rfl ?_
 rintro _ a w ⟨m6, hm7, hS, v0_8, v1_9, rfl, hv0_10, hv1_11⟩ hE
 obtain ⟨rfl, hr13⟩ := RV_int hv1_11
 refine sp hE (r_move hE rfl) rfl fun a hE => ?_
 refine sp hE (r_extract hE rfl rfl) rfl fun a hE => ?_
 refine sp hE (r_extract hE rfl rfl) rfl fun a hE => ?_
 refine sp hE (r_assign hE rfl) rfl fun a hE => ?_
 refine sp hE (r_assign hE rfl) rfl fun a hE => ?_
 refine knil ?_
 refine kseq ?_
 refine kseq ?_
 refine kcut (fun a w => ∃ x21 : Bool, hayloftlaw06_EncodeCuts_j1 p0 p1 p2 r4 x21 = some r ∧ ∃ m', M.le m6 m' ∧ S W0 m' w (L) (TL) ∧ Env 65 a [(0, (.int .i64 p0)), (1, v1), (2, (.int .i64 p2)), (7, v0_8), (30, (.bool x21))]) ?_ ?_
 {
 refine kreg ?_
 refine sp hE (r_move hE rfl) rfl fun a hE => ?_
 refine sp hE (r_bin hE rfl rfl b_neq) rfl fun a hE => ?_
 refine sp hE (r_move hE rfl) rfl fun a hE => ?_
 rcases Bool.eq_false_or_eq_true (r4.2 != 0) with hd126 | hd126
 {
 have h := ite_T hd126 h
 refine sx hE rfl rfl rfl rfl hd126 rfl fun a hE => ?_
 refine sx hE rfl rfl rfl rfl hd126 rfl fun a hE => ?_
 refine sp hE (r_pickT hE rfl hd126 rfl) rfl fun a hE => ?_
 refine sp hE (r_move hE rfl) rfl fun a hE => ?_
 refine sx hE rfl rfl rfl rfl rfl rfl fun a hE => ?_
 refine sx hE rfl rfl rfl rfl rfl rfl fun a hE => ?_
 refine sx hE rfl rfl rfl rfl rfl rfl fun a hE => ?_
 refine sx hE rfl rfl rfl rfl rfl rfl fun a hE => ?_
 refine sp hE (r_pickT hE rfl rfl rfl) rfl fun a hE => ?_
 refine knil ?_
 exact ⟨true, h, _, (M.le.refl _), hS, hE.cut ⟨rfl, rfl, rfl, rfl, rfl, trivial⟩⟩
 }
 {
 have h := ite_F hd126 h
 refine spg hE rfl rfl rfl rfl hd126 (r_move hE rfl) rfl fun a hE => ?_
 refine spg hE rfl rfl rfl rfl hd126 (r_bin hE rfl rfl b_lss) rfl fun a hE => ?_
 refine sp hE (r_pickF hE rfl hd126 rfl) rfl fun a hE => ?_
 refine sp hE (r_move hE rfl) rfl fun a hE => ?_
 rcases Bool.eq_false_or_eq_true (decide (p2 < 0)) with hd134 | hd134
 {
 have h := ite_T hd134 h
 refine sx hE rfl rfl rfl rfl hd134 rfl fun a hE => ?_
 refine sx hE rfl rfl rfl rfl hd134 rfl fun a hE => ?_
 refine sx hE rfl rfl rfl rfl hd134 rfl fun a hE => ?_
 refine sx hE rfl rfl rfl rfl hd134 rfl fun a hE => ?_
 refine sp hE (r_pickT hE rfl hd134 rfl) rfl fun a hE => ?_
 refine knil ?_
 exact ⟨true, h, _, (M.le.refl _), hS, hE.cut ⟨rfl, rfl, rfl, rfl, rfl, trivial⟩⟩
 }
 {
 have h := ite_F hd134 h
 refine spg hE rfl rfl rfl rfl hd134 (r_move hE rfl) rfl fun a hE => ?_
 refine spg hE rfl rfl rfl rfl hd134 (r_move hE rfl) rfl fun a hE => ?_
 refine spg hE rfl rfl rfl rfl hd134 (r_lenSl (k := (kInt .u8)) hE rfl rfl Try.underlying37 hv0_10) rfl fun a hE => ?_
 refine spg hE rfl rfl rfl rfl hd134 (r_bin hE rfl rfl b_geq) rfl fun a hE => ?_
 refine sp hE (r_pickF hE rfl hd134 rfl) rfl fun a hE => ?_
 refine knil ?_
 exact ⟨(decide ((r4.1.length : Int) ≤ p2)), h, _, (M.le.refl _), hS, hE.cut ⟨rfl, rfl, rfl, rfl, rfl, trivial⟩⟩
 }
 }
 }
 {
 rintro a w ⟨x21, h, m19, hm20, hS, hE⟩
 unfold hayloftlaw06_EncodeCuts_j1 at h
 refine kif hE rfl (fun hd23 => ?_) (fun hd23 => ?_)
 {
 have h := ite_T hd23 h
 refine kseq ?_
 refine kreg ?_
 obtain ⟨r24, hr25, h⟩ := ob h
 refine st hE (st_call (vs := []) hE rfl Try.call22 (c_hayloftlaw06_alive (hS := hS) hr25)) rfl ?_
 rintro v29 a w ⟨m26, hm27, hS, hv28⟩ hE
 obtain rfl := RV_bool hv28
 refine sp hE (r_assign hE rfl) rfl fun a hE => ?_
 refine knil ?_
 refine kret ?_
 obtain rfl := Option.some.inj h
 try dsimp only
 refine Fin.mk (fn := Try.f8) hE (rs := [.tmp 6]) rfl (ResL.tmp hE rfl ResL.nil) ?_
 exact ⟨_, (M.le.trans hm7 (M.le.trans hm20 hm27)), hS, RV_of_bool⟩
 }
 {
 have h := ite_F hd23 h
 refine kskip ?_
 refine kseq ?_
 refine kreg ?_
 refine sp hE (r_move hE rfl) rfl fun a hE => ?_
 refine sp hE (r_move hE rfl) rfl fun a hE => ?_
 refine sp hE (r_move hE rfl) rfl fun a hE => ?_
 obtain ⟨x34, hx35, h⟩ := ob h
 refine st hE (st_slice (k := (kInt .u8)) hE rfl Try.underlying37 Try.sizeOf5 (hv0_10.mono hm20) rfl ⟨_, rfl⟩ hx35 (xl := none) (xh := (some (.tmp 35)))) rfl ?_
 rintro v37 a _ ⟨rfl, hv36⟩ hE
 refine sp hE (r_move hE rfl) rfl fun a hE => ?_
 refine sp hE (r_lenSl (k := kApi_Value) hE rfl rfl Try.underlying29 (ha1.mono (M.le.trans hm7 hm20))) rfl fun a hE => ?_
 obtain ⟨r40, hr41, h⟩ := ob h
 refine st hE (st_call (vs := [(.int .i64 p0), v37, (.int .i64 (p1.length : Int))]) hE rfl Try.call20 (c_encode_Decode (hS := hS) ha0 hv36 (inR_len (RV_len (ha1.mono (M.le.trans hm7 hm20)))) hr41)) rfl ?_
 rintro _ a w ⟨m42, hm43, hS, v0_44, v1_45, rfl, hv0_46, hv1_47⟩ hE
 obtain ⟨rfl, hr49⟩ := RV_int hv1_47
 refine sp hE (r_move hE rfl) rfl fun a hE => ?_
 refine sp hE (r_extract hE rfl rfl) rfl fun a hE => ?_
 refine sp hE (r_extract hE rfl rfl) rfl fun a hE => ?_
 refine sp hE (r_assign hE rfl) rfl fun a hE => ?_
 refine sp hE (r_assign hE rfl) rfl fun a hE => ?_
 refine knil ?_
 refine kseq ?_
 refine kreg ?_
 refine sp hE (r_move hE rfl) rfl fun a hE => ?_
 refine st hE (st_lit (k := (kInt .u8)) (xs := []) (vs := []) hE hS rfl Try.underlying37 Try.sizeOf5 Try.zeroValue5 trivial rfl (by decide)) rfl ?_
 rintro v59 a w ⟨m57, hm58, hS, hv56⟩ hE
 refine sp hE (r_move hE rfl) rfl fun a hE => ?_
 obtain ⟨z61, hz62, h⟩ := ob h
 refine st hE (st_app (k := (kInt .u8)) (N := 140737488355328) hE hS rfl rfl Try.underlying37 Try.underlying37 el5 (i := 0) rfl hv56 (hv0_10.mono (M.le.trans hm20 (M.le.trans hm43 hm58))) hz62 rfl rfl) rfl ?_
 rintro v66 a w ⟨m64, hm65, hS, hv63⟩ hE
 refine sp hE (r_move hE rfl) rfl fun a hE => ?_
 refine sp hE (r_conv hE rfl Try.underlying3 Try.underlying5 rfl) rfl fun a hE => ?_
 refine st hE (st_lit (k := (kInt .u8)) (xs := [IntKind.u8.wrap p2]) (vs := [(.int .u8 (IntKind.u8.wrap p2))]) hE hS rfl Try.underlying37 Try.sizeOf5 Try.zeroValue5 ⟨(RV_of_int (inR_wrap _ _)), trivial⟩ rfl (by decide)) rfl ?_
 rintro v72 a w ⟨m70, hm71, hS, hv69⟩ hE
 obtain ⟨z73, hz74, h⟩ := ob h
 refine st hE (st_app (k := (kInt .u8)) (N := 140737488355328) hE hS rfl rfl Try.underlying37 Try.underlying37 el5 (i := 1) rfl (hv63.mono hm71) hv69 hz74 rfl rfl) rfl ?_
 rintro v78 a w ⟨m76, hm77, hS, hv75⟩ hE
 refine sp hE (r_move hE rfl) rfl fun a hE => ?_
 refine sp hE (r_lenSl (k := kApi_Value) hE rfl rfl Try.underlying29 (ha1.mono (M.le.trans hm7 (M.le.trans hm20 (M.le.trans hm43 (M.le.trans hm58 (M.le.trans hm65 (M.le.trans hm71 hm77)))))))) rfl fun a hE => ?_
 obtain ⟨r81, hr82, h⟩ := ob h
 refine st hE (st_call (vs := [(.int .i64 p0), v78, (.int .i64 (p1.length : Int))]) hE rfl Try.call20 (c_encode_Decode (hS := hS) ha0 hv75 (inR_len (RV_len (ha1.mono (M.le.trans hm7 (M.le.trans hm20 (M.le.trans hm43 (M.le.trans hm58 (M.le.trans hm65 (M.le.trans hm71 hm77))))))))) hr82)) rfl ?_
 rintro _ a w ⟨m83, hm84, hS, v0_85, v1_86, rfl, hv0_87, hv1_88⟩ hE
 obtain ⟨rfl, hr90⟩ := RV_int hv1_88
 refine sp hE (r_move hE rfl) rfl fun a hE => ?_
 refine sp hE (r_extract hE rfl rfl) rfl fun a hE => ?_
 refine sp hE (r_extract hE rfl rfl) rfl fun a hE => ?_
 refine sp hE (r_assign hE rfl) rfl fun a hE => ?_
 refine sp hE (r_assign hE rfl) rfl fun a hE => ?_
 refine knil ?_
 refine kseq ?_
 refine kcut (fun a w => ∃ x98 : Bool, hayloftlaw06_EncodeCuts_j2 x98 = some r ∧ ∃ m', M.le m83 m' ∧ S W0 m' w (L) (TL) ∧ Env 65 a [(6, (.bool x98))]) ?_ ?_
 {
 refine kreg ?_
 obtain ⟨r100, hr101, h⟩ := ob h
 refine st hE (st_call (vs := []) hE rfl Try.call22 (c_hayloftlaw06_alive (hS := hS) hr101)) rfl ?_
 rintro v105 a w ⟨m102, hm103, hS, hv104⟩ hE
 obtain rfl := RV_bool hv104
 refine sp hE (r_move hE rfl) rfl fun a hE => ?_
 rcases Bool.eq_false_or_eq_true r100 with hd107 | hd107
 {
 have h := ite_T hd107 h
 refine spg hE rfl rfl rfl rfl hd107 (r_move hE rfl) rfl fun a hE => ?_
 refine spg hE rfl rfl rfl rfl hd107 (r_bin hE rfl rfl b_eql) rfl fun a hE => ?_
 refine sp hE (r_pickT hE rfl hd107 rfl) rfl fun a hE => ?_
 refine sp hE (r_move hE rfl) rfl fun a hE => ?_
 rcases Bool.eq_false_or_eq_true (r40.2 == 60) with hd112 | hd112
 {
 have h := ite_T hd112 h
 refine spg hE rfl rfl rfl rfl hd112 (r_move hE rfl) rfl fun a hE => ?_
 refine spg hE rfl rfl rfl rfl hd112 (r_bin hE rfl rfl b_eql) rfl fun a hE => ?_
 refine sp hE (r_pickT hE rfl hd112 rfl) rfl fun a hE => ?_
 refine sp hE (r_assign hE rfl) rfl fun a hE => ?_
 refine knil ?_
 exact ⟨(r81.2 == 60), h, _, hm103, (hS.pickT 2 [] rfl rfl rfl), hE.cut ⟨rfl, trivial⟩⟩
 }
 {
 have h := ite_F hd112 h
 refine sx hE rfl rfl rfl rfl hd112 rfl fun a hE => ?_
 refine sx hE rfl rfl rfl rfl hd112 rfl fun a hE => ?_
 refine sp hE (r_pickF hE rfl hd112 rfl) rfl fun a hE => ?_
 refine sp hE (r_assign hE rfl) rfl fun a hE => ?_
 refine knil ?_
 exact ⟨false, h, _, hm103, (hS.pickT 2 [] rfl rfl rfl), hE.cut ⟨rfl, trivial⟩⟩
 }
 }
 {
 have h := ite_F hd107 h
 refine sx hE rfl rfl rfl rfl hd107 rfl fun a hE => ?_
 refine sx hE rfl rfl rfl rfl hd107 rfl fun a hE => ?_
 refine sp hE (r_pickF hE rfl hd107 rfl) rfl fun a hE => ?_
 refine sp hE (r_move hE rfl) rfl fun a hE => ?_
 refine sx hE rfl rfl rfl rfl rfl rfl fun a hE => ?_
 refine sx hE rfl rfl rfl rfl rfl rfl fun a hE => ?_
 refine sp hE (r_pickF hE rfl rfl rfl) rfl fun a hE => ?_
 refine sp hE (r_assign hE rfl) rfl fun a hE => ?_
 refine knil ?_
 exact ⟨false, h, _, hm103, (hS.pickT 2 [] rfl rfl rfl), hE.cut ⟨rfl, trivial⟩⟩
 }
 }
 {
 rintro a w ⟨x98, h, m96, hm97, hS, hE⟩
 unfold hayloftlaw06_EncodeCuts_j2 at h
 refine kret ?_
 obtain rfl := Option.some.inj h
 try dsimp only
 refine Fin.mk (fn := Try.f8) hE (rs := [.tmp 6]) rfl (ResL.tmp hE rfl ResL.nil) ?_
 exact ⟨_, (M.le.trans hm7 (M.le.trans hm20 (M.le.trans hm43 (M.le.trans hm58 (M.le.trans hm65 (M.le.trans hm71 (M.le.trans hm77 (M.le.trans hm84 hm97)))))))), hS, RV_of_bool⟩
 }
 }
 }
/- 9 -/
/- 15 -/
/- 30 -/
/- 10 -/
end Go.Proofs.Ytifobhaccglckaa.Hay
