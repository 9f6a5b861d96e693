import Derived.Test.YtifobhaccglckaaSeC3
set_option maxRecDepth 100000
set_option maxHeartbeats 4000000
set_option linter.unusedVariables false
namespace Go.Proofs.Ytifobhaccglckaa.Hay
open Go.Proofs
/- 7 -/
/- 8 -/
/- 9 -/
/- 15 -/
theorem c_hayloftref02_Copy {W0 : World} {m : M} {w : World} {L : List (Nat × List Value)} {TL : List (Nat × Value)} (hS : S W0 m w (L) (TL)) {v0 : Value} {p0 : (List Api_Value)} (ha0 : RV (kSl kApi_Value) m v0 p0) {r : (List Api_Value)} (h : hayloftref02_Copy p0 = some r) :
    Calls Try.prog 15 [v0].toArray w (Ret fun v w' => ∃ m', M.le m m' ∧ S W0 m' w' (L) ((4, v) :: TL) ∧ RV (kSl kApi_Value) m' v r) := by
 refine kcall Try.func15 rfl Try.ntmps15 (Nat.le_of_ble_eq_true rfl) fun a hE => ?_
 have hE : Env 6 a [(0, v0)] := hE
 unfold hayloftref02_Copy at h
 refine kseq ?_
 refine kreg ?_
 refine sp hE (r_assign hE rfl) rfl fun a hE => ?_
 refine knil ?_
 refine kseq ?_
 refine kreg ?_
 refine st hE (st_lit (k := kApi_Value) (xs := []) (vs := []) hE hS rfl Try.underlying29 Try.sizeOf53 Try.zeroValue53 trivial rfl (by decide)) rfl ?_
 rintro v5 a w ⟨m3, hm4, hS, hv2⟩ hE
 refine sp hE (r_move hE rfl) rfl fun a hE => ?_
 obtain ⟨z7, hz8, h⟩ := ob h
 refine st hE (st_app (k := kApi_Value) (N := 3518437208883) hE hS rfl rfl Try.underlying29 Try.underlying29 el53 (i := 0) rfl hv2 (ha0.mono hm4) hz8 rfl rfl) rfl ?_
 rintro v12 a w ⟨m10, hm11, hS, hv9⟩ hE
 refine sp hE (r_assign hE rfl) rfl fun a hE => ?_
 refine knil ?_
 refine kret ?_
 obtain rfl := Option.some.inj h
 try dsimp only
 refine Fin.mk (fn := Try.f15) hE (rs := [.tmp 2]) rfl (ResL.tmp hE rfl ResL.nil) ?_
 exact ⟨_, (M.le.trans hm4 hm11), (hS.pickT 1 [0] rfl rfl rfl), hv9⟩
/- 30 -/
theorem c_encode_Can {W0 : World} {m : M} {w : World} {L : List (Nat × List Value)} {TL : List (Nat × Value)} (hS : S W0 m w (L) (TL)) {p0 : Int} (ha0 : inR .i64 p0) {v1 : Value} {p1 : (List Api_Value)} (ha1 : RV (kSl kApi_Value) m v1 p1) {r : Bool} (h : encode_Can p0 p1 = some r) :
    Calls Try.prog 30 [(.int .i64 p0), v1].toArray w (Ret fun v w' => ∃ m', M.le m m' ∧ S W0 m' w' (L) (TL) ∧ RV kBool m' v r) := by
 refine kcall Try.func30 rfl Try.ntmps30 (Nat.le_of_ble_eq_true rfl) fun a hE => ?_
 have hE : Env 15 a [(0, (.int .i64 p0)), (1, v1)] := hE
 unfold encode_Can at h
 refine kseq ?_
 refine kreg ?_
 refine sp hE (r_assign hE rfl) rfl fun a hE => ?_
 refine knil ?_
 refine kseq ?_
 refine kreg ?_
 refine sp hE (r_move hE rfl) rfl fun a hE => ?_
 refine sp hE (r_move hE rfl) rfl fun a hE => ?_
 obtain ⟨r4, hr5, h⟩ := ob h
 refine st hE (st_call (vs := [(.int .i64 p0), v1]) hE rfl Try.call24 (c_encode_Encode (hS := hS) ha0 ha1 hr5)) rfl ?_
 rintro _ a w ⟨m6, hm7, hS, v0_8, v1_9, rfl, hv0_10, hv1_11⟩ hE
 obtain ⟨rfl, hr13⟩ := RV_int hv1_11
 refine sp hE (r_move hE rfl) rfl fun a hE => ?_
 refine sp hE (r_extract hE rfl rfl) rfl fun a hE => ?_
 refine sp hE (r_extract hE rfl rfl) rfl fun a hE => ?_
 refine sp hE (r_assign hE rfl) rfl fun a hE => ?_
 refine sp hE (r_assign hE rfl) rfl fun a hE => ?_
 refine knil ?_
 refine kseq ?_
 refine kreg ?_
 refine sp hE (r_move hE rfl) rfl fun a hE => ?_
 refine sp hE (r_bin hE rfl rfl b_eql) rfl fun a hE => ?_
 refine sp hE (r_assign hE rfl) rfl fun a hE => ?_
 refine knil ?_
 refine kret ?_
 obtain rfl := Option.some.inj h
 try dsimp only
 refine Fin.mk (fn := Try.f30) hE (rs := [.tmp 4]) rfl (ResL.tmp hE rfl ResL.nil) ?_
 exact ⟨_, hm7, hS, RV_of_bool⟩
/- 10 -/
theorem c_hayloftlaw06_EncodeWrites {W0 : World} {m : M} {w : World} {L : List (Nat × List Value)} {TL : List (Nat × Value)} (hS : S W0 m w (L) (TL)) {p0 : Int} (ha0 : inR .i64 p0) {v1 : Value} {p1 : (List Api_Value)} (ha1 : RV (kSl kApi_Value) m v1 p1) {r : Bool} (h : hayloftlaw06_EncodeWrites p0 p1 = some r) :
    Calls Try.prog 10 [(.int .i64 p0), v1].toArray w (Ret fun v w' => ∃ m', M.le m m' ∧ S W0 m' w' (L) (TL) ∧ RV kBool m' v r) := by
 refine kcall Try.func10 rfl Try.ntmps10 (Nat.le_of_ble_eq_true rfl) fun a hE => ?_
 have hE : Env 50 a [(0, (.int .i64 p0)), (1, v1)] := hE
 unfold hayloftlaw06_EncodeWrites at h
 refine kseq ?_
 refine kreg ?_
 refine sp hE (r_assign hE rfl) rfl fun a hE => ?_
 refine knil ?_
 refine kseq ?_
 refine kreg ?_
 refine sp hE (r_move hE rfl) rfl fun a hE => ?_
 obtain ⟨r3, hr4, h⟩ := ob h
 refine st hE (st_call (vs := [v1]) hE rfl Try.call15 (c_hayloftref02_Copy (hS := hS) ha1 hr4)) rfl ?_
 rintro v8 a w ⟨m5, hm6, hS, hv7⟩ hE
 refine sp hE (r_assign hE rfl) rfl fun a hE => ?_
 refine knil ?_
 refine kseq ?_
 refine kreg ?_
 refine sp hE (r_move hE rfl) rfl fun a hE => ?_
 refine sp hE (r_move hE rfl) rfl fun a hE => ?_
 obtain ⟨r12, hr13, h⟩ := ob h
 refine st hE (st_call (vs := [(.int .i64 p0), v8]) hE rfl Try.call24 (c_encode_Encode (hS := hS) ha0 hv7 hr13)) rfl ?_
 rintro _ a w ⟨m14, hm15, hS, v0_16, v1_17, rfl, hv0_18, hv1_19⟩ hE
 obtain ⟨rfl, hr21⟩ := RV_int hv1_19
 refine sp hE (r_move hE rfl) rfl fun a hE => ?_
 refine sp hE (r_extract hE rfl rfl) rfl fun a hE => ?_
 refine sp hE (r_extract hE rfl rfl) rfl fun a hE => ?_
 refine sp hE (r_assign hE rfl) rfl fun a hE => ?_
 refine sp hE (r_assign hE rfl) rfl fun a hE => ?_
 refine knil ?_
 refine kseq ?_
 refine kreg ?_
 refine sp hE (r_move hE rfl) rfl fun a hE => ?_
 refine sp hE (r_move hE rfl) rfl fun a hE => ?_
 obtain ⟨r29, hr30, h⟩ := ob h
 refine st hE (st_call (vs := [(.int .i64 p0), v1]) hE rfl Try.call29 (c_hayloftref06_Encode (hS := hS) ha0 (ha1.mono (M.le.trans hm6 hm15)) hr30)) rfl ?_
 rintro _ a w ⟨m31, hm32, hS, v0_33, v1_34, rfl, hv0_35, hv1_36⟩ hE
 obtain ⟨rfl, hr38⟩ := RV_int hv1_36
 refine sp hE (r_move hE rfl) rfl fun a hE => ?_
 refine sp hE (r_extract hE rfl rfl) rfl fun a hE => ?_
 refine sp hE (r_extract hE rfl rfl) rfl fun a hE => ?_
 refine sp hE (r_assign hE rfl) rfl fun a hE => ?_
 refine sp hE (r_assign hE rfl) rfl fun a hE => ?_
 refine knil ?_
 refine kseq ?_
 refine kcut (fun a w => ∃ x46 : Bool, hayloftlaw06_EncodeWrites_j1 x46 = some r ∧ ∃ m', M.le m31 m' ∧ S W0 m' w (L) (TL) ∧ Env 50 a [(4, (.bool x46))]) ?_ ?_
 {
 refine kreg ?_
 obtain ⟨r48, hr49, h⟩ := ob h
 refine st hE (st_call (vs := []) hE rfl Try.call22 (c_hayloftlaw06_alive (hS := hS) hr49)) rfl ?_
 rintro v53 a w ⟨m50, hm51, hS, hv52⟩ hE
 obtain rfl := RV_bool hv52
 refine sp hE (r_move hE rfl) rfl fun a hE => ?_
 rcases Bool.eq_false_or_eq_true r48 with hd55 | hd55
 {
 have h := ite_T hd55 h
 refine spg hE rfl rfl rfl rfl hd55 (r_move hE rfl) rfl fun a hE => ?_
 refine spg hE rfl rfl rfl rfl hd55 (r_bytes hE hS rfl Try.underlying37 Try.underlying5 Try.underlying9 (hv0_18.mono (M.le.trans hm32 hm51))) rfl fun a hE => ?_
 refine spg hE rfl rfl rfl rfl hd55 (r_move hE rfl) rfl fun a hE => ?_
 refine spg hE rfl rfl rfl rfl hd55 (r_bytes hE hS rfl Try.underlying37 Try.underlying5 Try.underlying9 (hv0_35.mono hm51)) rfl fun a hE => ?_
 refine spg hE rfl rfl rfl rfl hd55 (r_eqlS hE rfl rfl (RV_bytes (hv0_18.mono (M.le.trans hm32 hm51))) (RV_bytes (hv0_35.mono hm51))) rfl fun a hE => ?_
 refine sp hE (r_pickT hE rfl hd55 rfl) rfl fun a hE => ?_
 refine sp hE (r_move hE rfl) rfl fun a hE => ?_
 rcases Bool.eq_false_or_eq_true (decide (r12.1 = r29.1)) with hd63 | hd63
 {
 have h := ite_T hd63 h
 refine spg hE rfl rfl rfl rfl hd63 (r_move hE rfl) rfl fun a hE => ?_
 refine spg hE rfl rfl rfl rfl hd63 (r_move hE rfl) rfl fun a hE => ?_
 refine spg hE rfl rfl rfl rfl hd63 (r_bin hE rfl rfl b_eql) rfl fun a hE => ?_
 refine sp hE (r_pickT hE rfl hd63 rfl) rfl fun a hE => ?_
 refine sp hE (r_move hE rfl) rfl fun a hE => ?_
 rcases Bool.eq_false_or_eq_true (r12.2 == r29.2) with hd69 | hd69
 {
 have h := ite_T hd69 h
 refine spg hE rfl rfl rfl rfl hd69 (r_move hE rfl) rfl fun a hE => ?_
 refine spg hE rfl rfl rfl rfl hd69 (r_move hE rfl) rfl fun a hE => ?_
 obtain ⟨r72, hr73, h⟩ := ob h
 refine stg hE rfl rfl rfl rfl hd69 (st_call (vs := [(.int .i64 p0), v1]) hE rfl Try.call30 (c_encode_Can (hS := hS) ha0 (ha1.mono (M.le.trans hm6 (M.le.trans hm15 (M.le.trans hm32 hm51)))) hr73)) rfl ?_
 rintro v77 a w ⟨m74, hm75, hS, hv76⟩ hE
 obtain rfl := RV_bool hv76
 refine spg hE rfl rfl rfl rfl hd69 (r_move hE rfl) rfl fun a hE => ?_
 refine spg hE rfl rfl rfl rfl hd69 (r_bin hE rfl rfl b_eql) rfl fun a hE => ?_
 refine spg hE rfl rfl rfl rfl hd69 (r_eqlB hE rfl rfl Try.underlying4) rfl fun a hE => ?_
 refine sp hE (r_pickT hE rfl hd69 rfl) rfl fun a hE => ?_
 refine sp hE (r_move hE rfl) rfl fun a hE => ?_
 rcases Bool.eq_false_or_eq_true (r72 == (r29.2 == 0)) with hd83 | hd83
 {
 have h := ite_T hd83 h
 refine spg hE rfl rfl rfl rfl hd83 (r_move hE rfl) rfl fun a hE => ?_
 refine spg hE rfl rfl rfl rfl hd83 (r_move hE rfl) rfl fun a hE => ?_
 obtain ⟨r86, hr87, h⟩ := ob h
 refine stg hE rfl rfl rfl rfl hd83 (st_call (vs := [v8, v1]) hE rfl Try.call23 (c_hayloftref02_SameRow (hS := hS) (hv7.mono (M.le.trans hm15 (M.le.trans hm32 (M.le.trans hm51 hm75)))) (ha1.mono (M.le.trans hm6 (M.le.trans hm15 (M.le.trans hm32 (M.le.trans hm51 hm75))))) hr87)) rfl ?_
 rintro v91 a w ⟨m88, hm89, hS, hv90⟩ hE
 obtain rfl := RV_bool hv90
 refine sp hE (r_pickT hE rfl hd83 rfl) rfl fun a hE => ?_
 refine sp hE (r_assign hE rfl) rfl fun a hE => ?_
 refine knil ?_
 exact ⟨r86, h, _, (M.le.trans hm51 (M.le.trans hm75 hm89)), (hS.pickT 1 [] rfl rfl rfl), hE.cut ⟨rfl, trivial⟩⟩
 }
 {
 have h := ite_F hd83 h
 refine sx hE rfl rfl rfl rfl hd83 rfl fun a hE => ?_
 refine sx hE rfl rfl rfl rfl hd83 rfl fun a hE => ?_
 refine sx hE rfl rfl rfl rfl hd83 rfl fun a hE => ?_
 refine sp hE (r_pickF hE rfl hd83 rfl) rfl fun a hE => ?_
 refine sp hE (r_assign hE rfl) rfl fun a hE => ?_
 refine knil ?_
 exact ⟨false, h, _, (M.le.trans hm51 hm75), (hS.pickT 1 [] rfl rfl rfl), hE.cut ⟨rfl, trivial⟩⟩
 }
 }
 {
 have h := ite_F hd69 h
 refine sx hE rfl rfl rfl rfl hd69 rfl fun a hE => ?_
 refine sx hE rfl rfl rfl rfl hd69 rfl fun a hE => ?_
 refine sx hE rfl rfl rfl rfl hd69 rfl fun a hE => ?_
 refine sx hE rfl rfl rfl rfl hd69 rfl fun a hE => ?_
 refine sx hE rfl rfl rfl rfl hd69 rfl fun a hE => ?_
 refine sx hE rfl rfl rfl rfl hd69 rfl fun a hE => ?_
 refine sp hE (r_pickF hE rfl hd69 rfl) rfl fun a hE => ?_
 refine sp hE (r_move hE rfl) rfl fun a hE => ?_
 refine sx hE rfl rfl rfl rfl rfl rfl fun a hE => ?_
 refine sx hE rfl rfl rfl rfl rfl rfl fun a hE => ?_
 refine sx hE rfl rfl rfl rfl rfl rfl fun a hE => ?_
 refine sp hE (r_pickF hE rfl rfl rfl) rfl fun a hE => ?_
 refine sp hE (r_assign hE rfl) rfl fun a hE => ?_
 refine knil ?_
 exact ⟨false, h, _, hm51, (hS.pickT 1 [] rfl rfl rfl), hE.cut ⟨rfl, trivial⟩⟩
 }
 }
 {
 have h := ite_F hd63 h
 refine sx hE rfl rfl rfl rfl hd63 rfl fun a hE => ?_
 refine sx hE rfl rfl rfl rfl hd63 rfl fun a hE => ?_
 refine sx hE rfl rfl rfl rfl hd63 rfl fun a hE => ?_
 refine sp hE (r_pickF hE rfl hd63 rfl) rfl fun a hE => ?_
 refine sp hE (r_move hE rfl) rfl fun a hE => ?_
 refine sx hE rfl rfl rfl rfl rfl rfl fun a hE => ?_
 refine sx hE rfl rfl rfl rfl rfl rfl fun a hE => ?_
 refine sx hE rfl rfl rfl rfl rfl rfl fun a hE => ?_
 refine sx hE rfl rfl rfl rfl rfl rfl fun a hE => ?_
 refine sx hE rfl rfl rfl rfl rfl rfl fun a hE => ?_
 refine sx hE rfl rfl rfl rfl rfl rfl fun a hE => ?_
 refine sp hE (r_pickF hE rfl rfl rfl) rfl fun a hE => ?_
 refine sp hE (r_move hE rfl) rfl fun a hE => ?_
 refine sx hE rfl rfl rfl rfl rfl rfl fun a hE => ?_
 refine sx hE rfl rfl rfl rfl rfl rfl fun a hE => ?_
 refine sx hE rfl rfl rfl rfl rfl rfl fun a hE => ?_
 refine sp hE (r_pickF hE rfl rfl rfl) rfl fun a hE => ?_
 refine sp hE (r_assign hE rfl) rfl fun a hE => ?_
 refine knil ?_
 exact ⟨false, h, _, hm51, (hS.pickT 1 [] rfl rfl rfl), hE.cut ⟨rfl, trivial⟩⟩
 }
 }
 {
 have h := ite_F hd55 h
 refine sx hE rfl rfl rfl rfl hd55 rfl fun a hE => ?_
 refine sx hE rfl rfl rfl rfl hd55 rfl fun a hE => ?_
 refine sx hE rfl rfl rfl rfl hd55 rfl fun a hE => ?_
 refine sx hE rfl rfl rfl rfl hd55 rfl fun a hE => ?_
 refine sx hE rfl rfl rfl rfl hd55 rfl fun a hE => ?_
 refine sp hE (r_pickF hE rfl hd55 rfl) rfl fun a hE => ?_
 refine sp hE (r_move hE rfl) rfl fun a hE => ?_
 refine sx hE rfl rfl rfl rfl rfl rfl fun a hE => ?_
 refine sx hE rfl rfl rfl rfl rfl rfl fun a hE => ?_
 refine sx hE rfl rfl rfl rfl rfl rfl fun a hE => ?_
 refine sp hE (r_pickF hE rfl rfl rfl) rfl fun a hE => ?_
 refine sp hE (r_move hE rfl) rfl fun a hE => ?_
 refine sx hE rfl rfl rfl rfl rfl rfl fun a hE => ?_
 refine sx hE rfl rfl rfl rfl rfl rfl fun a hE => ?_
 refine sx hE rfl rfl rfl rfl rfl rfl fun a hE => ?_
 refine sx hE rfl rfl rfl rfl rfl rfl fun a hE => ?_
 refine sx hE rfl rfl rfl rfl rfl rfl fun a hE => ?_
 refine sx hE rfl rfl rfl rfl rfl rfl fun a hE => ?_
 refine sp hE (r_pickF hE rfl rfl rfl) rfl fun a hE => ?_
 refine sp hE (r_move hE rfl) rfl fun a hE => ?_
 refine sx hE rfl rfl rfl rfl rfl rfl fun a hE => ?_
 refine sx hE rfl rfl rfl rfl rfl rfl fun a hE => ?_
 refine sx hE rfl rfl rfl rfl rfl rfl fun a hE => ?_
 refine sp hE (r_pickF hE rfl rfl rfl) rfl fun a hE => ?_
 refine sp hE (r_assign hE rfl) rfl fun a hE => ?_
 refine knil ?_
 exact ⟨false, h, _, hm51, (hS.pickT 1 [] rfl rfl rfl), hE.cut ⟨rfl, trivial⟩⟩
 }
 }
 {
 rintro a w ⟨x46, h, m44, hm45, hS, hE⟩
 unfold hayloftlaw06_EncodeWrites_j1 at h
 refine kret ?_
 obtain rfl := Option.some.inj h
 try dsimp only
 refine Fin.mk (fn := Try.f10) hE (rs := [.tmp 4]) rfl (ResL.tmp hE rfl ResL.nil) ?_
 exact ⟨_, (M.le.trans hm6 (M.le.trans hm15 (M.le.trans hm32 hm45))), hS, RV_of_bool⟩
 }
end Go.Proofs.Ytifobhaccglckaa.Hay
