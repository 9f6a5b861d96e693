import Derived.Test.YtifobhaccglckaaHbkC1
set_option maxRecDepth 100000
set_option maxHeartbeats 4000000
set_option linter.unusedVariables false
namespace Go.Proofs.Ytifobhaccglckaa.Hay
open Go.Proofs
theorem c_encode_one {W0 : Bse} {m : M} {w : World} {L : List (Nat × List Value)} {TL : List (Nat × Value)} (hS : S W0 m w (L) (TL)) {v0 : Value} {p0 : AV} (ha0 : RV kAV m v0 p0) {r : (List Int)} (h : encode_one p0 = some r) :
    Calls Try.prog 60 [v0].toArray w (Ret fun v w' => ∃ m', M.le m m' ∧ S W0 m' w' (L) (TL) ∧ RV (kSl (kInt .u8)) m' v r) := by
 refine kcall Try.func60 rfl Try.ntmps60 (Nat.le_of_ble_eq_true rfl) fun a hE => ?_
 have hE : Env 13 a [(0, v0)] := hE
 unfold encode_one at h
 refine kseq (kreg ?_)
 refine st hE (st_box (k := kAV) hE hS rfl ha0) rfl ?_
 rintro _ a w ⟨b1, cs2, rfl, hc3, hS⟩ hE
 refine qa hE rfl rfl fun a hE => ?_
 refine knil (kseq (kreg ?_))
 refine st hE (st_loadL hE hS ty53 rfl (i := 0) rfl (R_whole hc3)) rfl ?_
 rintro v7 a _ ⟨rfl, hv6⟩ hE
 refine st hE (st_lit (k := kAV) (xs := [p0]) (vs := [v7]) hE hS rfl Try.underlying29 Try.sizeOf53 Try.zeroValue53 ⟨hv6, trivial⟩ rfl (by decide)) rfl ?_
 rintro v11 a w ⟨m9, hm10, hS, hv8⟩ hE
 obtain ⟨r12, hr13, h⟩ := ob h
 refine st hE (st_call (vs := [v11]) hE rfl Try.call108 (c_rows_Encode (hS := hS) hv8 hr13)) rfl ?_
 rintro _ a w ⟨m14, hm15, hS, v0_16, v1_17, rfl, hv0_18, hv1_19⟩ hE
 obtain ⟨rfl, hr21⟩ := RV_int hv1_19
 refine qm hE rfl rfl fun a hE => ?_
 refine sp hE (r_extract hE rfl rfl) rfl fun a hE => ?_
 refine sp hE (r_extract hE rfl rfl) rfl fun a hE => ?_
 refine qa hE rfl rfl fun a hE => ?_
 refine qa hE rfl rfl fun a hE => ?_
 refine knil (kseq (kreg ?_))
 refine qm hE rfl rfl fun a hE => ?_
 obtain ⟨x28, hx29, h⟩ := ob h
 refine st hE (st_slice (k := (kInt .u8)) hE rfl Try.underlying37 Try.sizeOf5 hv0_18 ⟨_, rfl⟩ rfl hx29 (xl := (some (.const (.int .i64 1)))) (xh := none)) rfl ?_
 rintro v31 a _ ⟨rfl, hv30⟩ hE
 refine qa hE rfl rfl fun a hE => ?_
 refine knil (kret ?_)
 obtain rfl := oi h
 try dsimp only
 refine Fin.mk hE (rs := [.tmp 2]) rfl (ResL.tmp hE rfl ResL.nil) ?_
 exact ⟨_, (M.le.trans hm10 hm15), ((hS.dropL 1).dropT 1), hv30⟩
theorem c_encode_runs {W0 : Bse} {m : M} {w : World} {L : List (Nat × List Value)} {TL : List (Nat × Value)} (hS : S W0 m w (L) (TL)) {v0 : Value} {p0 : (List AV)} (ha0 : RV (kSl kAV) m v0 p0) {r : (List Int)} (h : encode_runs p0 = some r) :
    Calls Try.prog 56 [v0].toArray w (Ret fun v w' => ∃ m', M.le m m' ∧ S W0 m' w' (L) ((1, v) :: TL) ∧ RV (kSl (kInt .u8)) m' v r) := by
 refine kcall Try.func56 rfl Try.ntmps56 (Nat.le_of_ble_eq_true rfl) fun a hE => ?_
 have hE : Env 26 a [(0, v0)] := hE
 unfold encode_runs at h
 refine kseq (kreg ?_)
 refine qa hE rfl rfl fun a hE => ?_
 refine knil (kseq (kreg ?_))
 refine qa hE rfl rfl fun a hE => ?_
 refine knil (kseq (kseq (kreg ?_)))
 refine qm hE rfl rfl fun a hE => ?_
 obtain ⟨r4, hr5, h⟩ := ob h
 refine st hE (st_call (vs := [v0]) hE rfl Try.call27 (c_encode_Runs (hS := hS) ha0 hr5)) rfl ?_
 rintro v9 a w ⟨m6, hm7, hS, hv8⟩ hE
 refine sp hE (r_lenSl (k := kEncode_Run) hE rfl rfl Try.underlying48 hv8) rfl fun a hE => ?_
 refine qm hE rfl rfl fun a hE => ?_
 refine knil ?_
 refine kcut (fun a w => ∃ x14 : (List Int), encode_runs_j1 x14 = some r ∧ ∃ m', M.le m6 m' ∧ ∃ (v15 : Value), RV (kSl (kInt .u8)) m' v15 x14 ∧ S W0 m' w (L) ((1, v15) :: TL) ∧ Env 26 a [(3, v15)]) ?_ ?_
 {
 refine kblock ?_
 refine kloop h (fun (s : ((List Int) × Int)) a w => ∃ m', M.le m6 m' ∧ ∃ (v23 : Value), RV (kSl (kInt .u8)) m' v23 s.1 ∧ inR .i64 s.2 ∧ S W0 m' w (L) ((1, v23) :: TL) ∧ Env 26 a [(3, v23), (7, v9), (8, (.int .i64 (r4.length : Int))), (9, (.int .i64 s.2))]) ?_ ?_
 {
 exact ⟨_, (M.le.refl _), (.slice none 0 0), RV_nil, (show inR .i64 0 from inR_lit (by decide)), (hS.tail0 1), hE.cut ⟨rfl, rfl, rfl, rfl, trivial⟩⟩
 }
 {
 rintro ⟨x22, x25⟩ a w ⟨m20, hm21, v23, hv24, hr26, hS, hE⟩ r27 h hb28
 have h : encode_runs_b1 r4 x22 x25 = some r27 := h
 unfold encode_runs_b1 at h
 refine kseq (kreg ?_)
 refine sp hE (r_bin hE rfl rfl b_lss) rfl fun a hE => ?_
 refine knil (kseq ?_)
 refine kif hE rfl (fun hd30 => ?_) (fun hd30 => ?_)
 {
 have h := ite_T hd30 h
 refine kskip (kseq (kblock (kseq (kreg ?_))))
 obtain ⟨x31, hx32, h⟩ := ob h
 refine st hE (st_index (k := kEncode_Run) hE rfl rfl Try.underlying48 Try.sizeOf55 (hv8.mono hm21) hx32) rfl ?_
 rintro v34 a _ ⟨rfl, hp33⟩ hE
 refine st hE (st_loadM hE hS ty55 rfl hp33) rfl ?_
 rintro v36 a _ ⟨rfl, hv35⟩ hE
 refine st hE (st_alloc hS Try.zeroValue55 rfl (cs := zc55)) rfl ?_
 rintro _ a w ⟨b37, rfl, hS⟩ hE
 refine st0 hE (st_storeF hE hS ty55 StF_self rfl rfl hv35 (i := 0) rfl (zr55 _)) ?_
 rintro _ w ⟨cs39, hc40, hS⟩ hE
 refine knil (kseq (kreg ?_))
 refine qm hE rfl rfl fun a hE => ?_
 refine sp hE (r_fieldL hE fo55_0 rfl) rfl fun a hE => ?_
 refine st hE (st_loadL hE hS ty3 rfl (i := 0) rfl (fl55_0.R_drop (R_whole hc40))) rfl ?_
 rintro v45 a _ ⟨rfl, hv44⟩ hE
 obtain ⟨rfl, hr46⟩ := RV_int hv44
 refine sp hE (r_conv hE rfl Try.underlying3 Try.underlying5 rfl) rfl fun a hE => ?_
 refine st hE (st_lit (k := (kInt .u8)) (xs := [IntKind.u8.wrap x31.fMany]) (vs := [(.int .u8 (IntKind.u8.wrap x31.fMany))]) hE hS rfl Try.underlying37 Try.sizeOf5 Try.zeroValue5 ⟨(RV_of_int (inR_wrap _ _)), trivial⟩ rfl (by decide)) rfl ?_
 rintro v51 a w ⟨m49, hm50, hS, hv48⟩ hE
 obtain ⟨z52, hz53, h⟩ := ob h
 refine st hE (st_app (k := (kInt .u8)) (N := 140737488355328) hE hS rfl rfl Try.underlying37 Try.underlying37 el5 (i := 1) rfl (hv24.mono hm50) hv48 hz53 rfl rfl) rfl ?_
 rintro v57 a w ⟨m55, hm56, hS, hv54⟩ hE
 refine qa hE rfl rfl fun a hE => ?_
 refine knil (kreg ?_)
 refine qm hE rfl rfl fun a hE => ?_
 refine sp hE (r_fieldL hE fo55_1 rfl) rfl fun a hE => ?_
 refine st hE (st_loadL hE hS ty53 rfl (i := 0) rfl (fl55_1.R_drop (R_whole (kEncode_Run.mono (M.le.trans hm50 hm56) hc40)))) rfl ?_
 rintro v62 a _ ⟨rfl, hv61⟩ hE
 obtain ⟨r63, hr64, h⟩ := ob h
 refine st hE (st_call (vs := [v62]) hE rfl Try.call60 (c_encode_one (hS := hS) hv61 hr64)) rfl ?_
 rintro v68 a w ⟨m65, hm66, hS, hv67⟩ hE
 obtain ⟨z69, hz70, h⟩ := ob h
 refine st hE (st_app (k := (kInt .u8)) (N := 140737488355328) hE hS rfl rfl Try.underlying37 Try.underlying37 el5 (i := 1) rfl (hv54.mono hm66) hv67 hz70 rfl rfl) rfl ?_
 rintro v74 a w ⟨m72, hm73, hS, hv71⟩ hE
 refine qa hE rfl rfl fun a hE => ?_
 refine knil (kreg ?_)
 refine sp hE (r_bin hE rfl rfl (b_add rfl)) rfl fun a hE => ?_
 refine qm hE rfl rfl fun a hE => ?_
 refine knil ?_
 exact ⟨(z69, IntKind.i64.wrap (x25 + 1)), (Option.some.inj h).symm, _, (M.le.trans hm21 (M.le.trans hm50 (M.le.trans hm56 (M.le.trans hm66 hm73)))), v74, hv71, (inR_wrap _ _), ((hS.pickL 1 [] rfl rfl rfl).pickT 2 [1] rfl rfl rfl), hE.cut ⟨rfl, rfl, rfl, rfl, trivial⟩⟩
 }
 {
 have h := ite_F hd30 h
 refine kexit rfl rfl ?_
 have h := unwrap h hb28
 exact ⟨x22, h, _, hm21, v23, hv24, hS, hE.cut ⟨rfl, trivial⟩⟩
 }
 }
 }
 {
 rintro a w ⟨x14, h, m12, hm13, v15, hv16, hS, hE⟩
 unfold encode_runs_j1 at h
 refine kseq (kreg ?_)
 refine qm hE rfl rfl fun a hE => ?_
 refine qa hE rfl rfl fun a hE => ?_
 refine knil (kret ?_)
 obtain rfl := oi h
 try dsimp only
 refine Fin.mk hE (rs := [.tmp 2]) rfl (ResL.tmp hE rfl ResL.nil) ?_
 exact ⟨_, (M.le.trans hm7 hm13), (hS.pickT 1 [0] rfl rfl rfl), hv16⟩
 }
theorem c_encode_eight {W0 : Bse} {m : M} {w : World} {L : List (Nat × List Value)} {TL : List (Nat × Value)} (hS : S W0 m w (L) (TL)) {p0 : Int} (ha0 : inR .u64 p0) {r : (List Int)} (h : encode_eight p0 = some r) :
    Calls Try.prog 100 [(.int .u64 p0)].toArray w (Ret fun v w' => ∃ m', M.le m m' ∧ S W0 m' w' (L) ((1, v) :: TL) ∧ RV (kSl (kInt .u8)) m' v r) := by
 refine kcall Try.func100 rfl Try.ntmps100 (Nat.le_of_ble_eq_true rfl) fun a hE => ?_
 have hE : Env 19 a [(0, (.int .u64 p0))] := hE
 unfold encode_eight at h
 refine kseq (kreg ?_)
 refine qa hE rfl rfl fun a hE => ?_
 refine knil (kseq (kreg ?_))
 refine qa hE rfl rfl fun a hE => ?_
 refine knil (kseq (kseq (kreg ?_)))
 refine qm hE rfl rfl fun a hE => ?_
 refine knil ?_
 refine kcut (fun a w => ∃ x6 : (List Int), encode_eight_j1 x6 = some r ∧ ∃ m', M.le m m' ∧ ∃ (v7 : Value), RV (kSl (kInt .u8)) m' v7 x6 ∧ S W0 m' w (L) ((1, v7) :: TL) ∧ Env 19 a [(3, v7)]) ?_ ?_
 {
 refine kblock ?_
 refine kloop h (fun (s : ((List Int) × Int)) a w => ∃ m', M.le m m' ∧ ∃ (v15 : Value), RV (kSl (kInt .u8)) m' v15 s.1 ∧ inR .i64 s.2 ∧ S W0 m' w (L) ((1, v15) :: TL) ∧ Env 19 a [(0, (.int .u64 p0)), (3, v15), (5, (.int .i64 s.2))]) ?_ ?_
 {
 exact ⟨_, (M.le.refl _), (.slice none 0 0), RV_nil, (show inR .i64 0 from inR_lit (by decide)), (hS.tail0 1), hE.cut ⟨rfl, rfl, rfl, trivial⟩⟩
 }
 {
 rintro ⟨x14, x17⟩ a w ⟨m12, hm13, v15, hv16, hr18, hS, hE⟩ r19 h hb20
 have h : encode_eight_b1 p0 x14 x17 = some r19 := h
 unfold encode_eight_b1 at h
 refine kseq (kreg ?_)
 refine sp hE (r_bin hE rfl rfl b_lss) rfl fun a hE => ?_
 refine knil (kseq ?_)
 refine kif hE rfl (fun hd22 => ?_) (fun hd22 => ?_)
 {
 have h := ite_T hd22 h
 refine kskip (kseq (kblock (kseq (kreg ?_))))
 refine qm hE rfl rfl fun a hE => ?_
 refine qa hE rfl rfl fun a hE => ?_
 refine knil (kreg ?_)
 refine qm hE rfl rfl fun a hE => ?_
 refine qm hE rfl rfl fun a hE => ?_
 refine qm hE rfl rfl fun a hE => ?_
 refine sp hE (r_bin hE rfl rfl (b_mul rfl)) rfl fun a hE => ?_
 refine sp hE (r_bin hE rfl rfl (b_sub rfl)) rfl fun a hE => ?_
 obtain ⟨u30, hu31, h⟩ := ob h
 refine sp hE (r_bin hE rfl rfl (b_shr rfl (of_decide_eq_true (chk_some hu31)))) rfl fun a hE => ?_
 refine sp hE (r_conv hE rfl Try.underlying24 Try.underlying5 rfl) rfl fun a hE => ?_
 refine st hE (st_lit (k := (kInt .u8)) (xs := [IntKind.u8.wrap (iShr .u64 p0 (IntKind.i64.wrap (56 - (IntKind.i64.wrap (8 * x17)))))]) (vs := [(.int .u8 (IntKind.u8.wrap (iShr .u64 p0 (IntKind.i64.wrap (56 - (IntKind.i64.wrap (8 * x17)))))))]) hE hS rfl Try.underlying37 Try.sizeOf5 Try.zeroValue5 ⟨(RV_of_int (inR_wrap _ _)), trivial⟩ rfl (by decide)) rfl ?_
 rintro v37 a w ⟨m35, hm36, hS, hv34⟩ hE
 obtain ⟨z38, hz39, h⟩ := ob h
 refine st hE (st_app (k := (kInt .u8)) (N := 140737488355328) hE hS rfl rfl Try.underlying37 Try.underlying37 el5 (i := 1) rfl (hv16.mono hm36) hv34 hz39 rfl rfl) rfl ?_
 rintro v43 a w ⟨m41, hm42, hS, hv40⟩ hE
 refine qa hE rfl rfl fun a hE => ?_
 refine knil (kreg ?_)
 refine sp hE (r_bin hE rfl rfl (b_add rfl)) rfl fun a hE => ?_
 refine qm hE rfl rfl fun a hE => ?_
 refine knil ?_
 exact ⟨(z38, IntKind.i64.wrap (x17 + 1)), (Option.some.inj h).symm, _, (M.le.trans hm13 (M.le.trans hm36 hm42)), v43, hv40, (inR_wrap _ _), (hS.pickT 2 [1] rfl rfl rfl), hE.cut ⟨rfl, rfl, rfl, trivial⟩⟩
 }
 {
 have h := ite_F hd22 h
 refine kexit rfl rfl ?_
 have h := unwrap h hb20
 exact ⟨x14, h, _, hm13, v15, hv16, hS, hE.cut ⟨rfl, trivial⟩⟩
 }
 }
 }
 {
 rintro a w ⟨x6, h, m4, hm5, v7, hv8, hS, hE⟩
 unfold encode_eight_j1 at h
 refine kseq (kreg ?_)
 refine qm hE rfl rfl fun a hE => ?_
 refine qa hE rfl rfl fun a hE => ?_
 refine knil (kret ?_)
 obtain rfl := oi h
 try dsimp only
 refine Fin.mk hE (rs := [.tmp 2]) rfl (ResL.tmp hE rfl ResL.nil) ?_
 exact ⟨_, hm5, (hS.pickT 1 [0] rfl rfl rfl), hv8⟩
 }
theorem c_encode_delta {W0 : Bse} {m : M} {w : World} {L : List (Nat × List Value)} {TL : List (Nat × Value)} (hS : S W0 m w (L) (TL)) {v0 : Value} {p0 : (List Int)} (ha0 : RV (kSl (kInt .i64)) m v0 p0) {r : (List Int)} (h : encode_delta p0 = some r) :
    Calls Try.prog 57 [v0].toArray w (Ret fun v w' => ∃ m', M.le m m' ∧ S W0 m' w' (L) ((1, v) :: TL) ∧ RV (kSl (kInt .u8)) m' v r) := by
 refine kcall Try.func57 rfl Try.ntmps57 (Nat.le_of_ble_eq_true rfl) fun a hE => ?_
 have hE : Env 51 a [(0, v0)] := hE
 unfold encode_delta at h
 refine kseq (kreg ?_)
 refine qa hE rfl rfl fun a hE => ?_
 refine knil (kseq (kreg ?_))
 refine qm hE rfl rfl fun a hE => ?_
 obtain ⟨x3, hx4, h⟩ := ob h
 refine st hE (st_index (k := (kInt .i64)) hE rfl rfl Try.underlying93 Try.sizeOf2 ha0 hx4) rfl ?_
 rintro v6 a _ ⟨rfl, hp5⟩ hE
 refine st hE (st_loadM hE hS ty2 rfl hp5) rfl ?_
 rintro v8 a _ ⟨rfl, hv7⟩ hE
 obtain ⟨rfl, hr9⟩ := RV_int hv7
 refine sp hE (r_conv hE rfl Try.underlying2 Try.underlying24 rfl) rfl fun a hE => ?_
 obtain ⟨r11, hr12, h⟩ := ob h
 refine st hE (st_call (vs := [(.int .u64 (IntKind.u64.wrap x3))]) hE rfl Try.call100 (c_encode_eight (hS := hS) (inR_wrap _ _) hr12)) rfl ?_
 rintro v16 a w ⟨m13, hm14, hS, hv15⟩ hE
 refine qa hE rfl rfl fun a hE => ?_
 refine knil (kseq (kseq (kreg ?_)))
 refine qm hE rfl rfl fun a hE => ?_
 obtain ⟨x19, hx20, h⟩ := ob h
 refine st hE (st_slice (k := (kInt .i64)) hE rfl Try.underlying93 Try.sizeOf2 (ha0.mono hm14) ⟨_, rfl⟩ rfl hx20 (xl := (some (.const (.int .i64 1)))) (xh := none)) rfl ?_
 rintro v22 a _ ⟨rfl, hv21⟩ hE
 refine sp hE (r_lenSl (k := (kInt .i64)) hE rfl rfl Try.underlying93 hv21) rfl fun a hE => ?_
 refine qm hE rfl rfl fun a hE => ?_
 refine knil ?_
 refine kcut (fun a w => ∃ x27 : (List Int), encode_delta_j1 x27 = some r ∧ ∃ m', M.le m13 m' ∧ ∃ (v28 : Value), RV (kSl (kInt .u8)) m' v28 x27 ∧ S W0 m' w (L) ((1, v28) :: TL) ∧ Env 51 a [(3, v28)]) ?_ ?_
 {
 refine kblock ?_
 refine kloop h (fun (s : ((List Int) × Int)) a w => ∃ m', M.le m13 m' ∧ ∃ (v36 : Value), RV (kSl (kInt .u8)) m' v36 s.1 ∧ inR .i64 s.2 ∧ S W0 m' w (L) ((1, v36) :: TL) ∧ Env 51 a [(0, v0), (3, v36), (14, v22), (15, (.int .i64 (x19.length : Int))), (16, (.int .i64 s.2))]) ?_ ?_
 {
 exact ⟨_, (M.le.refl _), v16, hv15, (show inR .i64 0 from inR_lit (by decide)), hS, hE.cut ⟨rfl, rfl, rfl, rfl, rfl, trivial⟩⟩
 }
 {
 rintro ⟨x35, x38⟩ a w ⟨m33, hm34, v36, hv37, hr39, hS, hE⟩ r40 h hb41
 have h : encode_delta_b1 p0 x19 x35 x38 = some r40 := h
 unfold encode_delta_b1 at h
 refine kseq (kreg ?_)
 refine sp hE (r_bin hE rfl rfl b_lss) rfl fun a hE => ?_
 refine knil (kseq ?_)
 refine kif hE rfl (fun hd43 => ?_) (fun hd43 => ?_)
 {
 have h := ite_T hd43 h
 refine kskip (kseq ?_)
 refine kcut (fun a w => ∃ x46 : (List Int), encode_delta_j2 x38 x46 = some r40 ∧ ∃ m', M.le m33 m' ∧ ∃ (v47 : Value), RV (kSl (kInt .u8)) m' v47 x46 ∧ S W0 m' w (L) ((1, v47) :: TL) ∧ Env 51 a [(0, v0), (3, v47), (14, v22), (15, (.int .i64 (x19.length : Int))), (16, (.int .i64 x38))]) ?_ ?_
 {
 refine kblock (kseq (kreg ?_))
 refine qm hE rfl rfl fun a hE => ?_
 obtain ⟨x53, hx54, h⟩ := ob h
 refine st hE (st_index (k := (kInt .i64)) hE rfl rfl Try.underlying93 Try.sizeOf2 (hv21.mono hm34) hx54) rfl ?_
 rintro v56 a _ ⟨rfl, hp55⟩ hE
 refine st hE (st_loadM hE hS ty2 rfl hp55) rfl ?_
 rintro v58 a _ ⟨rfl, hv57⟩ hE
 obtain ⟨rfl, hr59⟩ := RV_int hv57
 refine qa hE rfl rfl fun a hE => ?_
 refine qa hE rfl rfl fun a hE => ?_
 refine knil (kseq (kreg ?_))
 refine qm hE rfl rfl fun a hE => ?_
 refine qm hE rfl rfl fun a hE => ?_
 refine qm hE rfl rfl fun a hE => ?_
 obtain ⟨x65, hx66, h⟩ := ob h
 refine st hE (st_index (k := (kInt .i64)) hE rfl rfl Try.underlying93 Try.sizeOf2 (ha0.mono (M.le.trans hm14 hm34)) hx66) rfl ?_
 rintro v68 a _ ⟨rfl, hp67⟩ hE
 refine st hE (st_loadM hE hS ty2 rfl hp67) rfl ?_
 rintro v70 a _ ⟨rfl, hv69⟩ hE
 obtain ⟨rfl, hr71⟩ := RV_int hv69
 refine sp hE (r_bin hE rfl rfl (b_sub rfl)) rfl fun a hE => ?_
 refine qa hE rfl rfl fun a hE => ?_
 refine knil (kseq (kreg ?_))
 refine qm hE rfl rfl fun a hE => ?_
 refine sp hE (r_conv hE rfl Try.underlying2 Try.underlying24 rfl) rfl fun a hE => ?_
 refine sp hE (r_bin hE rfl rfl (b_shl rfl (by decide))) rfl fun a hE => ?_
 refine qm hE rfl rfl fun a hE => ?_
 refine sp hE (r_bin hE rfl rfl (b_shr rfl (by decide))) rfl fun a hE => ?_
 refine sp hE (r_conv hE rfl Try.underlying2 Try.underlying24 rfl) rfl fun a hE => ?_
 refine sp hE (r_bin hE rfl rfl (b_xor rfl)) rfl fun a hE => ?_
 refine qa hE rfl rfl fun a hE => ?_
 refine knil (kseq ?_)
 refine kcut (fun a w => ∃ x84 : (List Int), ∃ x87 : Int, encode_delta_j3 x38 x84 x87 = some r40 ∧ ∃ m', M.le m33 m' ∧ ∃ (v85 : Value), RV (kSl (kInt .u8)) m' v85 x84 ∧ inR .u64 x87 ∧ S W0 m' w (L) ((1, v85) :: TL) ∧ Env 51 a [(0, v0), (3, v85), (7, (.int .u64 x87)), (14, v22), (15, (.int .i64 (x19.length : Int))), (16, (.int .i64 x38))]) ?_ ?_
 {
 refine kblock ?_
 refine kloop h (fun (s : ((List Int) × Int)) a w => ∃ m', M.le m33 m' ∧ ∃ (v107 : Value), RV (kSl (kInt .u8)) m' v107 s.1 ∧ inR .u64 s.2 ∧ S W0 m' w (L) ((1, v107) :: TL) ∧ Env 51 a [(0, v0), (3, v107), (7, (.int .u64 s.2)), (14, v22), (15, (.int .i64 (x19.length : Int))), (16, (.int .i64 x38))]) ?_ ?_
 {
 exact ⟨_, (M.le.refl _), v36, hv37, (inR_xor _ _ _), hS, hE.cut ⟨rfl, rfl, rfl, rfl, rfl, rfl, trivial⟩⟩
 }
 {
 rintro ⟨x106, x109⟩ a w ⟨m104, hm105, v107, hv108, hr110, hS, hE⟩ r111 h hb112
 have h : encode_delta_b2 x38 x106 x109 = some r111 := h
 unfold encode_delta_b2 at h
 refine kseq (kseq (kreg ?_))
 refine qm hE rfl rfl fun a hE => ?_
 refine sp hE (r_bin hE rfl rfl b_gtr) rfl fun a hE => ?_
 refine knil ?_
 refine kif hE rfl (fun hd115 => ?_) (fun hd115 => ?_)
 {
 have h := ite_T hd115 h
 refine kskip (kblock (kseq (kreg ?_)))
 refine qm hE rfl rfl fun a hE => ?_
 refine qm hE rfl rfl fun a hE => ?_
 refine sp hE (r_conv hE rfl Try.underlying24 Try.underlying5 rfl) rfl fun a hE => ?_
 refine sp hE (r_bin hE rfl rfl (b_or rfl)) rfl fun a hE => ?_
 refine st hE (st_lit (k := (kInt .u8)) (xs := [bOr .u8 (IntKind.u8.wrap x109) 128]) (vs := [(.int .u8 (bOr .u8 (IntKind.u8.wrap x109) 128))]) hE hS rfl Try.underlying37 Try.sizeOf5 Try.zeroValue5 ⟨(RV_of_int (inR_or _ _ _)), trivial⟩ rfl (by decide)) rfl ?_
 rintro v123 a w ⟨m121, hm122, hS, hv120⟩ hE
 obtain ⟨z124, hz125, h⟩ := ob h
 refine st hE (st_app (k := (kInt .u8)) (N := 140737488355328) hE hS rfl rfl Try.underlying37 Try.underlying37 el5 (i := 1) rfl (hv108.mono hm122) hv120 hz125 rfl rfl) rfl ?_
 rintro v129 a w ⟨m127, hm128, hS, hv126⟩ hE
 refine qa hE rfl rfl fun a hE => ?_
 refine knil (kreg ?_)
 refine qm hE rfl rfl fun a hE => ?_
 refine sp hE (r_bin hE rfl rfl (b_shr rfl (by decide))) rfl fun a hE => ?_
 refine qa hE rfl rfl fun a hE => ?_
 refine knil ?_
 exact ⟨(z124, iShr .u64 x109 7), (Option.some.inj h).symm, _, (M.le.trans hm105 (M.le.trans hm122 hm128)), v129, hv126, (inR_shr hr110 _), (hS.pickT 2 [1] rfl rfl rfl), hE.cut ⟨rfl, rfl, rfl, rfl, rfl, rfl, trivial⟩⟩
 }
 {
 have h := ite_F hd115 h
 refine kexit rfl rfl ?_
 have h := unwrap h hb112
 exact ⟨x106, x109, h, _, hm105, v107, hv108, hr110, hS, hE.cut ⟨rfl, rfl, rfl, rfl, rfl, rfl, trivial⟩⟩
 }
 }
 }
 {
 rintro a w ⟨x84, x87, h, m82, hm83, v85, hv86, hr88, hS, hE⟩
 unfold encode_delta_j3 at h
 refine kreg ?_
 refine qm hE rfl rfl fun a hE => ?_
 refine qm hE rfl rfl fun a hE => ?_
 refine sp hE (r_conv hE rfl Try.underlying24 Try.underlying5 rfl) rfl fun a hE => ?_
 refine st hE (st_lit (k := (kInt .u8)) (xs := [IntKind.u8.wrap x87]) (vs := [(.int .u8 (IntKind.u8.wrap x87))]) hE hS rfl Try.underlying37 Try.sizeOf5 Try.zeroValue5 ⟨(RV_of_int (inR_wrap _ _)), trivial⟩ rfl (by decide)) rfl ?_
 rintro v96 a w ⟨m94, hm95, hS, hv93⟩ hE
 obtain ⟨z97, hz98, h⟩ := ob h
 refine st hE (st_app (k := (kInt .u8)) (N := 140737488355328) hE hS rfl rfl Try.underlying37 Try.underlying37 el5 (i := 1) rfl (hv86.mono hm95) hv93 hz98 rfl rfl) rfl ?_
 rintro v102 a w ⟨m100, hm101, hS, hv99⟩ hE
 refine qa hE rfl rfl fun a hE => ?_
 refine knil ?_
 exact ⟨z97, h, _, (M.le.trans hm83 (M.le.trans hm95 hm101)), v102, hv99, (hS.pickT 2 [1] rfl rfl rfl), hE.cut ⟨rfl, rfl, rfl, rfl, rfl, trivial⟩⟩
 }
 }
 {
 rintro a w ⟨x46, h, m44, hm45, v47, hv48, hS, hE⟩
 unfold encode_delta_j2 at h
 refine kreg ?_
 refine sp hE (r_bin hE rfl rfl (b_add rfl)) rfl fun a hE => ?_
 refine qm hE rfl rfl fun a hE => ?_
 refine knil ?_
 exact ⟨(x46, IntKind.i64.wrap (x38 + 1)), (Option.some.inj h).symm, _, (M.le.trans hm34 hm45), v47, hv48, (inR_wrap _ _), hS, hE.cut ⟨rfl, rfl, rfl, rfl, rfl, trivial⟩⟩
 }
 }
 {
 have h := ite_F hd43 h
 refine kexit rfl rfl ?_
 have h := unwrap h hb41
 exact ⟨x35, h, _, hm34, v36, hv37, hS, hE.cut ⟨rfl, trivial⟩⟩
 }
 }
 }
 {
 rintro a w ⟨x27, h, m25, hm26, v28, hv29, hS, hE⟩
 unfold encode_delta_j1 at h
 refine kseq (kreg ?_)
 refine qm hE rfl rfl fun a hE => ?_
 refine qa hE rfl rfl fun a hE => ?_
 refine knil (kret ?_)
 obtain rfl := oi h
 try dsimp only
 refine Fin.mk hE (rs := [.tmp 2]) rfl (ResL.tmp hE rfl ResL.nil) ?_
 exact ⟨_, (M.le.trans hm14 hm26), (hS.pickT 1 [0] rfl rfl rfl), hv29⟩
 }
theorem c_slices_SortFunc_Value {W0 : Bse} {m : M} {w : World} {L : List (Nat × List Value)} {TL : List (Nat × Value)} {b0_ : Nat} {c0_ : List Value} (hS : S W0 m w ((b0_, c0_) :: L) (TL)) {v0 : Value} {p0 : (List AV)} (ha0 : GS kAV m b0_ c0_ v0 p0) {v1 : Value} {p1 : (AV → AV → Option Int)} (ha1 : Fn2 Try.prog kAV kAV (kInt .i64) m v1 p1) {r : (List AV)} (h : slices_SortFunc_Value p0 p1 = some r) :
    Calls Try.prog 102 [v0, v1].toArray w (Ret fun v w' => ∃ m', M.le m m' ∧ ∃ q0_ : List Value, S W0 m' w' ((b0_, q0_) :: L) (TL) ∧ GS kAV m' b0_ q0_ v0 r) :=
  sort_calls (ρ := sort102_ren) sort102 Try.isAgg53 Try.sizeOf53 rfl hS ha0 ha1 h
theorem c_cmp_isNaN_int {W0 : Bse} {m : M} {w : World} {L : List (Nat × List Value)} {TL : List (Nat × Value)} (hS : S W0 m w (L) (TL)) {p0 : Int} (ha0 : inR .i64 p0) {r : Bool} (h : cmp_isNaN_int p0 = some r) :
    Calls Try.prog 135 [(.int .i64 p0)].toArray w (Ret fun v w' => ∃ m', M.le m m' ∧ S W0 m' w' (L) (TL) ∧ RV kBool m' v r) := by
 refine kcall Try.func135 rfl Try.ntmps135 (Nat.le_of_ble_eq_true rfl) fun a hE => ?_
 have hE : Env 6 a [(0, (.int .i64 p0))] := hE
 unfold cmp_isNaN_int at h
 refine kseq (kreg ?_)
 refine qa hE rfl rfl fun a hE => ?_
 refine knil (kseq (kreg ?_))
 refine qm hE rfl rfl fun a hE => ?_
 refine qm hE rfl rfl fun a hE => ?_
 refine sp hE (r_bin hE rfl rfl b_neq) rfl fun a hE => ?_
 refine qa hE rfl rfl fun a hE => ?_
 refine knil (kret ?_)
 obtain rfl := oi h
 try dsimp only
 refine Fin.mk hE (rs := [.tmp 2]) rfl (ResL.tmp hE rfl ResL.nil) ?_
 exact ⟨_, (M.le.refl _), hS, RV_of_bool⟩
theorem c_cmp_Compare_int {W0 : Bse} {m : M} {w : World} {L : List (Nat × List Value)} {TL : List (Nat × Value)} (hS : S W0 m w (L) (TL)) {p0 : Int} (ha0 : inR .i64 p0) {p1 : Int} (ha1 : inR .i64 p1) {r : Int} (h : cmp_Compare_int p0 p1 = some r) :
    Calls Try.prog 118 [(.int .i64 p0), (.int .i64 p1)].toArray w (Ret fun v w' => ∃ m', M.le m m' ∧ S W0 m' w' (L) (TL) ∧ RV (kInt .i64) m' v r) := by
 refine kcall Try.func118 rfl Try.ntmps118 (Nat.le_of_ble_eq_true rfl) fun a hE => ?_
 have hE : Env 20 a [(0, (.int .i64 p0)), (1, (.int .i64 p1))] := hE
 unfold cmp_Compare_int at h
 refine kseq (kreg ?_)
 refine qa hE rfl rfl fun a hE => ?_
 refine knil (kseq (kreg ?_))
 refine qm hE rfl rfl fun a hE => ?_
 obtain ⟨r3, hr4, h⟩ := ob h
 refine st hE (st_call (vs := [(.int .i64 p0)]) hE rfl Try.call135 (c_cmp_isNaN_int (hS := hS) ha0 hr4)) rfl ?_
 rintro v8 a w ⟨m5, hm6, hS, hv7⟩ hE
 obtain rfl := RV_bool hv7
 refine qa hE rfl rfl fun a hE => ?_
 refine knil (kseq (kreg ?_))
 refine qm hE rfl rfl fun a hE => ?_
 obtain ⟨r11, hr12, h⟩ := ob h
 refine st hE (st_call (vs := [(.int .i64 p1)]) hE rfl Try.call135 (c_cmp_isNaN_int (hS := hS) ha1 hr12)) rfl ?_
 rintro v16 a w ⟨m13, hm14, hS, hv15⟩ hE
 obtain rfl := RV_bool hv15
 refine qa hE rfl rfl fun a hE => ?_
 refine knil (kseq (kseq (kreg ?_)))
 refine qm hE rfl rfl fun a hE => ?_
 refine knil ?_
 refine kif hE rfl (fun hd19 => ?_) (fun hd19 => ?_)
 {
 have h := ite_T hd19 h
 refine kseq (kseq (kreg ?_))
 refine qm hE rfl rfl fun a hE => ?_
 refine knil ?_
 refine kif hE rfl (fun hd21 => ?_) (fun hd21 => ?_)
 {
 have h := ite_T hd21 h
 refine kseq (kreg ?_)
 refine qa hE rfl rfl fun a hE => ?_
 refine knil (kret ?_)
 obtain rfl := oi h
 try dsimp only
 refine Fin.mk hE (rs := [.tmp 4]) rfl (ResL.tmp hE rfl ResL.nil) ?_
 exact ⟨_, (M.le.trans hm6 hm14), hS, (RV_of_int (show inR .i64 0 from inR_lit (by decide)))⟩
 }
 {
 have h := ite_F hd21 h
 refine kskip (kseq (kreg ?_))
 refine qa hE rfl rfl fun a hE => ?_
 refine knil (kret ?_)
 obtain rfl := oi h
 try dsimp only
 refine Fin.mk hE (rs := [.tmp 4]) rfl (ResL.tmp hE rfl ResL.nil) ?_
 exact ⟨_, (M.le.trans hm6 hm14), hS, (RV_of_int (show inR .i64 (-1) from inR_lit (by decide)))⟩
 }
 }
 {
 have h := ite_F hd19 h
 refine kskip (kseq (kseq (kreg ?_)))
 refine qm hE rfl rfl fun a hE => ?_
 refine knil ?_
 refine kif hE rfl (fun hd25 => ?_) (fun hd25 => ?_)
 {
 have h := ite_T hd25 h
 refine kseq (kreg ?_)
 refine qa hE rfl rfl fun a hE => ?_
 refine knil (kret ?_)
 obtain rfl := oi h
 try dsimp only
 refine Fin.mk hE (rs := [.tmp 4]) rfl (ResL.tmp hE rfl ResL.nil) ?_
 exact ⟨_, (M.le.trans hm6 hm14), hS, (RV_of_int (show inR .i64 1 from inR_lit (by decide)))⟩
 }
 {
 have h := ite_F hd25 h
 refine kskip (kseq (kseq (kreg ?_)))
 refine qm hE rfl rfl fun a hE => ?_
 refine qm hE rfl rfl fun a hE => ?_
 refine sp hE (r_bin hE rfl rfl b_lss) rfl fun a hE => ?_
 refine knil ?_
 refine kif hE rfl (fun hd30 => ?_) (fun hd30 => ?_)
 {
 have h := ite_T hd30 h
 refine kseq (kreg ?_)
 refine qa hE rfl rfl fun a hE => ?_
 refine knil (kret ?_)
 obtain rfl := oi h
 try dsimp only
 refine Fin.mk hE (rs := [.tmp 4]) rfl (ResL.tmp hE rfl ResL.nil) ?_
 exact ⟨_, (M.le.trans hm6 hm14), hS, (RV_of_int (show inR .i64 (-1) from inR_lit (by decide)))⟩
 }
 {
 have h := ite_F hd30 h
 refine kskip (kseq (kseq (kreg ?_)))
 refine qm hE rfl rfl fun a hE => ?_
 refine qm hE rfl rfl fun a hE => ?_
 refine sp hE (r_bin hE rfl rfl b_gtr) rfl fun a hE => ?_
 refine knil ?_
 refine kif hE rfl (fun hd35 => ?_) (fun hd35 => ?_)
 {
 have h := ite_T hd35 h
 refine kseq (kreg ?_)
 refine qa hE rfl rfl fun a hE => ?_
 refine knil (kret ?_)
 obtain rfl := oi h
 try dsimp only
 refine Fin.mk hE (rs := [.tmp 4]) rfl (ResL.tmp hE rfl ResL.nil) ?_
 exact ⟨_, (M.le.trans hm6 hm14), hS, (RV_of_int (show inR .i64 1 from inR_lit (by decide)))⟩
 }
 {
 have h := ite_F hd35 h
 refine kskip (kseq (kreg ?_))
 refine qa hE rfl rfl fun a hE => ?_
 refine knil (kret ?_)
 obtain rfl := oi h
 try dsimp only
 refine Fin.mk hE (rs := [.tmp 4]) rfl (ResL.tmp hE rfl ResL.nil) ?_
 exact ⟨_, (M.le.trans hm6 hm14), hS, (RV_of_int (show inR .i64 0 from inR_lit (by decide)))⟩
 }
 }
 }
 }
theorem c_cmp_isNaN_int64 {W0 : Bse} {m : M} {w : World} {L : List (Nat × List Value)} {TL : List (Nat × Value)} (hS : S W0 m w (L) (TL)) {p0 : Int} (ha0 : inR .i64 p0) {r : Bool} (h : cmp_isNaN_int64 p0 = some r) :
    Calls Try.prog 136 [(.int .i64 p0)].toArray w (Ret fun v w' => ∃ m', M.le m m' ∧ S W0 m' w' (L) (TL) ∧ RV kBool m' v r) := by
 refine kcall Try.func136 rfl Try.ntmps136 (Nat.le_of_ble_eq_true rfl) fun a hE => ?_
 have hE : Env 6 a [(0, (.int .i64 p0))] := hE
 unfold cmp_isNaN_int64 at h
 refine kseq (kreg ?_)
 refine qa hE rfl rfl fun a hE => ?_
 refine knil (kseq (kreg ?_))
 refine qm hE rfl rfl fun a hE => ?_
 refine qm hE rfl rfl fun a hE => ?_
 refine sp hE (r_bin hE rfl rfl b_neq) rfl fun a hE => ?_
 refine qa hE rfl rfl fun a hE => ?_
 refine knil (kret ?_)
 obtain rfl := oi h
 try dsimp only
 refine Fin.mk hE (rs := [.tmp 2]) rfl (ResL.tmp hE rfl ResL.nil) ?_
 exact ⟨_, (M.le.refl _), hS, RV_of_bool⟩
theorem c_cmp_Compare_int64 {W0 : Bse} {m : M} {w : World} {L : List (Nat × List Value)} {TL : List (Nat × Value)} (hS : S W0 m w (L) (TL)) {p0 : Int} (ha0 : inR .i64 p0) {p1 : Int} (ha1 : inR .i64 p1) {r : Int} (h : cmp_Compare_int64 p0 p1 = some r) :
    Calls Try.prog 119 [(.int .i64 p0), (.int .i64 p1)].toArray w (Ret fun v w' => ∃ m', M.le m m' ∧ S W0 m' w' (L) (TL) ∧ RV (kInt .i64) m' v r) := by
 refine kcall Try.func119 rfl Try.ntmps119 (Nat.le_of_ble_eq_true rfl) fun a hE => ?_
 have hE : Env 20 a [(0, (.int .i64 p0)), (1, (.int .i64 p1))] := hE
 unfold cmp_Compare_int64 at h
 refine kseq (kreg ?_)
 refine qa hE rfl rfl fun a hE => ?_
 refine knil (kseq (kreg ?_))
 refine qm hE rfl rfl fun a hE => ?_
 obtain ⟨r3, hr4, h⟩ := ob h
 refine st hE (st_call (vs := [(.int .i64 p0)]) hE rfl Try.call136 (c_cmp_isNaN_int64 (hS := hS) ha0 hr4)) rfl ?_
 rintro v8 a w ⟨m5, hm6, hS, hv7⟩ hE
 obtain rfl := RV_bool hv7
 refine qa hE rfl rfl fun a hE => ?_
 refine knil (kseq (kreg ?_))
 refine qm hE rfl rfl fun a hE => ?_
 obtain ⟨r11, hr12, h⟩ := ob h
 refine st hE (st_call (vs := [(.int .i64 p1)]) hE rfl Try.call136 (c_cmp_isNaN_int64 (hS := hS) ha1 hr12)) rfl ?_
 rintro v16 a w ⟨m13, hm14, hS, hv15⟩ hE
 obtain rfl := RV_bool hv15
 refine qa hE rfl rfl fun a hE => ?_
 refine knil (kseq (kseq (kreg ?_)))
 refine qm hE rfl rfl fun a hE => ?_
 refine knil ?_
 refine kif hE rfl (fun hd19 => ?_) (fun hd19 => ?_)
 {
 have h := ite_T hd19 h
 refine kseq (kseq (kreg ?_))
 refine qm hE rfl rfl fun a hE => ?_
 refine knil ?_
 refine kif hE rfl (fun hd21 => ?_) (fun hd21 => ?_)
 {
 have h := ite_T hd21 h
 refine kseq (kreg ?_)
 refine qa hE rfl rfl fun a hE => ?_
 refine knil (kret ?_)
 obtain rfl := oi h
 try dsimp only
 refine Fin.mk hE (rs := [.tmp 4]) rfl (ResL.tmp hE rfl ResL.nil) ?_
 exact ⟨_, (M.le.trans hm6 hm14), hS, (RV_of_int (show inR .i64 0 from inR_lit (by decide)))⟩
 }
 {
 have h := ite_F hd21 h
 refine kskip (kseq (kreg ?_))
 refine qa hE rfl rfl fun a hE => ?_
 refine knil (kret ?_)
 obtain rfl := oi h
 try dsimp only
 refine Fin.mk hE (rs := [.tmp 4]) rfl (ResL.tmp hE rfl ResL.nil) ?_
 exact ⟨_, (M.le.trans hm6 hm14), hS, (RV_of_int (show inR .i64 (-1) from inR_lit (by decide)))⟩
 }
 }
 {
 have h := ite_F hd19 h
 refine kskip (kseq (kseq (kreg ?_)))
 refine qm hE rfl rfl fun a hE => ?_
 refine knil ?_
 refine kif hE rfl (fun hd25 => ?_) (fun hd25 => ?_)
 {
 have h := ite_T hd25 h
 refine kseq (kreg ?_)
 refine qa hE rfl rfl fun a hE => ?_
 refine knil (kret ?_)
 obtain rfl := oi h
 try dsimp only
 refine Fin.mk hE (rs := [.tmp 4]) rfl (ResL.tmp hE rfl ResL.nil) ?_
 exact ⟨_, (M.le.trans hm6 hm14), hS, (RV_of_int (show inR .i64 1 from inR_lit (by decide)))⟩
 }
 {
 have h := ite_F hd25 h
 refine kskip (kseq (kseq (kreg ?_)))
 refine qm hE rfl rfl fun a hE => ?_
 refine qm hE rfl rfl fun a hE => ?_
 refine sp hE (r_bin hE rfl rfl b_lss) rfl fun a hE => ?_
 refine knil ?_
 refine kif hE rfl (fun hd30 => ?_) (fun hd30 => ?_)
 {
 have h := ite_T hd30 h
 refine kseq (kreg ?_)
 refine qa hE rfl rfl fun a hE => ?_
 refine knil (kret ?_)
 obtain rfl := oi h
 try dsimp only
 refine Fin.mk hE (rs := [.tmp 4]) rfl (ResL.tmp hE rfl ResL.nil) ?_
 exact ⟨_, (M.le.trans hm6 hm14), hS, (RV_of_int (show inR .i64 (-1) from inR_lit (by decide)))⟩
 }
 {
 have h := ite_F hd30 h
 refine kskip (kseq (kseq (kreg ?_)))
 refine qm hE rfl rfl fun a hE => ?_
 refine qm hE rfl rfl fun a hE => ?_
 refine sp hE (r_bin hE rfl rfl b_gtr) rfl fun a hE => ?_
 refine knil ?_
 refine kif hE rfl (fun hd35 => ?_) (fun hd35 => ?_)
 {
 have h := ite_T hd35 h
 refine kseq (kreg ?_)
 refine qa hE rfl rfl fun a hE => ?_
 refine knil (kret ?_)
 obtain rfl := oi h
 try dsimp only
 refine Fin.mk hE (rs := [.tmp 4]) rfl (ResL.tmp hE rfl ResL.nil) ?_
 exact ⟨_, (M.le.trans hm6 hm14), hS, (RV_of_int (show inR .i64 1 from inR_lit (by decide)))⟩
 }
 {
 have h := ite_F hd35 h
 refine kskip (kseq (kreg ?_))
 refine qa hE rfl rfl fun a hE => ?_
 refine knil (kret ?_)
 obtain rfl := oi h
 try dsimp only
 refine Fin.mk hE (rs := [.tmp 4]) rfl (ResL.tmp hE rfl ResL.nil) ?_
 exact ⟨_, (M.le.trans hm6 hm14), hS, (RV_of_int (show inR .i64 0 from inR_lit (by decide)))⟩
 }
 }
 }
 }
theorem c_bytealg_CompareString {W0 : Bse} {m : M} {w : World} {L : List (Nat × List Value)} {TL : List (Nat × Value)} (hS : S W0 m w (L) (TL)) {p0 : List Int} (ha0 : ∀ n ∈ p0, 0 ≤ n ∧ n < 256) (hl0_ : p0.length ≤ maxSz) {p1 : List Int} (ha1 : ∀ n ∈ p1, 0 ≤ n ∧ n < 256) (hl1_ : p1.length ≤ maxSz) {r : Int} (h : bytealg_CompareString p0 p1 = some r) :
    Calls Try.prog 137 [(.string (bts p0)), (.string (bts p1))].toArray w (Ret fun v w' => ∃ m', M.le m m' ∧ S W0 m' w' (L) (TL) ∧ RV (kInt .i64) m' v r) := by
 refine kcall Try.func137 rfl Try.ntmps137 (Nat.le_of_ble_eq_true rfl) fun a hE => ?_
 have hE : Env 8 a [(0, (.string (bts p0))), (1, (.string (bts p1)))] := hE
 unfold bytealg_CompareString at h
 refine kseq (kreg ?_)
 refine qa hE rfl rfl fun a hE => ?_
 refine knil (kseq (kreg ?_))
 refine qm hE rfl rfl fun a hE => ?_
 refine qm hE rfl rfl fun a hE => ?_
 refine sp hE (st_cmpstr hE Try.func154 (by kernel_rfl) (by kernel_rfl) (by kernel_rfl) (by kernel_rfl) rfl ha0 ha1) rfl fun a hE => ?_
 refine qa hE rfl rfl fun a hE => ?_
 refine knil (kret ?_)
 obtain rfl := oi h
 try dsimp only
 refine Fin.mk hE (rs := [.tmp 4]) rfl (ResL.tmp hE rfl ResL.nil) ?_
 exact ⟨_, (M.le.refl _), hS, (RV_of_int (inR_cmpB _ _))⟩
theorem c_strings_Compare {W0 : Bse} {m : M} {w : World} {L : List (Nat × List Value)} {TL : List (Nat × Value)} (hS : S W0 m w (L) (TL)) {p0 : List Int} (ha0 : ∀ n ∈ p0, 0 ≤ n ∧ n < 256) (hl0_ : p0.length ≤ maxSz) {p1 : List Int} (ha1 : ∀ n ∈ p1, 0 ≤ n ∧ n < 256) (hl1_ : p1.length ≤ maxSz) {r : Int} (h : strings_Compare p0 p1 = some r) :
    Calls Try.prog 120 [(.string (bts p0)), (.string (bts p1))].toArray w (Ret fun v w' => ∃ m', M.le m m' ∧ S W0 m' w' (L) (TL) ∧ RV (kInt .i64) m' v r) := by
 refine kcall Try.func120 rfl Try.ntmps120 (Nat.le_of_ble_eq_true rfl) fun a hE => ?_
 have hE : Env 8 a [(0, (.string (bts p0))), (1, (.string (bts p1)))] := hE
 unfold strings_Compare at h
 refine kseq (kreg ?_)
 refine qa hE rfl rfl fun a hE => ?_
 refine knil (kseq (kreg ?_))
 refine qm hE rfl rfl fun a hE => ?_
 refine qm hE rfl rfl fun a hE => ?_
 obtain ⟨r4, hr5, h⟩ := ob h
 refine st hE (st_call (vs := [(.string (bts p0)), (.string (bts p1))]) hE rfl Try.call137 (c_bytealg_CompareString (hS := hS) ha0 hl0_ ha1 hl1_ hr5)) rfl ?_
 rintro v9 a w ⟨m6, hm7, hS, hv8⟩ hE
 obtain ⟨rfl, hr10⟩ := RV_int hv8
 refine qa hE rfl rfl fun a hE => ?_
 refine knil (kret ?_)
 obtain rfl := oi h
 try dsimp only
 refine Fin.mk hE (rs := [.tmp 4]) rfl (ResL.tmp hE rfl ResL.nil) ?_
 exact ⟨_, hm7, hS, (RV_of_int hr10)⟩
theorem c_value_Compare {W0 : Bse} {m : M} {w : World} {L : List (Nat × List Value)} {TL : List (Nat × Value)} (hS : S W0 m w (L) (TL)) {v0 : Value} {p0 : AV} (ha0 : RV kAV m v0 p0) {v1 : Value} {p1 : AV} (ha1 : RV kAV m v1 p1) {r : Int} (h : value_Compare p0 p1 = some r) :
    Calls Try.prog 74 [v0, v1].toArray w (Ret fun v w' => ∃ m', M.le m m' ∧ S W0 m' w' (L) (TL) ∧ RV (kInt .i64) m' v r) := by
 refine kcall Try.func74 rfl Try.ntmps74 (Nat.le_of_ble_eq_true rfl) fun a hE => ?_
 have hE : Env 47 a [(0, v0), (1, v1)] := hE
 unfold value_Compare at h
 refine kseq (kreg ?_)
 refine st hE (st_box (k := kAV) hE hS rfl ha0) rfl ?_
 rintro _ a w ⟨b1, cs2, rfl, hc3, hS⟩ hE
 refine st hE (st_box (k := kAV) hE hS rfl ha1) rfl ?_
 rintro _ a w ⟨b5, cs6, rfl, hc7, hS⟩ hE
 refine qa hE rfl rfl fun a hE => ?_
 refine knil (kseq (kblock (kseq (kreg ?_))))
 refine sp hE (r_fieldL hE fo53_0 rfl) rfl fun a hE => ?_
 refine st hE (st_loadL hE hS ty3 rfl (i := 1) rfl (fl53_0.R_drop (R_whole hc3))) rfl ?_
 rintro v12 a _ ⟨rfl, hv11⟩ hE
 obtain ⟨rfl, hr13⟩ := RV_int hv11
 refine sp hE (r_fieldL hE fo53_0 rfl) rfl fun a hE => ?_
 refine st hE (st_loadL hE hS ty3 rfl (i := 0) rfl (fl53_0.R_drop (R_whole hc7))) rfl ?_
 rintro v16 a _ ⟨rfl, hv15⟩ hE
 obtain ⟨rfl, hr17⟩ := RV_int hv15
 refine sp hE (r_bin hE rfl rfl b_neq) rfl fun a hE => ?_
 refine qa hE rfl rfl fun a hE => ?_
 refine knil ?_
 refine kif hE rfl (fun hd20 => ?_) (fun hd20 => ?_)
 {
 have h := ite_T hd20 h
 refine kseq (kreg ?_)
 refine sp hE (r_fieldL hE fo53_0 rfl) rfl fun a hE => ?_
 refine st hE (st_loadL hE hS ty3 rfl (i := 1) rfl (fl53_0.R_drop (R_whole hc3))) rfl ?_
 rintro v23 a _ ⟨rfl, hv22⟩ hE
 obtain ⟨rfl, hr24⟩ := RV_int hv22
 refine sp hE (r_fieldL hE fo53_0 rfl) rfl fun a hE => ?_
 refine st hE (st_loadL hE hS ty3 rfl (i := 0) rfl (fl53_0.R_drop (R_whole hc7))) rfl ?_
 rintro v27 a _ ⟨rfl, hv26⟩ hE
 obtain ⟨rfl, hr28⟩ := RV_int hv26
 obtain ⟨r29, hr30, h⟩ := ob h
 refine st hE (st_call (vs := [(.int .i64 p0.fKind), (.int .i64 p1.fKind)]) hE rfl Try.call118 (c_cmp_Compare_int (hS := hS) hr24 hr28 hr30)) rfl ?_
 rintro v34 a w ⟨m31, hm32, hS, hv33⟩ hE
 obtain ⟨rfl, hr35⟩ := RV_int hv33
 refine qa hE rfl rfl fun a hE => ?_
 refine knil (kret ?_)
 obtain rfl := oi h
 try dsimp only
 refine Fin.mk hE (rs := [.tmp 4]) rfl (ResL.tmp hE rfl ResL.nil) ?_
 exact ⟨_, hm32, (hS.dropL 2), (RV_of_int hr35)⟩
 }
 {
 have h := ite_F hd20 h
 refine kseq ?_
 refine kcut (fun a w => ∃ x39 : Bool, value_Compare_j1 p0 p1 x39 = some r ∧ ∃ m', M.le m m' ∧ S W0 m' w ((b5, cs6) :: (b1, cs2) :: L) (TL) ∧ Env 47 a [(2, (.pointer (some ⟨b1, 0, none⟩))), (3, (.pointer (some ⟨b5, 0, none⟩))), (16, (.bool x39))]) ?_ ?_
 {
 refine kreg ?_
 refine sp hE (r_fieldL hE fo53_0 rfl) rfl fun a hE => ?_
 refine st hE (st_loadL hE hS ty3 rfl (i := 1) rfl (fl53_0.R_drop (R_whole hc3))) rfl ?_
 rintro v99 a _ ⟨rfl, hv98⟩ hE
 obtain ⟨rfl, hr100⟩ := RV_int hv98
 refine sp hE (r_bin hE rfl rfl b_eql) rfl fun a hE => ?_
 refine qm hE rfl rfl fun a hE => ?_
 rcases Bool.eq_false_or_eq_true (p0.fKind == 1) with hd103 | hd103
 {
 have h := ite_T hd103 h
 refine spg hE rfl rfl rfl rfl hd103 (r_fieldL hE fo53_1 rfl) rfl fun a hE => ?_
 refine stg hE rfl rfl rfl rfl hd103 (st_loadL hE hS ty4 rfl (i := 1) rfl (fl53_1.R_drop (R_whole hc3))) rfl ?_
 rintro v106 a _ ⟨rfl, hv105⟩ hE
 obtain rfl := RV_bool hv105
 refine spg hE rfl rfl rfl rfl hd103 (r_fieldL hE fo53_1 rfl) rfl fun a hE => ?_
 refine stg hE rfl rfl rfl rfl hd103 (st_loadL hE hS ty4 rfl (i := 0) rfl (fl53_1.R_drop (R_whole hc7))) rfl ?_
 rintro v109 a _ ⟨rfl, hv108⟩ hE
 obtain rfl := RV_bool hv108
 refine spg hE rfl rfl rfl rfl hd103 (r_neqB hE rfl rfl Try.underlying4) rfl fun a hE => ?_
 refine sp hE (r_pickT hE rfl hd103 rfl) rfl fun a hE => ?_
 refine qa hE rfl rfl fun a hE => ?_
 refine knil ?_
 exact ⟨(!(p0.fBool == p1.fBool)), h, _, (M.le.refl _), hS, hE.cut ⟨rfl, rfl, rfl, trivial⟩⟩
 }
 {
 have h := ite_F hd103 h
 refine sx hE rfl rfl rfl rfl hd103 rfl fun a hE => ?_
 refine sx hE rfl rfl rfl rfl hd103 rfl fun a hE => ?_
 refine sx hE rfl rfl rfl rfl hd103 rfl fun a hE => ?_
 refine sx hE rfl rfl rfl rfl hd103 rfl fun a hE => ?_
 refine sx hE rfl rfl rfl rfl hd103 rfl fun a hE => ?_
 refine sp hE (r_pickF hE rfl hd103 rfl) rfl fun a hE => ?_
 refine qa hE rfl rfl fun a hE => ?_
 refine knil ?_
 exact ⟨false, h, _, (M.le.refl _), hS, hE.cut ⟨rfl, rfl, rfl, trivial⟩⟩
 }
 }
 {
 rintro a w ⟨x39, h, m37, hm38, hS, hE⟩
 unfold value_Compare_j1 at h
 refine kif hE rfl (fun hd41 => ?_) (fun hd41 => ?_)
 {
 have h := ite_T hd41 h
 refine kseq (kseq (kreg ?_))
 refine sp hE (r_fieldL hE fo53_1 rfl) rfl fun a hE => ?_
 refine st hE (st_loadL hE hS ty4 rfl (i := 0) rfl (fl53_1.R_drop (R_whole (kAV.mono hm38 hc7)))) rfl ?_
 rintro v44 a _ ⟨rfl, hv43⟩ hE
 obtain rfl := RV_bool hv43
 refine knil ?_
 refine kif hE rfl (fun hd45 => ?_) (fun hd45 => ?_)
 {
 have h := ite_T hd45 h
 refine kseq (kreg ?_)
 refine qa hE rfl rfl fun a hE => ?_
 refine knil (kret ?_)
 obtain rfl := oi h
 try dsimp only
 refine Fin.mk hE (rs := [.tmp 4]) rfl (ResL.tmp hE rfl ResL.nil) ?_
 exact ⟨_, hm38, (hS.dropL 2), (RV_of_int (show inR .i64 (-1) from inR_lit (by decide)))⟩
 }
 {
 have h := ite_F hd45 h
 refine kskip (kseq (kreg ?_))
 refine qa hE rfl rfl fun a hE => ?_
 refine knil (kret ?_)
 obtain rfl := oi h
 try dsimp only
 refine Fin.mk hE (rs := [.tmp 4]) rfl (ResL.tmp hE rfl ResL.nil) ?_
 exact ⟨_, hm38, (hS.dropL 2), (RV_of_int (show inR .i64 1 from inR_lit (by decide)))⟩
 }
 }
 {
 have h := ite_F hd41 h
 refine kseq (kreg ?_)
 refine sp hE (r_fieldL hE fo53_0 rfl) rfl fun a hE => ?_
 refine st hE (st_loadL hE hS ty3 rfl (i := 1) rfl (fl53_0.R_drop (R_whole (kAV.mono hm38 hc3)))) rfl ?_
 rintro v50 a _ ⟨rfl, hv49⟩ hE
 obtain ⟨rfl, hr51⟩ := RV_int hv49
 refine sp hE (r_bin hE rfl rfl b_eql) rfl fun a hE => ?_
 refine qa hE rfl rfl fun a hE => ?_
 refine knil ?_
 refine kif hE rfl (fun hd54 => ?_) (fun hd54 => ?_)
 {
 have h := ite_T hd54 h
 refine kseq (kreg ?_)
 refine sp hE (r_fieldL hE fo53_2 rfl) rfl fun a hE => ?_
 refine st hE (st_loadL hE hS ty2 rfl (i := 1) rfl (fl53_2.R_drop (R_whole (kAV.mono hm38 hc3)))) rfl ?_
 rintro v57 a _ ⟨rfl, hv56⟩ hE
 obtain ⟨rfl, hr58⟩ := RV_int hv56
 refine sp hE (r_fieldL hE fo53_2 rfl) rfl fun a hE => ?_
 refine st hE (st_loadL hE hS ty2 rfl (i := 0) rfl (fl53_2.R_drop (R_whole (kAV.mono hm38 hc7)))) rfl ?_
 rintro v61 a _ ⟨rfl, hv60⟩ hE
 obtain ⟨rfl, hr62⟩ := RV_int hv60
 obtain ⟨r63, hr64, h⟩ := ob h
 refine st hE (st_call (vs := [(.int .i64 p0.fInt), (.int .i64 p1.fInt)]) hE rfl Try.call119 (c_cmp_Compare_int64 (hS := hS) hr58 hr62 hr64)) rfl ?_
 rintro v68 a w ⟨m65, hm66, hS, hv67⟩ hE
 obtain ⟨rfl, hr69⟩ := RV_int hv67
 refine qa hE rfl rfl fun a hE => ?_
 refine knil (kret ?_)
 obtain rfl := oi h
 try dsimp only
 refine Fin.mk hE (rs := [.tmp 4]) rfl (ResL.tmp hE rfl ResL.nil) ?_
 exact ⟨_, (M.le.trans hm38 hm66), (hS.dropL 2), (RV_of_int hr69)⟩
 }
 {
 have h := ite_F hd54 h
 refine kseq (kreg ?_)
 refine sp hE (r_fieldL hE fo53_0 rfl) rfl fun a hE => ?_
 refine st hE (st_loadL hE hS ty3 rfl (i := 1) rfl (fl53_0.R_drop (R_whole (kAV.mono hm38 hc3)))) rfl ?_
 rintro v73 a _ ⟨rfl, hv72⟩ hE
 obtain ⟨rfl, hr74⟩ := RV_int hv72
 refine sp hE (r_bin hE rfl rfl b_eql) rfl fun a hE => ?_
 refine qa hE rfl rfl fun a hE => ?_
 refine knil ?_
 refine kif hE rfl (fun hd77 => ?_) (fun hd77 => ?_)
 {
 have h := ite_T hd77 h
 refine kseq (kreg ?_)
 refine sp hE (r_fieldL hE fo53_3 rfl) rfl fun a hE => ?_
 refine st hE (st_loadL hE hS ty9 rfl (i := 1) rfl (fl53_3.R_drop (R_whole (kAV.mono hm38 hc3)))) rfl ?_
 rintro v80 a _ ⟨rfl, hv79⟩ hE
 obtain ⟨rfl, hb81, hl82⟩ := RV_str hv79
 refine sp hE (r_fieldL hE fo53_3 rfl) rfl fun a hE => ?_
 refine st hE (st_loadL hE hS ty9 rfl (i := 0) rfl (fl53_3.R_drop (R_whole (kAV.mono hm38 hc7)))) rfl ?_
 rintro v85 a _ ⟨rfl, hv84⟩ hE
 obtain ⟨rfl, hb86, hl87⟩ := RV_str hv84
 obtain ⟨r88, hr89, h⟩ := ob h
 refine st hE (st_call (vs := [(.string (bts p0.fText)), (.string (bts p1.fText))]) hE rfl Try.call120 (c_strings_Compare (hS := hS) hb81 hl82 hb86 hl87 hr89)) rfl ?_
 rintro v93 a w ⟨m90, hm91, hS, hv92⟩ hE
 obtain ⟨rfl, hr94⟩ := RV_int hv92
 refine qa hE rfl rfl fun a hE => ?_
 refine knil (kret ?_)
 obtain rfl := oi h
 try dsimp only
 refine Fin.mk hE (rs := [.tmp 4]) rfl (ResL.tmp hE rfl ResL.nil) ?_
 exact ⟨_, (M.le.trans hm38 hm91), (hS.dropL 2), (RV_of_int hr94)⟩
 }
 {
 have h := ite_F hd77 h
 refine kskip (kseq (kreg ?_))
 refine qa hE rfl rfl fun a hE => ?_
 refine knil (kret ?_)
 obtain rfl := oi h
 try dsimp only
 refine Fin.mk hE (rs := [.tmp 4]) rfl (ResL.tmp hE rfl ResL.nil) ?_
 exact ⟨_, hm38, (hS.dropL 2), (RV_of_int (show inR .i64 0 from inR_lit (by decide)))⟩
 }
 }
 }
 }
 }
theorem c_slices_Index_Value {W0 : Bse} {m : M} {w : World} {L : List (Nat × List Value)} {TL : List (Nat × Value)} (hS : S W0 m w (L) (TL)) {v0 : Value} {p0 : (List AV)} (ha0 : RV (kSl kAV) m v0 p0) {v1 : Value} {p1 : AV} (ha1 : RV kAV m v1 p1) {r : Int} (h : slices_Index_Value p0 p1 = some r) :
    Calls Try.prog 104 [v0, v1].toArray w (Ret fun v w' => ∃ m', M.le m m' ∧ S W0 m' w' (L) (TL) ∧ RV (kInt .i64) m' v r) := by
 refine kcall Try.func104 rfl Try.ntmps104 (Nat.le_of_ble_eq_true rfl) fun a hE => ?_
 have hE : Env 19 a [(0, v0), (1, v1)] := hE
 unfold slices_Index_Value at h
 refine kseq (kreg ?_)
 refine st hE (st_box (k := kAV) hE hS rfl ha1) rfl ?_
 rintro _ a w ⟨b1, cs2, rfl, hc3, hS⟩ hE
 refine qa hE rfl rfl fun a hE => ?_
 refine knil (kseq (kseq (kreg ?_)))
 refine qm hE rfl rfl fun a hE => ?_
 refine sp hE (r_lenSl (k := kAV) hE rfl rfl Try.underlying29 ha0) rfl fun a hE => ?_
 refine qm hE rfl rfl fun a hE => ?_
 refine knil ?_
 refine kcut (fun a w => slices_Index_Value_j1 = some r ∧ ∃ m', M.le m m' ∧ S W0 m' w ((b1, cs2) :: L) (TL) ∧ Env 19 a []) ?_ ?_
 {
 refine kblock ?_
 refine kloop h (fun (s : Int) a w => ∃ m', M.le m m' ∧ inR .i64 s ∧ S W0 m' w ((b1, cs2) :: L) (TL) ∧ Env 19 a [(0, v0), (3, (.pointer (some ⟨b1, 0, none⟩))), (7, (.int .i64 (p0.length : Int))), (8, (.int .i64 s))]) ?_ ?_
 {
 exact ⟨_, (M.le.refl _), (show inR .i64 0 from inR_lit (by decide)), hS, hE.cut ⟨rfl, rfl, rfl, rfl, trivial⟩⟩
 }
 {
 rintro x15 a w ⟨m13, hm14, hr16, hS, hE⟩ r17 h hb18
 have h : slices_Index_Value_b1 p0 p1 x15 = some r17 := h
 unfold slices_Index_Value_b1 at h
 refine kseq (kreg ?_)
 refine sp hE (r_bin hE rfl rfl b_lss) rfl fun a hE => ?_
 refine knil (kseq ?_)
 refine kif hE rfl (fun hd20 => ?_) (fun hd20 => ?_)
 {
 have h := ite_T hd20 h
 refine kskip (kseq (kblock (kseq (kreg ?_))))
 refine qm hE rfl rfl fun a hE => ?_
 refine qa hE rfl rfl fun a hE => ?_
 refine knil (kseq ?_)
 obtain ⟨x24, hx25, h⟩ := ob h
 refine kchain (k := 5) (m := m13) (es := []) (Φ := (fun i m ws v => match i with | 0 => RV kAV m v p1 | 1 => v = v0 | 2 => v = (.int .i64 x15) ∧ inR .i64 x15 | 3 => PR kAV m v x24 | 4 => RV kAV m v x24 | _ => True)) (Q := (fun c m ws L' TL' => match c with | 0 => (b1, cs2) :: L = L' ∧ TL = TL' | _ => False)) (cs := [⟨0, 0, false, [(3, (.pointer (some ⟨b1, 0, none⟩)))]⟩, ⟨0, 0, false, [(0, v0)]⟩, ⟨0, 0, false, [(5, (.int .i64 x15))]⟩, ⟨0, 0, false, []⟩, ⟨0, 0, false, []⟩]) mixed hE hS ⟨rfl, rfl⟩ rfl rfl ⟨⟨rfl, trivial⟩, ⟨rfl, trivial⟩, ⟨rfl, trivial⟩, trivial, trivial, trivial⟩ (by kernel_rfl) ?_ ?_ ?_ ?_
 {
 intro i m_ m2_ ws v hm_ hp_
 match i, hp_ with
 | 0, hp_ => exact RV.mono hp_ hm_
 | 1, hp_ => exact hp_
 | 2, hp_ => exact hp_
 | 3, hp_ => exact PR.mono hp_ hm_
 | 4, hp_ => exact RV.mono hp_ hm_
 | _ + 5, hp_ => exact trivial
 }
 {
 intro c m_ m2_ ws L_ T_ hm_ hq_
 match c, hq_ with
 | 0, ⟨e1_, e2_⟩ => exact ⟨e1_, e2_⟩
 | _ + 1, hq_ => exact hq_.elim
 }
 {
 refine ⟨?_, ?_, ?_, ?_, ?_, trivial⟩
 {
 refine cplain fun pre_ post_ L_ T_ m' a' w' hl' hp' hm' hq' hS' hE' hT' => ?_
 obtain rfl := len0 hl'
 obtain rfl := len0 (lenz (a := 0) hp')
 obtain ⟨rfl, rfl⟩ := hq'
 refine Step.imp (st_loadL hE' hS' ty53 rfl (i := 0) rfl (R_whole (kAV.mono (M.le.trans hm14 hm') hc3))) ?_
 rintro v28 _ ⟨rfl, hv23⟩
 exact ⟨_, M.le.refl _, hS', hv23⟩
 }
 {
 refine cplain fun pre_ post_ L_ T_ m' a' w' hl' hp' hm' hq' hS' hE' hT' => ?_
 obtain rfl := len0 hl'
 refine Step.imp (Run1.pure (r_move hE' rfl)) ?_
 rintro _ _ ⟨rfl, rfl⟩
 exact ⟨_, M.le.refl _, hS', rfl⟩
 }
 {
 refine cplain fun pre_ post_ L_ T_ m' a' w' hl' hp' hm' hq' hS' hE' hT' => ?_
 obtain rfl := len0 hl'
 refine Step.imp (Run1.pure (r_move hE' rfl)) ?_
 rintro _ _ ⟨rfl, rfl⟩
 exact ⟨_, M.le.refl _, hS', ⟨rfl, hr16⟩⟩
 }
 {
 refine cplain fun pre_ post_ L_ T_ m' a' w' hl' hp' hm' hq' hS' hE' hT' => ?_
 obtain rfl := len0 hl'
 obtain ⟨v31, e32, q33⟩ : ∃ v, a'.tmps.getD 12 undef = v ∧ (v = v0) := ⟨_, rfl, hT' 1 (by decide) 12 rfl⟩
 have hE := hE'.add (e32.trans q33)
 obtain ⟨v34, e35, q36⟩ : ∃ v, a'.tmps.getD 13 undef = v ∧ (v = (.int .i64 x15) ∧ inR .i64 x15) := ⟨_, rfl, hT' 2 (by decide) 13 rfl⟩
 obtain ⟨q36, hr37⟩ := q36
 have hE := hE.add (e35.trans q36)
 refine Step.imp (st_index (k := kAV) hE rfl rfl Try.underlying29 Try.sizeOf53 (ha0.mono (M.le.trans hm14 hm')) hx25) ?_
 rintro v38 _ ⟨rfl, hp26⟩
 exact ⟨_, M.le.refl _, hS', hp26⟩
 }
 {
 refine cplain fun pre_ post_ L_ T_ m' a' w' hl' hp' hm' hq' hS' hE' hT' => ?_
 obtain rfl := len0 hl'
 obtain ⟨v39, e40, q41⟩ : ∃ v, a'.tmps.getD 14 undef = v ∧ (PR kAV m' v x24) := ⟨_, rfl, hT' 3 (by decide) 14 rfl⟩
 have hE := hE'.add (e40)
 refine Step.imp (st_loadM hE hS' ty53 rfl q41) ?_
 rintro v42 _ ⟨rfl, hv27⟩
 exact ⟨_, M.le.refl _, hS', hv27⟩
 }
 }
 {
 intro ws_ L_ T_ m43 a w hl44 hm45 hq46 hS hd47 hn48 ho49 hT50
 obtain rfl := len0 hl44
 obtain ⟨rfl, rfl⟩ := hq46
 have hE := EnvD.of (k := 5) (l' := [(0, v0), (3, (.pointer (some ⟨b1, 0, none⟩))), (5, (.int .i64 x15)), (7, (.int .i64 (p0.length : Int))), (8, (.int .i64 x15)), (9, (.bool (decide (x15 < (p0.length : Int))))), (10, (.int .i64 x15))]) hd47 hn48 ho49 ⟨rfl, rfl, rfl, rfl, rfl, rfl, rfl, trivial⟩ rfl
 obtain ⟨v51, e52, q53⟩ : ∃ v, a.tmps.getD 11 undef = v ∧ (RV kAV m43 v p1) := ⟨_, rfl, hT50 0 (by decide) 11 rfl⟩
 have hE := hE.add (e52)
 obtain ⟨v54, e55, q56⟩ : ∃ v, a.tmps.getD 15 undef = v ∧ (RV kAV m43 v x24) := ⟨_, rfl, hT50 4 (by decide) 15 rfl⟩
 have hE := hE.add (e55)
 refine sp hE (r_eqlK hE eq53 rfl rfl q53 q56 rfl) rfl fun a hE => ?_
 refine knil ?_
 refine kif hE rfl (fun hd58 => ?_) (fun hd58 => ?_)
 {
 have h := ite_T hd58 h
 refine kseq (kreg ?_)
 refine qm hE rfl rfl fun a hE => ?_
 refine qa hE rfl rfl fun a hE => ?_
 refine knil (kret ?_)
 have h := unwrap h hb18
 obtain rfl := oi h
 try dsimp only
 refine Fin.mk hE (rs := [.tmp 4]) rfl (ResL.tmp hE rfl ResL.nil) ?_
 exact ⟨_, (M.le.trans hm14 hm45), (hS.dropL 1), (RV_of_int hr16)⟩
 }
 {
 have h := ite_F hd58 h
 refine kskip (kreg ?_)
 refine sp hE (r_bin hE rfl rfl (b_add rfl)) rfl fun a hE => ?_
 refine qm hE rfl rfl fun a hE => ?_
 refine knil ?_
 exact ⟨IntKind.i64.wrap (x15 + 1), (Option.some.inj h).symm, _, (M.le.trans hm14 hm45), (inR_wrap _ _), hS, hE.cut ⟨rfl, rfl, rfl, rfl, trivial⟩⟩
 }
 }
 }
 {
 have h := ite_F hd20 h
 refine kexit rfl rfl ?_
 have h := unwrap h hb18
 exact ⟨h, _, hm14, hS, hE.cut trivial⟩
 }
 }
 }
 {
 rintro a w ⟨h, m9, hm10, hS, hE⟩
 unfold slices_Index_Value_j1 at h
 refine kseq (kreg ?_)
 refine qa hE rfl rfl fun a hE => ?_
 refine knil (kret ?_)
 obtain rfl := oi h
 try dsimp only
 refine Fin.mk hE (rs := [.tmp 4]) rfl (ResL.tmp hE rfl ResL.nil) ?_
 exact ⟨_, hm10, (hS.dropL 1), (RV_of_int (show inR .i64 (-1) from inR_lit (by decide)))⟩
 }
theorem c_encode_packed {W0 : Bse} {m : M} {w : World} {L : List (Nat × List Value)} {TL : List (Nat × Value)} (hS : S W0 m w (L) (TL)) {v0 : Value} {p0 : (List Int)} (ha0 : RV (kSl (kInt .u64)) m v0 p0) {p1 : Int} (ha1 : inR .i64 p1) {r : (List Int)} (h : encode_packed p0 p1 = some r) :
    Calls Try.prog 105 [v0, (.int .i64 p1)].toArray w (Ret fun v w' => ∃ m', M.le m m' ∧ S W0 m' w' (L) (TL) ∧ RV (kSl (kInt .u8)) m' v r) := by
 refine kcall Try.func105 rfl Try.ntmps105 (Nat.le_of_ble_eq_true rfl) fun a hE => ?_
 have hE : Env 51 a [(0, v0), (1, (.int .i64 p1))] := hE
 unfold encode_packed at h
 refine kseq (kreg ?_)
 refine qa hE rfl rfl fun a hE => ?_
 refine knil (kseq (kreg ?_))
 refine qm hE rfl rfl fun a hE => ?_
 refine sp hE (r_lenSl (k := (kInt .u64)) hE rfl rfl Try.underlying125 ha0) rfl fun a hE => ?_
 refine qm hE rfl rfl fun a hE => ?_
 refine sp hE (r_bin hE rfl rfl (b_mul rfl)) rfl fun a hE => ?_
 refine sp hE (r_bin hE rfl rfl (b_add rfl)) rfl fun a hE => ?_
 refine sp hE (r_bin hE rfl rfl (b_quo rfl (by decide))) rfl fun a hE => ?_
 obtain ⟨z8, hz9, h⟩ := ob h
 refine st hE (st_makeG (k := (kInt .u8)) (m := m) hE hS rfl rfl Try.underlying37 Try.type5 rfl rfl rfl (fun m => zr5 m) hz9 rfl rfl) rfl ?_
 rintro v13 a w ⟨b10, cs11, hc12, hS⟩ hE
 refine qa hE rfl rfl fun a hE => ?_
 refine knil (kseq (kseq (kreg ?_)))
 refine qm hE rfl rfl fun a hE => ?_
 refine sp hE (r_lenSl (k := (kInt .u64)) hE rfl rfl Try.underlying125 ha0) rfl fun a hE => ?_
 refine qm hE rfl rfl fun a hE => ?_
 refine knil ?_
 refine kcut (fun a w => ∃ x20 : (List Int), encode_packed_j1 x20 = some r ∧ ∃ m', M.le m m' ∧ ∃ (v21 : Value), RV (kSl (kInt .u8)) m' v21 x20 ∧ S W0 m' w (L) (TL) ∧ Env 51 a [(5, v21)]) ?_ ?_
 {
 refine kblock ?_
 refine kloop h (fun (s : (Int × (List Int))) a w => ∃ m', M.le m m' ∧ ∃ (cs31 : List Value), inR .i64 s.1 ∧ GS (kInt .u8) m' b10 cs31 v13 s.2 ∧ S W0 m' w ((b10, cs31) :: L) (TL) ∧ Env 51 a [(1, (.int .i64 p1)), (5, v13), (17, v0), (18, (.int .i64 (p0.length : Int))), (19, (.int .i64 s.1))]) ?_ ?_
 {
 exact ⟨_, (M.le.refl _), cs11, (show inR .i64 0 from inR_lit (by decide)), hc12, hS, hE.cut ⟨rfl, rfl, rfl, rfl, rfl, trivial⟩⟩
 }
 {
 rintro ⟨x28, x30⟩ a w ⟨m26, hm27, cs31, hr29, hc32, hS, hE⟩ r33 h hb34
 have h : encode_packed_b1 p0 p1 x28 x30 = some r33 := h
 unfold encode_packed_b1 at h
 refine kseq (kreg ?_)
 refine sp hE (r_bin hE rfl rfl b_lss) rfl fun a hE => ?_
 refine knil (kseq ?_)
 refine kif hE rfl (fun hd36 => ?_) (fun hd36 => ?_)
 {
 have h := ite_T hd36 h
 refine kskip (kseq ?_)
 refine kcut (fun a w => ∃ x39 : (List Int), encode_packed_j2 x28 x39 = some r33 ∧ ∃ m', M.le m26 m' ∧ ∃ (cs40 : List Value), GS (kInt .u8) m' b10 cs40 v13 x39 ∧ S W0 m' w ((b10, cs40) :: L) (TL) ∧ Env 51 a [(1, (.int .i64 p1)), (5, v13), (17, v0), (18, (.int .i64 (p0.length : Int))), (19, (.int .i64 x28))]) ?_ ?_
 {
 refine kblock (kseq (kreg ?_))
 refine qm hE rfl rfl fun a hE => ?_
 obtain ⟨x46, hx47, h⟩ := ob h
 refine st hE (st_index (k := (kInt .u64)) hE rfl rfl Try.underlying125 Try.sizeOf24 (ha0.mono hm27) hx47) rfl ?_
 rintro v49 a _ ⟨rfl, hp48⟩ hE
 refine st hE (st_loadM hE hS ty24 rfl hp48) rfl ?_
 rintro v51 a _ ⟨rfl, hv50⟩ hE
 obtain ⟨rfl, hr52⟩ := RV_int hv50
 refine qa hE rfl rfl fun a hE => ?_
 refine qa hE rfl rfl fun a hE => ?_
 refine knil (kseq (kreg ?_))
 refine qm hE rfl rfl fun a hE => ?_
 refine qm hE rfl rfl fun a hE => ?_
 refine knil (kblock ?_)
 refine kloop h (fun (s : (Int × (List Int))) a w => ∃ m', M.le m26 m' ∧ ∃ (cs62 : List Value), inR .i64 s.1 ∧ GS (kInt .u8) m' b10 cs62 v13 s.2 ∧ S W0 m' w ((b10, cs62) :: L) (TL) ∧ Env 51 a [(1, (.int .i64 p1)), (5, v13), (6, (.int .i64 x28)), (7, (.int .u64 x46)), (17, v0), (18, (.int .i64 (p0.length : Int))), (19, (.int .i64 x28)), (24, (.int .i64 p1)), (25, (.int .i64 s.1))]) ?_ ?_
 {
 exact ⟨_, (M.le.refl _), cs31, (show inR .i64 0 from inR_lit (by decide)), hc32, hS, hE.cut ⟨rfl, rfl, rfl, rfl, rfl, rfl, rfl, rfl, rfl, trivial⟩⟩
 }
 {
 rintro ⟨x59, x61⟩ a w ⟨m57, hm58, cs62, hr60, hc63, hS, hE⟩ r64 h hb65
 have h : encode_packed_b2 p1 x28 x46 x59 x61 = some r64 := h
 unfold encode_packed_b2 at h
 refine kseq (kreg ?_)
 refine sp hE (r_bin hE rfl rfl b_lss) rfl fun a hE => ?_
 refine knil (kseq ?_)
 refine kif hE rfl (fun hd67 => ?_) (fun hd67 => ?_)
 {
 have h := ite_T hd67 h
 refine kskip (kseq (kblock (kseq (kreg ?_))))
 refine qm hE rfl rfl fun a hE => ?_
 refine qa hE rfl rfl fun a hE => ?_
 refine knil (kseq (kreg ?_))
 refine qm hE rfl rfl fun a hE => ?_
 refine qm hE rfl rfl fun a hE => ?_
 obtain ⟨u72, hu73, h⟩ := ob h
 refine sp hE (r_bin hE rfl rfl (b_shr rfl (of_decide_eq_true (chk_some hu73)))) rfl fun a hE => ?_
 refine sp hE (r_bin hE rfl rfl (b_and rfl)) rfl fun a hE => ?_
 refine sp hE (r_bin hE rfl rfl b_eql) rfl fun a hE => ?_
 refine knil ?_
 refine kcut (fun a w => ∃ x79 : (List Int), encode_packed_j3 x59 x79 = some r64 ∧ ∃ m', M.le m57 m' ∧ ∃ (cs80 : List Value), GS (kInt .u8) m' b10 cs80 v13 x79 ∧ S W0 m' w ((b10, cs80) :: L) (TL) ∧ Env 51 a [(1, (.int .i64 p1)), (5, v13), (6, (.int .i64 x28)), (7, (.int .u64 x46)), (17, v0), (18, (.int .i64 (p0.length : Int))), (19, (.int .i64 x28)), (24, (.int .i64 p1)), (25, (.int .i64 x59))]) ?_ ?_
 {
 refine kif hE rfl (fun hd85 => ?_) (fun hd85 => ?_)
 {
 have h := ite_T hd85 h
 refine kseq (kreg ?_)
 refine qm hE rfl rfl fun a hE => ?_
 refine qm hE rfl rfl fun a hE => ?_
 refine sp hE (r_bin hE rfl rfl (b_mul rfl)) rfl fun a hE => ?_
 refine qm hE rfl rfl fun a hE => ?_
 refine sp hE (r_bin hE rfl rfl (b_add rfl)) rfl fun a hE => ?_
 refine qa hE rfl rfl fun a hE => ?_
 refine knil ?_
 obtain ⟨j92, hj93, h⟩ := ob h
 obtain ⟨x95, hx96, h⟩ := ob h
 obtain ⟨u98, hu99, h⟩ := ob h
 refine kchain (k := 8) (m := m57) (es := []) (Φ := (fun i m ws v => match i with | 0 => v = v13 | 1 => v = (.int .i64 (IntKind.i64.wrap ((IntKind.i64.wrap (x28 * p1)) + x59))) ∧ inR .i64 (IntKind.i64.wrap ((IntKind.i64.wrap (x28 * p1)) + x59)) | 2 => v = (.int .i64 (IntKind.i64.wrap ((IntKind.i64.wrap ((IntKind.i64.wrap (x28 * p1)) + x59)).tdiv 8))) ∧ inR .i64 (IntKind.i64.wrap ((IntKind.i64.wrap ((IntKind.i64.wrap (x28 * p1)) + x59)).tdiv 8)) | 3 => v = (.pointer (some ⟨b10, j92 * 1, none⟩)) | 4 => v = (.int .u8 x95) ∧ inR .u8 x95 | 5 => v = (.int .i64 (IntKind.i64.wrap ((IntKind.i64.wrap (x28 * p1)) + x59))) ∧ inR .i64 (IntKind.i64.wrap ((IntKind.i64.wrap (x28 * p1)) + x59)) | 6 => v = (.int .i64 ((IntKind.i64.wrap ((IntKind.i64.wrap (x28 * p1)) + x59)).tmod 8)) ∧ inR .i64 ((IntKind.i64.wrap ((IntKind.i64.wrap (x28 * p1)) + x59)).tmod 8) | 7 => v = (.int .u8 (iShl .u8 1 ((IntKind.i64.wrap ((IntKind.i64.wrap (x28 * p1)) + x59)).tmod 8))) ∧ inR .u8 (iShl .u8 1 ((IntKind.i64.wrap ((IntKind.i64.wrap (x28 * p1)) + x59)).tmod 8)) | _ => True)) (Q := (fun c m ws L' TL' => match c with | 0 => (b10, cs62) :: L = L' ∧ TL = TL' | _ => False)) (cs := [⟨0, 0, false, [(5, v13)]⟩, ⟨0, 0, false, [(9, (.int .i64 (IntKind.i64.wrap ((IntKind.i64.wrap (x28 * p1)) + x59))))]⟩, ⟨0, 0, false, []⟩, ⟨0, 0, false, []⟩, ⟨0, 0, false, []⟩, ⟨0, 0, false, [(9, (.int .i64 (IntKind.i64.wrap ((IntKind.i64.wrap (x28 * p1)) + x59))))]⟩, ⟨0, 0, false, []⟩, ⟨0, 0, false, []⟩]) mixed hE hS ⟨rfl, rfl⟩ rfl rfl ⟨⟨rfl, trivial⟩, ⟨rfl, trivial⟩, trivial, trivial, trivial, ⟨rfl, trivial⟩, trivial, trivial, trivial⟩ (by kernel_rfl) ?_ ?_ ?_ ?_
 {
 intro i m_ m2_ ws v hm_ hp_
 match i, hp_ with
 | 0, hp_ => exact hp_
 | 1, hp_ => exact hp_
 | 2, hp_ => exact hp_
 | 3, hp_ => exact hp_
 | 4, hp_ => exact hp_
 | 5, hp_ => exact hp_
 | 6, hp_ => exact hp_
 | 7, hp_ => exact hp_
 | _ + 8, hp_ => exact trivial
 }
 {
 intro c m_ m2_ ws L_ T_ hm_ hq_
 match c, hq_ with
 | 0, ⟨e1_, e2_⟩ => exact ⟨e1_, e2_⟩
 | _ + 1, hq_ => exact hq_.elim
 }
 {
 refine ⟨?_, ?_, ?_, ?_, ?_, ?_, ?_, ?_, trivial⟩
 {
 refine cplain fun pre_ post_ L_ T_ m' a' w' hl' hp' hm' hq' hS' hE' hT' => ?_
 obtain rfl := len0 hl'
 refine Step.imp (Run1.pure (r_move hE' rfl)) ?_
 rintro _ _ ⟨rfl, rfl⟩
 exact ⟨_, M.le.refl _, hS', rfl⟩
 }
 {
 refine cplain fun pre_ post_ L_ T_ m' a' w' hl' hp' hm' hq' hS' hE' hT' => ?_
 obtain rfl := len0 hl'
 refine Step.imp (Run1.pure (r_move hE' rfl)) ?_
 rintro _ _ ⟨rfl, rfl⟩
 exact ⟨_, M.le.refl _, hS', ⟨rfl, (inR_wrap _ _)⟩⟩
 }
 {
 refine cplain fun pre_ post_ L_ T_ m' a' w' hl' hp' hm' hq' hS' hE' hT' => ?_
 obtain rfl := len0 hl'
 obtain ⟨v102, e103, q104⟩ : ∃ v, a'.tmps.getD 39 undef = v ∧ (v = (.int .i64 (IntKind.i64.wrap ((IntKind.i64.wrap (x28 * p1)) + x59))) ∧ inR .i64 (IntKind.i64.wrap ((IntKind.i64.wrap (x28 * p1)) + x59))) := ⟨_, rfl, hT' 1 (by decide) 39 rfl⟩
 obtain ⟨q104, hr105⟩ := q104
 have hE := hE'.add (e103.trans q104)
 refine Step.imp (Run1.pure (r_bin hE rfl rfl (b_quo rfl (by decide)))) ?_
 rintro _ _ ⟨rfl, rfl⟩
 exact ⟨_, M.le.refl _, hS', ⟨rfl, (inR_wrap _ _)⟩⟩
 }
 {
 refine cplain fun pre_ post_ L_ T_ m' a' w' hl' hp' hm' hq' hS' hE' hT' => ?_
 obtain rfl := len0 hl'
 obtain rfl := len0 (lenz (a := 0) hp')
 obtain ⟨rfl, rfl⟩ := hq'
 obtain ⟨v107, e108, q109⟩ : ∃ v, a'.tmps.getD 38 undef = v ∧ (v = v13) := ⟨_, rfl, hT' 0 (by decide) 38 rfl⟩
 have hE := hE'.add (e108.trans q109)
 obtain ⟨v110, e111, q112⟩ : ∃ v, a'.tmps.getD 40 undef = v ∧ (v = (.int .i64 (IntKind.i64.wrap ((IntKind.i64.wrap ((IntKind.i64.wrap (x28 * p1)) + x59)).tdiv 8))) ∧ inR .i64 (IntKind.i64.wrap ((IntKind.i64.wrap ((IntKind.i64.wrap (x28 * p1)) + x59)).tdiv 8))) := ⟨_, rfl, hT' 2 (by decide) 40 rfl⟩
 obtain ⟨q112, hr113⟩ := q112
 have hE := hE.add (e111.trans q112)
 refine Step.imp (Run1.pure (r_indexG (k := (kInt .u8)) hE rfl rfl Try.underlying37 Try.sizeOf5 (hc63.mono hm') hj93 rfl)) ?_
 rintro _ _ ⟨rfl, rfl⟩
 exact ⟨_, M.le.refl _, hS', rfl⟩
 }
 {
 refine cplain fun pre_ post_ L_ T_ m' a' w' hl' hp' hm' hq' hS' hE' hT' => ?_
 obtain rfl := len0 hl'
 obtain rfl := len0 (lenz (a := 0) hp')
 obtain ⟨rfl, rfl⟩ := hq'
 obtain ⟨v115, e116, q117⟩ : ∃ v, a'.tmps.getD 41 undef = v ∧ (v = (.pointer (some ⟨b10, j92 * 1, none⟩))) := ⟨_, rfl, hT' 3 (by decide) 41 rfl⟩
 have hE := hE'.add (e116.trans q117)
 refine Step.imp (st_loadL hE hS' ty5 rfl (i := 0) rfl (GS.elem (hc63.mono hm') hx96)) ?_
 rintro v118 _ ⟨rfl, hv94⟩
 obtain ⟨rfl, hr119⟩ := RV_int hv94
 exact ⟨_, M.le.refl _, hS', ⟨rfl, hr119⟩⟩
 }
 {
 refine cplain fun pre_ post_ L_ T_ m' a' w' hl' hp' hm' hq' hS' hE' hT' => ?_
 obtain rfl := len0 hl'
 refine Step.imp (Run1.pure (r_move hE' rfl)) ?_
 rintro _ _ ⟨rfl, rfl⟩
 exact ⟨_, M.le.refl _, hS', ⟨rfl, (inR_wrap _ _)⟩⟩
 }
 {
 refine cplain fun pre_ post_ L_ T_ m' a' w' hl' hp' hm' hq' hS' hE' hT' => ?_
 obtain rfl := len0 hl'
 obtain ⟨v121, e122, q123⟩ : ∃ v, a'.tmps.getD 43 undef = v ∧ (v = (.int .i64 (IntKind.i64.wrap ((IntKind.i64.wrap (x28 * p1)) + x59))) ∧ inR .i64 (IntKind.i64.wrap ((IntKind.i64.wrap (x28 * p1)) + x59))) := ⟨_, rfl, hT' 5 (by decide) 43 rfl⟩
 obtain ⟨q123, hr124⟩ := q123
 have hE := hE'.add (e122.trans q123)
 refine Step.imp (Run1.pure (r_bin hE rfl rfl (b_rem rfl (by decide)))) ?_
 rintro _ _ ⟨rfl, rfl⟩
 exact ⟨_, M.le.refl _, hS', ⟨rfl, (inR_mod hr124)⟩⟩
 }
 {
 refine cplain fun pre_ post_ L_ T_ m' a' w' hl' hp' hm' hq' hS' hE' hT' => ?_
 obtain rfl := len0 hl'
 obtain ⟨v126, e127, q128⟩ : ∃ v, a'.tmps.getD 44 undef = v ∧ (v = (.int .i64 ((IntKind.i64.wrap ((IntKind.i64.wrap (x28 * p1)) + x59)).tmod 8)) ∧ inR .i64 ((IntKind.i64.wrap ((IntKind.i64.wrap (x28 * p1)) + x59)).tmod 8)) := ⟨_, rfl, hT' 6 (by decide) 44 rfl⟩
 obtain ⟨q128, hr129⟩ := q128
 have hE := hE'.add (e127.trans q128)
 refine Step.imp (Run1.pure (r_bin hE rfl rfl (b_shl rfl (of_decide_eq_true (chk_some hu99))))) ?_
 rintro _ _ ⟨rfl, rfl⟩
 exact ⟨_, M.le.refl _, hS', ⟨rfl, (inR_shl _ _ _)⟩⟩
 }
 }
 {
 intro ws_ L_ T_ m131 a w hl132 hm133 hq134 hS hd135 hn136 ho137 hT138
 obtain rfl := len0 hl132
 obtain ⟨rfl, rfl⟩ := hq134
 have hE := EnvD.of (k := 8) (l' := [(1, (.int .i64 p1)), (5, v13), (6, (.int .i64 x28)), (7, (.int .u64 x46)), (8, (.int .i64 x59)), (9, (.int .i64 (IntKind.i64.wrap ((IntKind.i64.wrap (x28 * p1)) + x59)))), (17, v0), (18, (.int .i64 (p0.length : Int))), (19, (.int .i64 x28)), (24, (.int .i64 p1)), (25, (.int .i64 x59)), (26, (.bool (decide (x59 < p1)))), (27, (.int .i64 x59)), (28, (.int .u64 x46)), (29, (.int .i64 x59)), (30, (.int .u64 (iShr .u64 x46 x59))), (31, (.int .u64 (bAnd .u64 (iShr .u64 x46 x59) 1))), (32, (.bool ((bAnd .u64 (iShr .u64 x46 x59) 1) == 1))), (33, (.int .i64 x28)), (34, (.int .i64 p1)), (35, (.int .i64 (IntKind.i64.wrap (x28 * p1)))), (36, (.int .i64 x59)), (37, (.int .i64 (IntKind.i64.wrap ((IntKind.i64.wrap (x28 * p1)) + x59))))]) hd135 hn136 ho137 ⟨rfl, rfl, rfl, rfl, rfl, rfl, rfl, rfl, rfl, rfl, rfl, rfl, rfl, rfl, rfl, rfl, rfl, rfl, rfl, rfl, rfl, rfl, rfl, trivial⟩ rfl
 obtain ⟨v139, e140, q141⟩ : ∃ v, a.tmps.getD 38 undef = v ∧ (v = v13) := ⟨_, rfl, hT138 0 (by decide) 38 rfl⟩
 have hE := hE.add (e140.trans q141)
 obtain ⟨v142, e143, q144⟩ : ∃ v, a.tmps.getD 40 undef = v ∧ (v = (.int .i64 (IntKind.i64.wrap ((IntKind.i64.wrap ((IntKind.i64.wrap (x28 * p1)) + x59)).tdiv 8))) ∧ inR .i64 (IntKind.i64.wrap ((IntKind.i64.wrap ((IntKind.i64.wrap (x28 * p1)) + x59)).tdiv 8))) := ⟨_, rfl, hT138 2 (by decide) 40 rfl⟩
 obtain ⟨q144, hr145⟩ := q144
 have hE := hE.add (e143.trans q144)
 obtain ⟨v146, e147, q148⟩ : ∃ v, a.tmps.getD 42 undef = v ∧ (v = (.int .u8 x95) ∧ inR .u8 x95) := ⟨_, rfl, hT138 4 (by decide) 42 rfl⟩
 obtain ⟨q148, hr149⟩ := q148
 have hE := hE.add (e147.trans q148)
 obtain ⟨v150, e151, q152⟩ : ∃ v, a.tmps.getD 45 undef = v ∧ (v = (.int .u8 (iShl .u8 1 ((IntKind.i64.wrap ((IntKind.i64.wrap (x28 * p1)) + x59)).tmod 8))) ∧ inR .u8 (iShl .u8 1 ((IntKind.i64.wrap ((IntKind.i64.wrap (x28 * p1)) + x59)).tmod 8))) := ⟨_, rfl, hT138 7 (by decide) 45 rfl⟩
 obtain ⟨q152, hr153⟩ := q152
 have hE := hE.add (e151.trans q152)
 refine sp hE (r_bin hE rfl rfl (b_or rfl)) rfl fun a hE => ?_
 obtain ⟨j155, hj156, h⟩ := ob h
 refine sp hE (r_indexG (k := (kInt .u8)) hE rfl rfl Try.underlying37 Try.sizeOf5 (hc63.mono hm133) hj156 rfl) rfl fun a hE => ?_
 obtain ⟨x160, hx161, h⟩ := ob h
 refine st0 hE (st_storeG (k := (kInt .u8)) hE hS ty5 StF_self (hc63.mono hm133) hx161 rfl rfl (RV_of_int (inR_or _ _ _)) (i := 0) rfl) ?_
 rintro _ w ⟨cs158, hc159, hS⟩ hE
 refine knil ?_
 exact ⟨(x61.set j155 (bOr .u8 x95 (iShl .u8 1 ((IntKind.i64.wrap ((IntKind.i64.wrap (x28 * p1)) + x59)).tmod 8)))), h, _, hm133, cs158, hc159, hS, hE.cut ⟨rfl, rfl, rfl, rfl, rfl, rfl, rfl, rfl, rfl, trivial⟩⟩
 }
 }
 {
 have h := ite_F hd85 h
 refine kskip ?_
 exact ⟨x61, h, _, (M.le.refl _), cs62, hc63, hS, hE.cut ⟨rfl, rfl, rfl, rfl, rfl, rfl, rfl, rfl, rfl, trivial⟩⟩
 }
 }
 {
 rintro a w ⟨x79, h, m77, hm78, cs80, hc81, hS, hE⟩
 unfold encode_packed_j3 at h
 refine kreg ?_
 refine sp hE (r_bin hE rfl rfl (b_add rfl)) rfl fun a hE => ?_
 refine qm hE rfl rfl fun a hE => ?_
 refine knil ?_
 exact ⟨(IntKind.i64.wrap (x59 + 1), x79), (Option.some.inj h).symm, _, (M.le.trans hm58 hm78), cs80, (inR_wrap _ _), hc81, hS, hE.cut ⟨rfl, rfl, rfl, rfl, rfl, rfl, rfl, rfl, rfl, trivial⟩⟩
 }
 }
 {
 have h := ite_F hd67 h
 refine kexit rfl rfl ?_
 have h := unwrap h hb65
 exact ⟨x61, h, _, hm58, cs62, hc63, hS, hE.cut ⟨rfl, rfl, rfl, rfl, rfl, trivial⟩⟩
 }
 }
 }
 {
 rintro a w ⟨x39, h, m37, hm38, cs40, hc41, hS, hE⟩
 unfold encode_packed_j2 at h
 refine kreg ?_
 refine sp hE (r_bin hE rfl rfl (b_add rfl)) rfl fun a hE => ?_
 refine qm hE rfl rfl fun a hE => ?_
 refine knil ?_
 exact ⟨(IntKind.i64.wrap (x28 + 1), x39), (Option.some.inj h).symm, _, (M.le.trans hm27 hm38), cs40, (inR_wrap _ _), hc41, hS, hE.cut ⟨rfl, rfl, rfl, rfl, rfl, trivial⟩⟩
 }
 }
 {
 have h := ite_F hd36 h
 obtain ⟨m163, hm164, hS, hv165⟩ := S.freeze hS hc32
 refine kexit rfl rfl ?_
 have h := unwrap h hb34
 exact ⟨x30, h, _, (M.le.trans hm27 hm164), v13, hv165, hS, hE.cut ⟨rfl, trivial⟩⟩
 }
 }
 }
 {
 rintro a w ⟨x20, h, m18, hm19, v21, hv22, hS, hE⟩
 unfold encode_packed_j1 at h
 refine kseq (kreg ?_)
 refine qm hE rfl rfl fun a hE => ?_
 refine qa hE rfl rfl fun a hE => ?_
 refine knil (kret ?_)
 obtain rfl := oi h
 try dsimp only
 refine Fin.mk hE (rs := [.tmp 4]) rfl (ResL.tmp hE rfl ResL.nil) ?_
 exact ⟨_, hm19, hS, hv22⟩
 }
theorem c_slices_Compact_Value_g {W0 : Bse} {m : M} {w : World} {L : List (Nat × List Value)} {TL : List (Nat × Value)} {b0_ : Nat} {c0_ : List Value} (hS : S W0 m w ((b0_, c0_) :: L) (TL)) {v0 : Value} {p0 : (List AV)} (ha0 : GS kAV m b0_ c0_ v0 p0) {r : (List AV)} (h : slices_Compact_Value_g p0 = some r) :
    Calls Try.prog 103 [v0].toArray w (Ret fun v w' => ∃ m', M.le m m' ∧ ∃ bq_ : Nat, ∃ cq_ : List Value, S W0 m' w' ((bq_, cq_) :: L) (TL) ∧ GS kAV m' bq_ cq_ v r) := by
 refine kcall Try.func103 rfl Try.ntmps103 (Nat.le_of_ble_eq_true rfl) fun a hE => ?_
 have hE : Env 61 a [(0, v0)] := hE
 unfold slices_Compact_Value_g at h
 refine kseq (kreg ?_)
 refine qa hE rfl rfl fun a hE => ?_
 refine knil (kseq (kseq (kreg ?_)))
 refine qm hE rfl rfl fun a hE => ?_
 refine sp hE (r_lenG (k := kAV) hE rfl rfl Try.underlying29 ha0) rfl fun a hE => ?_
 refine sp hE (r_bin hE rfl rfl b_lss) rfl fun a hE => ?_
 refine knil ?_
 refine kif hE rfl (fun hd5 => ?_) (fun hd5 => ?_)
 {
 have h := ite_T hd5 h
 refine kseq (kreg ?_)
 refine qm hE rfl rfl fun a hE => ?_
 refine qa hE rfl rfl fun a hE => ?_
 refine knil (kret ?_)
 obtain rfl := oi h
 try dsimp only
 refine Fin.mk hE (rs := [.tmp 2]) rfl (ResL.tmp hE rfl ResL.nil) ?_
 exact ⟨_, (M.le.refl _), b0_, c0_, ((hS.void 0).pickL 2 [1] rfl rfl rfl), ha0⟩
 }
 {
 have h := ite_F hd5 h
 refine kskip (kseq (kseq (kreg ?_)))
 refine qa hE rfl rfl fun a hE => ?_
 refine knil ?_
 refine kcut (fun a w => slices_Compact_Value_g_j1 p0 = some r ∧ ∃ m', M.le m m' ∧ S W0 m' w ((0, []) :: (b0_, c0_) :: L) (TL) ∧ Env 61 a [(0, v0)]) ?_ ?_
 {
 refine kblock ?_
 refine kloop h (fun (s : Int) a w => ∃ m', M.le m m' ∧ inR .i64 s ∧ S W0 m' w ((0, []) :: (b0_, c0_) :: L) (TL) ∧ Env 61 a [(0, v0), (3, (.int .i64 s))]) ?_ ?_
 {
 exact ⟨_, (M.le.refl _), (show inR .i64 1 from inR_lit (by decide)), (hS.void 0), hE.cut ⟨rfl, rfl, trivial⟩⟩
 }
 {
 rintro x16 a w ⟨m14, hm15, hr17, hS, hE⟩ r18 h hb19
 have h : slices_Compact_Value_g_b1 p0 x16 = some r18 := h
 unfold slices_Compact_Value_g_b1 at h
 refine kseq (kseq (kreg ?_))
 refine qm hE rfl rfl fun a hE => ?_
 refine qm hE rfl rfl fun a hE => ?_
 refine sp hE (r_lenG (k := kAV) hE rfl rfl Try.underlying29 (ha0.mono hm15)) rfl fun a hE => ?_
 refine sp hE (r_bin hE rfl rfl b_lss) rfl fun a hE => ?_
 refine knil ?_
 refine kif hE rfl (fun hd24 => ?_) (fun hd24 => ?_)
 {
 have h := ite_T hd24 h
 refine kskip (kseq ?_)
 refine kcut (fun a w => slices_Compact_Value_g_j2 x16 = some r18 ∧ ∃ m', M.le m14 m' ∧ S W0 m' w ((0, []) :: (b0_, c0_) :: L) (TL) ∧ Env 61 a [(0, v0), (3, (.int .i64 x16))]) ?_ ?_
 {
 refine kblock (kseq ?_)
 obtain ⟨j31, hj32, h⟩ := ob h
 obtain ⟨x34, hx35, h⟩ := ob h
 obtain ⟨j36, hj37, h⟩ := ob h
 obtain ⟨x39, hx40, h⟩ := ob h
 refine kchain (k := 9) (m := m14) (es := []) (Φ := (fun i m ws v => match i with | 0 => v = v0 | 1 => v = (.int .i64 x16) ∧ inR .i64 x16 | 2 => v = (.pointer (some ⟨b0_, j31 * 4, none⟩)) | 3 => RV kAV m v x34 | 4 => v = v0 | 5 => v = (.int .i64 x16) ∧ inR .i64 x16 | 6 => v = (.int .i64 (IntKind.i64.wrap (x16 - 1))) ∧ inR .i64 (IntKind.i64.wrap (x16 - 1)) | 7 => v = (.pointer (some ⟨b0_, j36 * 4, none⟩)) | 8 => RV kAV m v x39 | _ => True)) (Q := (fun c m ws L' TL' => match c with | 0 => (0, []) :: (b0_, c0_) :: L = L' ∧ TL = TL' | _ => False)) (cs := [⟨0, 0, false, [(0, v0)]⟩, ⟨0, 0, false, [(3, (.int .i64 x16))]⟩, ⟨0, 0, false, []⟩, ⟨0, 0, false, []⟩, ⟨0, 0, false, [(0, v0)]⟩, ⟨0, 0, false, [(3, (.int .i64 x16))]⟩, ⟨0, 0, false, []⟩, ⟨0, 0, false, []⟩, ⟨0, 0, false, []⟩]) mixed hE hS ⟨rfl, rfl⟩ rfl rfl ⟨⟨rfl, trivial⟩, ⟨rfl, trivial⟩, trivial, trivial, ⟨rfl, trivial⟩, ⟨rfl, trivial⟩, trivial, trivial, trivial, trivial⟩ (by kernel_rfl) ?_ ?_ ?_ ?_
 {
 intro i m_ m2_ ws v hm_ hp_
 match i, hp_ with
 | 0, hp_ => exact hp_
 | 1, hp_ => exact hp_
 | 2, hp_ => exact hp_
 | 3, hp_ => exact RV.mono hp_ hm_
 | 4, hp_ => exact hp_
 | 5, hp_ => exact hp_
 | 6, hp_ => exact hp_
 | 7, hp_ => exact hp_
 | 8, hp_ => exact RV.mono hp_ hm_
 | _ + 9, hp_ => exact trivial
 }
 {
 intro c m_ m2_ ws L_ T_ hm_ hq_
 match c, hq_ with
 | 0, ⟨e1_, e2_⟩ => exact ⟨e1_, e2_⟩
 | _ + 1, hq_ => exact hq_.elim
 }
 {
 refine ⟨?_, ?_, ?_, ?_, ?_, ?_, ?_, ?_, ?_, trivial⟩
 {
 refine cplain fun pre_ post_ L_ T_ m' a' w' hl' hp' hm' hq' hS' hE' hT' => ?_
 obtain rfl := len0 hl'
 refine Step.imp (Run1.pure (r_move hE' rfl)) ?_
 rintro _ _ ⟨rfl, rfl⟩
 exact ⟨_, M.le.refl _, hS', rfl⟩
 }
 {
 refine cplain fun pre_ post_ L_ T_ m' a' w' hl' hp' hm' hq' hS' hE' hT' => ?_
 obtain rfl := len0 hl'
 refine Step.imp (Run1.pure (r_move hE' rfl)) ?_
 rintro _ _ ⟨rfl, rfl⟩
 exact ⟨_, M.le.refl _, hS', ⟨rfl, hr17⟩⟩
 }
 {
 refine cplain fun pre_ post_ L_ T_ m' a' w' hl' hp' hm' hq' hS' hE' hT' => ?_
 obtain rfl := len0 hl'
 obtain rfl := len0 (lenz (a := 0) hp')
 obtain ⟨rfl, rfl⟩ := hq'
 obtain ⟨v43, e44, q45⟩ : ∃ v, a'.tmps.getD 16 undef = v ∧ (v = v0) := ⟨_, rfl, hT' 0 (by decide) 16 rfl⟩
 have hE := hE'.add (e44.trans q45)
 obtain ⟨v46, e47, q48⟩ : ∃ v, a'.tmps.getD 17 undef = v ∧ (v = (.int .i64 x16) ∧ inR .i64 x16) := ⟨_, rfl, hT' 1 (by decide) 17 rfl⟩
 obtain ⟨q48, hr49⟩ := q48
 have hE := hE.add (e47.trans q48)
 refine Step.imp (Run1.pure (r_indexG (k := kAV) hE rfl rfl Try.underlying29 Try.sizeOf53 (ha0.mono (M.le.trans hm15 hm')) hj32 rfl)) ?_
 rintro _ _ ⟨rfl, rfl⟩
 exact ⟨_, M.le.refl _, hS', rfl⟩
 }
 {
 refine cplain fun pre_ post_ L_ T_ m' a' w' hl' hp' hm' hq' hS' hE' hT' => ?_
 obtain rfl := len0 hl'
 obtain rfl := len0 (lenz (a := 0) hp')
 obtain ⟨rfl, rfl⟩ := hq'
 obtain ⟨v51, e52, q53⟩ : ∃ v, a'.tmps.getD 18 undef = v ∧ (v = (.pointer (some ⟨b0_, j31 * 4, none⟩))) := ⟨_, rfl, hT' 2 (by decide) 18 rfl⟩
 have hE := hE'.add (e52.trans q53)
 refine Step.imp (st_loadL hE hS' ty53 rfl (i := 1) rfl (GS.elem (ha0.mono (M.le.trans hm15 hm')) hx35)) ?_
 rintro v54 _ ⟨rfl, hv33⟩
 exact ⟨_, M.le.refl _, hS', hv33⟩
 }
 {
 refine cplain fun pre_ post_ L_ T_ m' a' w' hl' hp' hm' hq' hS' hE' hT' => ?_
 obtain rfl := len0 hl'
 refine Step.imp (Run1.pure (r_move hE' rfl)) ?_
 rintro _ _ ⟨rfl, rfl⟩
 exact ⟨_, M.le.refl _, hS', rfl⟩
 }
 {
 refine cplain fun pre_ post_ L_ T_ m' a' w' hl' hp' hm' hq' hS' hE' hT' => ?_
 obtain rfl := len0 hl'
 refine Step.imp (Run1.pure (r_move hE' rfl)) ?_
 rintro _ _ ⟨rfl, rfl⟩
 exact ⟨_, M.le.refl _, hS', ⟨rfl, hr17⟩⟩
 }
 {
 refine cplain fun pre_ post_ L_ T_ m' a' w' hl' hp' hm' hq' hS' hE' hT' => ?_
 obtain rfl := len0 hl'
 obtain ⟨v57, e58, q59⟩ : ∃ v, a'.tmps.getD 21 undef = v ∧ (v = (.int .i64 x16) ∧ inR .i64 x16) := ⟨_, rfl, hT' 5 (by decide) 21 rfl⟩
 obtain ⟨q59, hr60⟩ := q59
 have hE := hE'.add (e58.trans q59)
 refine Step.imp (Run1.pure (r_bin hE rfl rfl (b_sub rfl))) ?_
 rintro _ _ ⟨rfl, rfl⟩
 exact ⟨_, M.le.refl _, hS', ⟨rfl, (inR_wrap _ _)⟩⟩
 }
 {
 refine cplain fun pre_ post_ L_ T_ m' a' w' hl' hp' hm' hq' hS' hE' hT' => ?_
 obtain rfl := len0 hl'
 obtain rfl := len0 (lenz (a := 0) hp')
 obtain ⟨rfl, rfl⟩ := hq'
 obtain ⟨v62, e63, q64⟩ : ∃ v, a'.tmps.getD 20 undef = v ∧ (v = v0) := ⟨_, rfl, hT' 4 (by decide) 20 rfl⟩
 have hE := hE'.add (e63.trans q64)
 obtain ⟨v65, e66, q67⟩ : ∃ v, a'.tmps.getD 22 undef = v ∧ (v = (.int .i64 (IntKind.i64.wrap (x16 - 1))) ∧ inR .i64 (IntKind.i64.wrap (x16 - 1))) := ⟨_, rfl, hT' 6 (by decide) 22 rfl⟩
 obtain ⟨q67, hr68⟩ := q67
 have hE := hE.add (e66.trans q67)
 refine Step.imp (Run1.pure (r_indexG (k := kAV) hE rfl rfl Try.underlying29 Try.sizeOf53 (ha0.mono (M.le.trans hm15 hm')) hj37 rfl)) ?_
 rintro _ _ ⟨rfl, rfl⟩
 exact ⟨_, M.le.refl _, hS', rfl⟩
 }
 {
 refine cplain fun pre_ post_ L_ T_ m' a' w' hl' hp' hm' hq' hS' hE' hT' => ?_
 obtain rfl := len0 hl'
 obtain rfl := len0 (lenz (a := 0) hp')
 obtain ⟨rfl, rfl⟩ := hq'
 obtain ⟨v70, e71, q72⟩ : ∃ v, a'.tmps.getD 23 undef = v ∧ (v = (.pointer (some ⟨b0_, j36 * 4, none⟩))) := ⟨_, rfl, hT' 7 (by decide) 23 rfl⟩
 have hE := hE'.add (e71.trans q72)
 refine Step.imp (st_loadL hE hS' ty53 rfl (i := 1) rfl (GS.elem (ha0.mono (M.le.trans hm15 hm')) hx40)) ?_
 rintro v73 _ ⟨rfl, hv38⟩
 exact ⟨_, M.le.refl _, hS', hv38⟩
 }
 }
 {
 intro ws_ L_ T_ m74 a w hl75 hm76 hq77 hS hd78 hn79 ho80 hT81
 obtain rfl := len0 hl75
 obtain ⟨rfl, rfl⟩ := hq77
 have hE := EnvD.of (k := 9) (l' := [(0, v0), (3, (.int .i64 x16)), (10, (.int .i64 x16)), (11, v0), (12, (.int .i64 (p0.length : Int))), (13, (.bool (decide (x16 < (p0.length : Int)))))]) hd78 hn79 ho80 ⟨rfl, rfl, rfl, rfl, rfl, rfl, trivial⟩ rfl
 obtain ⟨v82, e83, q84⟩ : ∃ v, a.tmps.getD 19 undef = v ∧ (RV kAV m74 v x34) := ⟨_, rfl, hT81 3 (by decide) 19 rfl⟩
 have hE := hE.add (e83)
 obtain ⟨v85, e86, q87⟩ : ∃ v, a.tmps.getD 24 undef = v ∧ (RV kAV m74 v x39) := ⟨_, rfl, hT81 8 (by decide) 24 rfl⟩
 have hE := hE.add (e86)
 refine sp hE (r_eqlK hE eq53 rfl rfl q84 q87 rfl) rfl fun a hE => ?_
 refine knil ?_
 refine kif hE rfl (fun hd89 => ?_) (fun hd89 => ?_)
 {
 have h := ite_T hd89 h
 refine kseq (kreg ?_)
 refine qm hE rfl rfl fun a hE => ?_
 refine qm hE rfl rfl fun a hE => ?_
 obtain ⟨q93, hq94, h⟩ := ob h
 refine st hE (st_viewG (k := kAV) hE rfl Try.underlying29 Try.sizeOf53 (ha0.mono (M.le.trans hm15 hm76)) ⟨_, rfl⟩ rfl hq94 (sz := 4) rfl (xl := (some (.tmp 27))) (xh := none)) rfl ?_
 rintro v95 a _ ⟨rfl, hc92⟩ hE
 refine qa hE rfl rfl fun a hE => ?_
 refine knil (kseq (kseq (kreg ?_)))
 refine qa hE rfl rfl fun a hE => ?_
 refine knil ?_
 refine kcut (fun a w => ∃ x100 : Int, ∃ x102 : (List AV), slices_Compact_Value_g_j3 x100 x102 = some r18 ∧ ∃ m', M.le m74 m' ∧ ∃ (cs103 : List Value), inR .i64 x100 ∧ GS kAV m' b0_ cs103 v0 x102 ∧ S W0 m' w ((0, []) :: (b0_, cs103) :: L) (TL) ∧ Env 61 a [(0, v0), (3, (.int .i64 x100))]) ?_ ?_
 {
 refine kblock ?_
 refine kloop h (fun (s : (Int × Int × (List AV))) a w => ∃ m', M.le m74 m' ∧ ∃ (cs131 : List Value), inR .i64 s.1 ∧ inR .i64 s.2.1 ∧ GS kAV m' b0_ cs131 v0 s.2.2 ∧ S W0 m' w ((0, []) :: (b0_, cs131) :: L) (TL) ∧ Env 61 a [(0, v0), (3, (.int .i64 s.1)), (4, v95), (5, (.int .i64 s.2.1))]) ?_ ?_
 {
 exact ⟨_, (M.le.refl _), c0_, hr17, (show inR .i64 1 from inR_lit (by decide)), (ha0.mono (M.le.trans hm15 hm76)), hS, hE.cut ⟨rfl, rfl, rfl, rfl, trivial⟩⟩
 }
 {
 rintro ⟨x126, x128, x130⟩ a w ⟨m124, hm125, cs131, hr127, hr129, hc132, hS, hE⟩ r133 h hb134
 have h : slices_Compact_Value_g_b2 q93 x126 x128 x130 = some r133 := h
 unfold slices_Compact_Value_g_b2 at h
 refine kseq (kseq (kreg ?_))
 refine qm hE rfl rfl fun a hE => ?_
 refine qm hE rfl rfl fun a hE => ?_
 obtain ⟨u137, hu138, h⟩ := ob h
 refine sp hE (r_lenV (sz := 4) hE rfl rfl Try.underlying29 hc92) rfl fun a hE => ?_
 refine sp hE (r_bin hE rfl rfl b_lss) rfl fun a hE => ?_
 refine knil ?_
 refine kif hE rfl (fun hd141 => ?_) (fun hd141 => ?_)
 {
 have h := ite_T hd141 h
 refine kskip (kseq (kblock (kseq ?_)))
 obtain ⟨j142, hj143, h⟩ := ob h
 obtain ⟨x145, hx146, h⟩ := ob h
 obtain ⟨j147, hj148, h⟩ := ob h
 obtain ⟨x150, hx151, h⟩ := ob h
 refine kchain (k := 9) (m := m124) (es := []) (Φ := (fun i m ws v => match i with | 0 => v = v95 | 1 => v = (.int .i64 x128) ∧ inR .i64 x128 | 2 => v = (.pointer (some ⟨b0_, j142 * 4, none⟩)) | 3 => RV kAV m v x145 | 4 => v = v95 | 5 => v = (.int .i64 x128) ∧ inR .i64 x128 | 6 => v = (.int .i64 (IntKind.i64.wrap (x128 - 1))) ∧ inR .i64 (IntKind.i64.wrap (x128 - 1)) | 7 => v = (.pointer (some ⟨b0_, j147 * 4, none⟩)) | 8 => RV kAV m v x150 | _ => True)) (Q := (fun c m ws L' TL' => match c with | 0 => (0, []) :: (b0_, cs131) :: L = L' ∧ TL = TL' | _ => False)) (cs := [⟨0, 0, false, [(4, v95)]⟩, ⟨0, 0, false, [(5, (.int .i64 x128))]⟩, ⟨0, 0, false, []⟩, ⟨0, 0, false, []⟩, ⟨0, 0, false, [(4, v95)]⟩, ⟨0, 0, false, [(5, (.int .i64 x128))]⟩, ⟨0, 0, false, []⟩, ⟨0, 0, false, []⟩, ⟨0, 0, false, []⟩]) mixed hE hS ⟨rfl, rfl⟩ rfl rfl ⟨⟨rfl, trivial⟩, ⟨rfl, trivial⟩, trivial, trivial, ⟨rfl, trivial⟩, ⟨rfl, trivial⟩, trivial, trivial, trivial, trivial⟩ (by kernel_rfl) ?_ ?_ ?_ ?_
 {
 intro i m_ m2_ ws v hm_ hp_
 match i, hp_ with
 | 0, hp_ => exact hp_
 | 1, hp_ => exact hp_
 | 2, hp_ => exact hp_
 | 3, hp_ => exact RV.mono hp_ hm_
 | 4, hp_ => exact hp_
 | 5, hp_ => exact hp_
 | 6, hp_ => exact hp_
 | 7, hp_ => exact hp_
 | 8, hp_ => exact RV.mono hp_ hm_
 | _ + 9, hp_ => exact trivial
 }
 {
 intro c m_ m2_ ws L_ T_ hm_ hq_
 match c, hq_ with
 | 0, ⟨e1_, e2_⟩ => exact ⟨e1_, e2_⟩
 | _ + 1, hq_ => exact hq_.elim
 }
 {
 refine ⟨?_, ?_, ?_, ?_, ?_, ?_, ?_, ?_, ?_, trivial⟩
 {
 refine cplain fun pre_ post_ L_ T_ m' a' w' hl' hp' hm' hq' hS' hE' hT' => ?_
 obtain rfl := len0 hl'
 refine Step.imp (Run1.pure (r_move hE' rfl)) ?_
 rintro _ _ ⟨rfl, rfl⟩
 exact ⟨_, M.le.refl _, hS', rfl⟩
 }
 {
 refine cplain fun pre_ post_ L_ T_ m' a' w' hl' hp' hm' hq' hS' hE' hT' => ?_
 obtain rfl := len0 hl'
 refine Step.imp (Run1.pure (r_move hE' rfl)) ?_
 rintro _ _ ⟨rfl, rfl⟩
 exact ⟨_, M.le.refl _, hS', ⟨rfl, hr129⟩⟩
 }
 {
 refine cplain fun pre_ post_ L_ T_ m' a' w' hl' hp' hm' hq' hS' hE' hT' => ?_
 obtain rfl := len0 hl'
 obtain ⟨v154, e155, q156⟩ : ∃ v, a'.tmps.getD 35 undef = v ∧ (v = v95) := ⟨_, rfl, hT' 0 (by decide) 35 rfl⟩
 have hE := hE'.add (e155.trans q156)
 obtain ⟨v157, e158, q159⟩ : ∃ v, a'.tmps.getD 36 undef = v ∧ (v = (.int .i64 x128) ∧ inR .i64 x128) := ⟨_, rfl, hT' 1 (by decide) 36 rfl⟩
 obtain ⟨q159, hr160⟩ := q159
 have hE := hE.add (e158.trans q159)
 refine Step.imp (Run1.pure (r_indexV (sz := 4) hE rfl rfl Try.underlying29 Try.sizeOf53 hc92 hj143)) ?_
 rintro _ _ ⟨rfl, rfl⟩
 exact ⟨_, M.le.refl _, hS', rfl⟩
 }
 {
 refine cplain fun pre_ post_ L_ T_ m' a' w' hl' hp' hm' hq' hS' hE' hT' => ?_
 obtain rfl := len0 hl'
 obtain rfl := len0 (lenz (a := 0) hp')
 obtain ⟨rfl, rfl⟩ := hq'
 obtain ⟨v162, e163, q164⟩ : ∃ v, a'.tmps.getD 37 undef = v ∧ (v = (.pointer (some ⟨b0_, j142 * 4, none⟩))) := ⟨_, rfl, hT' 2 (by decide) 37 rfl⟩
 have hE := hE'.add (e163.trans q164)
 refine Step.imp (st_loadL hE hS' ty53 rfl (i := 1) rfl (GS.elem (hc132.mono hm') hx146)) ?_
 rintro v165 _ ⟨rfl, hv144⟩
 exact ⟨_, M.le.refl _, hS', hv144⟩
 }
 {
 refine cplain fun pre_ post_ L_ T_ m' a' w' hl' hp' hm' hq' hS' hE' hT' => ?_
 obtain rfl := len0 hl'
 refine Step.imp (Run1.pure (r_move hE' rfl)) ?_
 rintro _ _ ⟨rfl, rfl⟩
 exact ⟨_, M.le.refl _, hS', rfl⟩
 }
 {
 refine cplain fun pre_ post_ L_ T_ m' a' w' hl' hp' hm' hq' hS' hE' hT' => ?_
 obtain rfl := len0 hl'
 refine Step.imp (Run1.pure (r_move hE' rfl)) ?_
 rintro _ _ ⟨rfl, rfl⟩
 exact ⟨_, M.le.refl _, hS', ⟨rfl, hr129⟩⟩
 }
 {
 refine cplain fun pre_ post_ L_ T_ m' a' w' hl' hp' hm' hq' hS' hE' hT' => ?_
 obtain rfl := len0 hl'
 obtain ⟨v168, e169, q170⟩ : ∃ v, a'.tmps.getD 40 undef = v ∧ (v = (.int .i64 x128) ∧ inR .i64 x128) := ⟨_, rfl, hT' 5 (by decide) 40 rfl⟩
 obtain ⟨q170, hr171⟩ := q170
 have hE := hE'.add (e169.trans q170)
 refine Step.imp (Run1.pure (r_bin hE rfl rfl (b_sub rfl))) ?_
 rintro _ _ ⟨rfl, rfl⟩
 exact ⟨_, M.le.refl _, hS', ⟨rfl, (inR_wrap _ _)⟩⟩
 }
 {
 refine cplain fun pre_ post_ L_ T_ m' a' w' hl' hp' hm' hq' hS' hE' hT' => ?_
 obtain rfl := len0 hl'
 obtain ⟨v173, e174, q175⟩ : ∃ v, a'.tmps.getD 39 undef = v ∧ (v = v95) := ⟨_, rfl, hT' 4 (by decide) 39 rfl⟩
 have hE := hE'.add (e174.trans q175)
 obtain ⟨v176, e177, q178⟩ : ∃ v, a'.tmps.getD 41 undef = v ∧ (v = (.int .i64 (IntKind.i64.wrap (x128 - 1))) ∧ inR .i64 (IntKind.i64.wrap (x128 - 1))) := ⟨_, rfl, hT' 6 (by decide) 41 rfl⟩
 obtain ⟨q178, hr179⟩ := q178
 have hE := hE.add (e177.trans q178)
 refine Step.imp (Run1.pure (r_indexV (sz := 4) hE rfl rfl Try.underlying29 Try.sizeOf53 hc92 hj148)) ?_
 rintro _ _ ⟨rfl, rfl⟩
 exact ⟨_, M.le.refl _, hS', rfl⟩
 }
 {
 refine cplain fun pre_ post_ L_ T_ m' a' w' hl' hp' hm' hq' hS' hE' hT' => ?_
 obtain rfl := len0 hl'
 obtain rfl := len0 (lenz (a := 0) hp')
 obtain ⟨rfl, rfl⟩ := hq'
 obtain ⟨v181, e182, q183⟩ : ∃ v, a'.tmps.getD 42 undef = v ∧ (v = (.pointer (some ⟨b0_, j147 * 4, none⟩))) := ⟨_, rfl, hT' 7 (by decide) 42 rfl⟩
 have hE := hE'.add (e182.trans q183)
 refine Step.imp (st_loadL hE hS' ty53 rfl (i := 1) rfl (GS.elem (hc132.mono hm') hx151)) ?_
 rintro v184 _ ⟨rfl, hv149⟩
 exact ⟨_, M.le.refl _, hS', hv149⟩
 }
 }
 {
 intro ws_ L_ T_ m185 a w hl186 hm187 hq188 hS hd189 hn190 ho191 hT192
 obtain rfl := len0 hl186
 obtain ⟨rfl, rfl⟩ := hq188
 have hE := EnvD.of (k := 9) (l' := [(0, v0), (3, (.int .i64 x126)), (4, v95), (5, (.int .i64 x128)), (29, (.int .i64 x128)), (30, v95), (31, (.int .i64 (q93.2 : Int))), (32, (.bool (decide (x128 < (q93.2 : Int)))))]) hd189 hn190 ho191 ⟨rfl, rfl, rfl, rfl, rfl, rfl, rfl, rfl, trivial⟩ rfl
 obtain ⟨v193, e194, q195⟩ : ∃ v, a.tmps.getD 38 undef = v ∧ (RV kAV m185 v x145) := ⟨_, rfl, hT192 3 (by decide) 38 rfl⟩
 have hE := hE.add (e194)
 obtain ⟨v196, e197, q198⟩ : ∃ v, a.tmps.getD 43 undef = v ∧ (RV kAV m185 v x150) := ⟨_, rfl, hT192 8 (by decide) 43 rfl⟩
 have hE := hE.add (e197)
 refine sp hE (r_neqK hE eq53 rfl rfl q195 q198 rfl) rfl fun a hE => ?_
 refine knil ?_
 refine kcut (fun a w => ∃ x202 : Int, ∃ x204 : (List AV), slices_Compact_Value_g_j4 x128 x202 x204 = some r133 ∧ ∃ m', M.le m185 m' ∧ ∃ (cs205 : List Value), inR .i64 x202 ∧ GS kAV m' b0_ cs205 v0 x204 ∧ S W0 m' w ((0, []) :: (b0_, cs205) :: L) (TL) ∧ Env 61 a [(0, v0), (3, (.int .i64 x202)), (4, v95), (5, (.int .i64 x128))]) ?_ ?_
 {
 refine kif hE rfl (fun hd211 => ?_) (fun hd211 => ?_)
 {
 have h := ite_T hd211 h
 refine kseq (kreg ?_)
 refine qm hE rfl rfl fun a hE => ?_
 refine qm hE rfl rfl fun a hE => ?_
 refine qm hE rfl rfl fun a hE => ?_
 refine qm hE rfl rfl fun a hE => ?_
 obtain ⟨j216, hj217, h⟩ := ob h
 refine sp hE (r_indexV (sz := 4) hE rfl rfl Try.underlying29 Try.sizeOf53 hc92 hj217) rfl fun a hE => ?_
 obtain ⟨x220, hx221, h⟩ := ob h
 refine st hE (st_loadL hE hS ty53 rfl (i := 1) rfl (GS.elem (hc132.mono hm187) hx221)) rfl ?_
 rintro v222 a _ ⟨rfl, hv219⟩ hE
 obtain ⟨j223, hj224, h⟩ := ob h
 refine sp hE (r_indexG (k := kAV) hE rfl rfl Try.underlying29 Try.sizeOf53 (hc132.mono hm187) hj224 rfl) rfl fun a hE => ?_
 obtain ⟨x228, hx229, h⟩ := ob h
 refine st0 hE (st_storeG (k := kAV) hE hS ty53 StF_self (hc132.mono hm187) hx229 rfl rfl hv219 (i := 1) rfl) ?_
 rintro _ w ⟨cs226, hc227, hS⟩ hE
 refine knil (kreg ?_)
 refine qm hE rfl rfl fun a hE => ?_
 refine sp hE (r_bin hE rfl rfl (b_add rfl)) rfl fun a hE => ?_
 refine qa hE rfl rfl fun a hE => ?_
 refine knil ?_
 exact ⟨(IntKind.i64.wrap (x126 + 1)), (x130.set j223 x220), h, _, (M.le.refl _), cs226, (inR_wrap _ _), hc227, hS, hE.cut ⟨rfl, rfl, rfl, rfl, trivial⟩⟩
 }
 {
 have h := ite_F hd211 h
 refine kskip ?_
 exact ⟨x126, x130, h, _, (M.le.refl _), cs131, hr127, (hc132.mono hm187), hS, hE.cut ⟨rfl, rfl, rfl, rfl, trivial⟩⟩
 }
 }
 {
 rintro a w ⟨x202, x204, h, m200, hm201, cs205, hr203, hc206, hS, hE⟩
 unfold slices_Compact_Value_g_j4 at h
 refine kreg ?_
 refine qm hE rfl rfl fun a hE => ?_
 refine sp hE (r_bin hE rfl rfl (b_add rfl)) rfl fun a hE => ?_
 refine qa hE rfl rfl fun a hE => ?_
 refine knil ?_
 exact ⟨(x202, IntKind.i64.wrap (x128 + 1), x204), (Option.some.inj h).symm, _, (M.le.trans hm125 (M.le.trans hm187 hm201)), cs205, hr203, (inR_wrap _ _), hc206, hS, hE.cut ⟨rfl, rfl, rfl, rfl, trivial⟩⟩
 }
 }
 }
 {
 have h := ite_F hd141 h
 refine kexit rfl rfl ?_
 have h := unwrap h hb134
 exact ⟨x126, x130, h, _, hm125, cs131, hr127, hc132, hS, hE.cut ⟨rfl, rfl, trivial⟩⟩
 }
 }
 }
 {
 rintro a w ⟨x100, x102, h, m98, hm99, cs103, hr101, hc104, hS, hE⟩
 unfold slices_Compact_Value_g_j3 at h
 refine kseq (kreg ?_)
 refine qm hE rfl rfl fun a hE => ?_
 refine qm hE rfl rfl fun a hE => ?_
 obtain ⟨q109, hq110, h⟩ := ob h
 refine st hE (st_viewG (k := kAV) hE rfl Try.underlying29 Try.sizeOf53 hc104 ⟨_, rfl⟩ rfl hq110 (sz := 4) rfl (xl := (some (.tmp 55))) (xh := none)) rfl ?_
 rintro v111 a _ ⟨rfl, hc108⟩ hE
 obtain ⟨z114, hz115, h⟩ := ob h
 refine st0 hE (st_clearV (k := kAV) hE hS rfl rfl Try.underlying29 Try.zeroValue53 (fun m => zr53 m) (i := 1) rfl hc104 hc108 hz115) ?_
 rintro _ w ⟨cs112, hc113, hS⟩ hE
 refine knil (kseq (kreg ?_))
 refine qm hE rfl rfl fun a hE => ?_
 refine qm hE rfl rfl fun a hE => ?_
 obtain ⟨x120, hx121, h⟩ := ob h
 refine st hE (st_sliceG (k := kAV) hE rfl Try.underlying29 Try.sizeOf53 hc113 rfl hx121) rfl ?_
 rintro v122 a _ ⟨rfl, hc119⟩ hE
 refine qa hE rfl rfl fun a hE => ?_
 refine knil (kret ?_)
 have h := unwrap h hb19
 obtain rfl := oi h
 try dsimp only
 refine Fin.mk hE (rs := [.tmp 2]) rfl (ResL.tmp hE rfl ResL.nil) ?_
 exact ⟨_, (M.le.trans hm15 (M.le.trans hm76 hm99)), b0_, cs112, (hS.pickL 2 [1] rfl rfl rfl), hc119⟩
 }
 }
 {
 have h := ite_F hd89 h
 refine kskip ?_
 exact ⟨h, _, hm76, hS, hE.cut ⟨rfl, rfl, trivial⟩⟩
 }
 }
 }
 {
 rintro a w ⟨h, m25, hm26, hS, hE⟩
 unfold slices_Compact_Value_g_j2 at h
 refine kreg ?_
 refine qm hE rfl rfl fun a hE => ?_
 refine sp hE (r_bin hE rfl rfl (b_add rfl)) rfl fun a hE => ?_
 refine qa hE rfl rfl fun a hE => ?_
 refine knil ?_
 exact ⟨IntKind.i64.wrap (x16 + 1), (Option.some.inj h).symm, _, (M.le.trans hm15 hm26), (inR_wrap _ _), hS, hE.cut ⟨rfl, rfl, trivial⟩⟩
 }
 }
 {
 have h := ite_F hd24 h
 refine kexit rfl rfl ?_
 have h := unwrap h hb19
 exact ⟨h, _, hm15, hS, hE.cut ⟨rfl, trivial⟩⟩
 }
 }
 }
 {
 rintro a w ⟨h, m9, hm10, hS, hE⟩
 unfold slices_Compact_Value_g_j1 at h
 refine kseq (kreg ?_)
 refine qm hE rfl rfl fun a hE => ?_
 refine qa hE rfl rfl fun a hE => ?_
 refine knil (kret ?_)
 obtain rfl := oi h
 try dsimp only
 refine Fin.mk hE (rs := [.tmp 2]) rfl (ResL.tmp hE rfl ResL.nil) ?_
 exact ⟨_, hm10, b0_, c0_, (hS.pickL 2 [1] rfl rfl rfl), (ha0.mono hm10)⟩
 }
 }
theorem c_slices_Clone_Value_g {W0 : Bse} {m : M} {w : World} {L : List (Nat × List Value)} {TL : List (Nat × Value)} (hS : S W0 m w (L) (TL)) {v0 : Value} {p0 : (List AV)} (ha0 : RV (kSl kAV) m v0 p0) {r : (List AV)} (h : slices_Clone_Value_g p0 = some r) :
    Calls Try.prog 101 [v0].toArray w (Ret fun v w' => ∃ m', M.le m m' ∧ ∃ bq_ : Nat, ∃ cq_ : List Value, S W0 m' w' ((bq_, cq_) :: L) (TL) ∧ GS kAV m' bq_ cq_ v r) := by
 refine kcall Try.func101 rfl Try.ntmps101 (Nat.le_of_ble_eq_true rfl) fun a hE => ?_
 have hE : Env 8 a [(0, v0)] := hE
 unfold slices_Clone_Value_g at h
 refine kseq (kreg ?_)
 refine qa hE rfl rfl fun a hE => ?_
 refine knil (kseq (kseq (kreg ?_)))
 refine qm hE rfl rfl fun a hE => ?_
 refine st hE (st_isnil (k := kAV) hE rfl rfl ha0 Try.underlying29) rfl ?_
 rintro v5 a _ ⟨rfl, bn3, rfl, hb4⟩ hE
 refine knil ?_
 refine kif hE rfl (fun hd6 => ?_) (fun hd6 => ?_)
 {
 have hx_ := hb4 hd6
 have h : some ([] : List AV) = some r := by rw [hx_] at h; exact h
 refine kseq (kreg ?_)
 refine qa hE rfl rfl fun a hE => ?_
 refine knil (kret ?_)
 obtain rfl := oi h
 try dsimp only
 refine Fin.mk hE (rs := [.tmp 2]) rfl (ResL.tmp hE rfl ResL.nil) ?_
 exact ⟨_, (M.le.refl _), 0, [], (((hS.void 0).void 0).pickL 2 [0] rfl rfl rfl), GS.void⟩
 }
 {
 refine kskip (kseq (kreg ?_))
 refine st hE (st_litG (k := kAV) (m := m) (xs := []) (vs := []) hE (hS.void 0) rfl Try.underlying29 Try.sizeOf53 Try.zeroValue53 trivial rfl (by decide)) rfl ?_
 rintro v14 a w ⟨b11, cs12, hc13, hS⟩ hE
 refine qm hE rfl rfl fun a hE => ?_
 obtain ⟨z16, hz17, h⟩ := ob h
 refine st hE (st_appG (k := kAV) (N := 3518437208883) hE hS rfl rfl Try.underlying29 el53 (i := 0) rfl hc13 (src_sl hS Try.underlying29 ha0) hz17 rfl rfl) rfl ?_
 rintro v24 a w ⟨b21, cs22, hc23, hS⟩ hE
 refine qa hE rfl rfl fun a hE => ?_
 refine knil (kret ?_)
 obtain rfl := oi h
 try dsimp only
 refine Fin.mk hE (rs := [.tmp 2]) rfl (ResL.tmp hE rfl ResL.nil) ?_
 exact ⟨_, (M.le.refl _), b21, cs22, (hS.pickL 2 [0] rfl rfl rfl), hc23⟩
 }
theorem fn_74 {m0 : M} : Fn2 Try.prog kAV kAV (kInt .i64) m0 (.func (.func 74) [].toArray [].toArray) value_Compare := by
  refine ⟨74, _, rfl, Try.call74, ?_⟩
  intro W0 m w L TL v0 v1 x0 x1 r hm hS h0 h1 hr
  refine (c_value_Compare (hS := hS) h0 h1 hr).mono ?_
  intro e w' he
  cases e with
  | returned v => obtain ⟨m', h1, h2, h3⟩ := he; exact ⟨m', h1, h2, h3⟩
  | panicked ch => exact he.elim
  | outgrown => exact he.elim
theorem c_encode_dict {W0 : Bse} {m : M} {w : World} {L : List (Nat × List Value)} {TL : List (Nat × Value)} (hS : S W0 m w (L) (TL)) {v0 : Value} {p0 : (List AV)} (ha0 : RV (kSl kAV) m v0 p0) {r : (List Int)} (h : encode_dict p0 = some r) :
    Calls Try.prog 58 [v0].toArray w (Ret fun v w' => ∃ m', M.le m m' ∧ S W0 m' w' (L) ((1, v) :: TL) ∧ RV (kSl (kInt .u8)) m' v r) := by
 refine kcall Try.func58 rfl Try.ntmps58 (Nat.le_of_ble_eq_true rfl) fun a hE => ?_
 have hE : Env 54 a [(0, v0)] := hE
 unfold encode_dict at h
 refine kseq (kreg ?_)
 refine qa hE rfl rfl fun a hE => ?_
 refine knil (kseq (kreg ?_))
 refine qm hE rfl rfl fun a hE => ?_
 obtain ⟨r3, hr4, h⟩ := ob h
 refine st hE (st_call (vs := [v0]) hE rfl Try.call101 (c_slices_Clone_Value_g (hS := hS) ha0 hr4)) rfl ?_
 rintro v11 a w ⟨m5, hm6, b7, cs8, hS, hc9⟩ hE
 refine qa hE rfl rfl fun a hE => ?_
 refine knil (kseq (kreg ?_))
 refine qm hE rfl rfl fun a hE => ?_
 obtain ⟨r14, hr15, h⟩ := ob h
 refine st hE (st_call (vs := [v11, (.func (.func 74) #[] #[])]) hE rfl Try.call102 (c_slices_SortFunc_Value (hS := hS) hc9 (fn_74 (m0 := m5)) hr15)) rfl ?_
 rintro v20 a w ⟨m16, hm17, c0_18, hS, hc0_19⟩ hE
 refine knil (kseq (kreg ?_))
 refine qm hE rfl rfl fun a hE => ?_
 obtain ⟨r22, hr23, h⟩ := ob h
 refine st hE (st_call (vs := [v11]) hE rfl Try.call103 (c_slices_Compact_Value_g (hS := hS) hc0_19 hr23)) rfl ?_
 rintro v30 a w ⟨m24, hm25, b26, cs27, hS, hc28⟩ hE
 refine qa hE rfl rfl fun a hE => ?_
 refine knil (kseq ?_)
 obtain ⟨m32, hm33, hS, hv34⟩ := S.freeze hS hc28
 refine kreg ?_
 refine qm hE rfl rfl fun a hE => ?_
 refine sp hE (r_lenSl (k := kAV) hE rfl rfl Try.underlying29 hv34) rfl fun a hE => ?_
 refine sp hE (r_conv hE rfl Try.underlying3 Try.underlying5 rfl) rfl fun a hE => ?_
 refine st hE (st_lit (k := (kInt .u8)) (xs := [IntKind.u8.wrap (r22.length : Int)]) (vs := [(.int .u8 (IntKind.u8.wrap (r22.length : Int)))]) hE hS rfl Try.underlying37 Try.sizeOf5 Try.zeroValue5 ⟨(RV_of_int (inR_wrap _ _)), trivial⟩ rfl (by decide)) rfl ?_
 rintro v41 a w ⟨m39, hm40, hS, hv38⟩ hE
 refine qa hE rfl rfl fun a hE => ?_
 refine knil (kseq (kseq (kreg ?_)))
 refine qm hE rfl rfl fun a hE => ?_
 refine sp hE (r_lenSl (k := kAV) hE rfl rfl Try.underlying29 (hv34.mono hm40)) rfl fun a hE => ?_
 refine qm hE rfl rfl fun a hE => ?_
 refine knil ?_
 refine kcut (fun a w => ∃ x48 : (List Int), encode_dict_j1 p0 r22 x48 = some r ∧ ∃ m', M.le m39 m' ∧ ∃ (v49 : Value), RV (kSl (kInt .u8)) m' v49 x48 ∧ S W0 m' w (L) ((1, v49) :: TL) ∧ Env 54 a [(0, v0), (3, v30), (4, v49)]) ?_ ?_
 {
 refine kblock ?_
 refine kloop h (fun (s : ((List Int) × Int)) a w => ∃ m', M.le m39 m' ∧ ∃ (v138 : Value), RV (kSl (kInt .u8)) m' v138 s.1 ∧ inR .i64 s.2 ∧ S W0 m' w (L) ((1, v138) :: TL) ∧ Env 54 a [(0, v0), (3, v30), (4, v138), (20, v30), (21, (.int .i64 (r22.length : Int))), (22, (.int .i64 s.2))]) ?_ ?_
 {
 exact ⟨_, (M.le.refl _), v41, hv38, (show inR .i64 0 from inR_lit (by decide)), hS, hE.cut ⟨rfl, rfl, rfl, rfl, rfl, rfl, trivial⟩⟩
 }
 {
 rintro ⟨x137, x140⟩ a w ⟨m135, hm136, v138, hv139, hr141, hS, hE⟩ r142 h hb143
 have h : encode_dict_b2 p0 r22 x137 x140 = some r142 := h
 unfold encode_dict_b2 at h
 refine kseq (kreg ?_)
 refine sp hE (r_bin hE rfl rfl b_lss) rfl fun a hE => ?_
 refine knil (kseq ?_)
 refine kif hE rfl (fun hd145 => ?_) (fun hd145 => ?_)
 {
 have h := ite_T hd145 h
 refine kskip (kseq (kblock (kseq (kreg ?_))))
 obtain ⟨x146, hx147, h⟩ := ob h
 refine st hE (st_index (k := kAV) hE rfl rfl Try.underlying29 Try.sizeOf53 (hv34.mono (M.le.trans hm40 hm136)) hx147) rfl ?_
 rintro v149 a _ ⟨rfl, hp148⟩ hE
 refine st hE (st_loadM hE hS ty53 rfl hp148) rfl ?_
 rintro v151 a _ ⟨rfl, hv150⟩ hE
 refine st hE (st_alloc hS Try.zeroValue53 rfl (cs := zc53)) rfl ?_
 rintro _ a w ⟨b152, rfl, hS⟩ hE
 refine st0 hE (st_storeF hE hS ty53 StF_self rfl rfl hv150 (i := 0) rfl (zr53 _)) ?_
 rintro _ w ⟨cs154, hc155, hS⟩ hE
 refine knil (kreg ?_)
 refine qm hE rfl rfl fun a hE => ?_
 refine st hE (st_loadL hE hS ty53 rfl (i := 0) rfl (R_whole hc155)) rfl ?_
 rintro v159 a _ ⟨rfl, hv158⟩ hE
 obtain ⟨r160, hr161, h⟩ := ob h
 refine st hE (st_call (vs := [v159]) hE rfl Try.call60 (c_encode_one (hS := hS) hv158 hr161)) rfl ?_
 rintro v165 a w ⟨m162, hm163, hS, hv164⟩ hE
 obtain ⟨z166, hz167, h⟩ := ob h
 refine st hE (st_app (k := (kInt .u8)) (N := 140737488355328) hE hS rfl rfl Try.underlying37 Try.underlying37 el5 (i := 0) rfl (hv139.mono hm163) hv164 hz167 rfl rfl) rfl ?_
 rintro v171 a w ⟨m169, hm170, hS, hv168⟩ hE
 refine qa hE rfl rfl fun a hE => ?_
 refine knil (kreg ?_)
 refine sp hE (r_bin hE rfl rfl (b_add rfl)) rfl fun a hE => ?_
 refine qm hE rfl rfl fun a hE => ?_
 refine knil ?_
 exact ⟨(z166, IntKind.i64.wrap (x140 + 1)), (Option.some.inj h).symm, _, (M.le.trans hm136 (M.le.trans hm163 hm170)), v171, hv168, (inR_wrap _ _), (hS.pickL 1 [] rfl rfl rfl), hE.cut ⟨rfl, rfl, rfl, rfl, rfl, rfl, trivial⟩⟩
 }
 {
 have h := ite_F hd145 h
 refine kexit rfl rfl ?_
 have h := unwrap h hb143
 exact ⟨x137, h, _, hm136, v138, hv139, hS, hE.cut ⟨rfl, rfl, rfl, trivial⟩⟩
 }
 }
 }
 {
 rintro a w ⟨x48, h, m46, hm47, v49, hv50, hS, hE⟩
 unfold encode_dict_j1 at h
 refine kseq (kreg ?_)
 refine qa hE rfl rfl fun a hE => ?_
 refine knil (kseq (kseq (kreg ?_)))
 refine qm hE rfl rfl fun a hE => ?_
 refine sp hE (r_lenSl (k := kAV) hE rfl rfl Try.underlying29 (ha0.mono (M.le.trans hm6 (M.le.trans hm17 (M.le.trans hm25 (M.le.trans hm33 (M.le.trans hm40 hm47))))))) rfl fun a hE => ?_
 refine qm hE rfl rfl fun a hE => ?_
 refine knil ?_
 refine kcut (fun a w => ∃ x58 : (List Int), encode_dict_j2 r22 x48 x58 = some r ∧ ∃ m', M.le m46 m' ∧ ∃ (v59 : Value), RV (kSl (kInt .u64)) m' v59 x58 ∧ S W0 m' w (L) ((1, v59) :: (1, v49) :: TL) ∧ Env 54 a [(3, v30), (4, v49), (7, v59)]) ?_ ?_
 {
 refine kblock ?_
 refine kloop h (fun (s : ((List Int) × Int)) a w => ∃ m', M.le m46 m' ∧ ∃ (v91 : Value), RV (kSl (kInt .u64)) m' v91 s.1 ∧ inR .i64 s.2 ∧ S W0 m' w (L) ((1, v91) :: (1, v49) :: TL) ∧ Env 54 a [(3, v30), (4, v49), (7, v91), (31, v0), (32, (.int .i64 (p0.length : Int))), (33, (.int .i64 s.2))]) ?_ ?_
 {
 exact ⟨_, (M.le.refl _), (.slice none 0 0), RV_nil, (show inR .i64 0 from inR_lit (by decide)), (hS.tail0 1), hE.cut ⟨rfl, rfl, rfl, rfl, rfl, rfl, trivial⟩⟩
 }
 {
 rintro ⟨x90, x93⟩ a w ⟨m88, hm89, v91, hv92, hr94, hS, hE⟩ r95 h hb96
 have h : encode_dict_b1 p0 r22 x48 x90 x93 = some r95 := h
 unfold encode_dict_b1 at h
 refine kseq (kreg ?_)
 refine sp hE (r_bin hE rfl rfl b_lss) rfl fun a hE => ?_
 refine knil (kseq ?_)
 refine kif hE rfl (fun hd98 => ?_) (fun hd98 => ?_)
 {
 have h := ite_T hd98 h
 refine kskip (kseq (kblock (kseq (kreg ?_))))
 obtain ⟨x99, hx100, h⟩ := ob h
 refine st hE (st_index (k := kAV) hE rfl rfl Try.underlying29 Try.sizeOf53 (ha0.mono (M.le.trans hm6 (M.le.trans hm17 (M.le.trans hm25 (M.le.trans hm33 (M.le.trans hm40 (M.le.trans hm47 hm89))))))) hx100) rfl ?_
 rintro v102 a _ ⟨rfl, hp101⟩ hE
 refine st hE (st_loadM hE hS ty53 rfl hp101) rfl ?_
 rintro v104 a _ ⟨rfl, hv103⟩ hE
 refine st hE (st_alloc hS Try.zeroValue53 rfl (cs := zc53)) rfl ?_
 rintro _ a w ⟨b105, rfl, hS⟩ hE
 refine st0 hE (st_storeF hE hS ty53 StF_self rfl rfl hv103 (i := 0) rfl (zr53 _)) ?_
 rintro _ w ⟨cs107, hc108, hS⟩ hE
 refine knil (kreg ?_)
 refine qm hE rfl rfl fun a hE => ?_
 refine qm hE rfl rfl fun a hE => ?_
 refine st hE (st_loadL hE hS ty53 rfl (i := 0) rfl (R_whole hc108)) rfl ?_
 rintro v113 a _ ⟨rfl, hv112⟩ hE
 obtain ⟨r114, hr115, h⟩ := ob h
 refine st hE (st_call (vs := [v30, v113]) hE rfl Try.call104 (c_slices_Index_Value (hS := hS) (hv34.mono (M.le.trans hm40 (M.le.trans hm47 hm89))) hv112 hr115)) rfl ?_
 rintro v119 a w ⟨m116, hm117, hS, hv118⟩ hE
 obtain ⟨rfl, hr120⟩ := RV_int hv118
 refine sp hE (r_conv hE rfl Try.underlying3 Try.underlying24 rfl) rfl fun a hE => ?_
 refine st hE (st_lit (k := (kInt .u64)) (xs := [IntKind.u64.wrap r114]) (vs := [(.int .u64 (IntKind.u64.wrap r114))]) hE hS rfl Try.underlying125 Try.sizeOf24 Try.zeroValue24 ⟨(RV_of_int (inR_wrap _ _)), trivial⟩ rfl (by decide)) rfl ?_
 rintro v125 a w ⟨m123, hm124, hS, hv122⟩ hE
 obtain ⟨z126, hz127, h⟩ := ob h
 refine st hE (st_app (k := (kInt .u64)) (N := 17592186044416) hE hS rfl rfl Try.underlying125 Try.underlying125 el24 (i := 1) rfl (hv92.mono (M.le.trans hm117 hm124)) hv122 hz127 rfl rfl) rfl ?_
 rintro v131 a w ⟨m129, hm130, hS, hv128⟩ hE
 refine qa hE rfl rfl fun a hE => ?_
 refine knil (kreg ?_)
 refine sp hE (r_bin hE rfl rfl (b_add rfl)) rfl fun a hE => ?_
 refine qm hE rfl rfl fun a hE => ?_
 refine knil ?_
 exact ⟨(z126, IntKind.i64.wrap (x93 + 1)), (Option.some.inj h).symm, _, (M.le.trans hm89 (M.le.trans hm117 (M.le.trans hm124 hm130))), v131, hv128, (inR_wrap _ _), ((hS.pickL 1 [] rfl rfl rfl).pickT 3 [1, 2] rfl rfl rfl), hE.cut ⟨rfl, rfl, rfl, rfl, rfl, rfl, trivial⟩⟩
 }
 {
 have h := ite_F hd98 h
 refine kexit rfl rfl ?_
 have h := unwrap h hb96
 exact ⟨x90, h, _, hm89, v91, hv92, hS, hE.cut ⟨rfl, rfl, rfl, trivial⟩⟩
 }
 }
 }
 {
 rintro a w ⟨x58, h, m56, hm57, v59, hv60, hS, hE⟩
 unfold encode_dict_j2 at h
 refine kseq (kreg ?_)
 refine qm hE rfl rfl fun a hE => ?_
 refine qm hE rfl rfl fun a hE => ?_
 refine qm hE rfl rfl fun a hE => ?_
 refine sp hE (r_lenSl (k := kAV) hE rfl rfl Try.underlying29 (hv34.mono (M.le.trans hm40 (M.le.trans hm47 hm57)))) rfl fun a hE => ?_
 refine sp hE (r_bin hE rfl rfl (b_sub rfl)) rfl fun a hE => ?_
 refine sp hE (r_conv hE rfl Try.underlying3 Try.underlying101 rfl) rfl fun a hE => ?_
 obtain ⟨r68, hr69, h⟩ := ob h
 refine st hE (st_call (vs := [(.int .u64 (IntKind.u64.wrap (IntKind.i64.wrap ((r22.length : Int) - 1))))]) hE rfl Try.call93 (c_bits_Len (hS := hS) (inR_wrap _ _) hr69)) rfl ?_
 rintro v73 a w ⟨m70, hm71, hS, hv72⟩ hE
 obtain ⟨rfl, hr74⟩ := RV_int hv72
 obtain ⟨r75, hr76, h⟩ := ob h
 refine st hE (st_call (vs := [v59, (.int .i64 r68)]) hE rfl Try.call105 (c_encode_packed (hS := hS) (hv60.mono hm71) hr74 hr76)) rfl ?_
 rintro v80 a w ⟨m77, hm78, hS, hv79⟩ hE
 obtain ⟨z81, hz82, h⟩ := ob h
 refine st hE (st_app (k := (kInt .u8)) (N := 140737488355328) hE hS rfl rfl Try.underlying37 Try.underlying37 el5 (i := 1) rfl (hv50.mono (M.le.trans hm57 (M.le.trans hm71 hm78))) hv79 hz82 rfl rfl) rfl ?_
 rintro v86 a w ⟨m84, hm85, hS, hv83⟩ hE
 refine qa hE rfl rfl fun a hE => ?_
 refine knil (kret ?_)
 obtain rfl := oi h
 try dsimp only
 refine Fin.mk hE (rs := [.tmp 2]) rfl (ResL.tmp hE rfl ResL.nil) ?_
 exact ⟨_, (M.le.trans hm6 (M.le.trans hm17 (M.le.trans hm25 (M.le.trans hm33 (M.le.trans hm40 (M.le.trans hm47 (M.le.trans hm57 (M.le.trans hm71 (M.le.trans hm78 hm85))))))))), (hS.pickT 2 [1] rfl rfl rfl), hv83⟩
 }
 }
theorem c_slices_Min_int64 {W0 : Bse} {m : M} {w : World} {L : List (Nat × List Value)} {TL : List (Nat × Value)} (hS : S W0 m w (L) (TL)) {v0 : Value} {p0 : (List Int)} (ha0 : RV (kSl (kInt .i64)) m v0 p0) {r : Int} (h : slices_Min_int64 p0 = some r) :
    Calls Try.prog 106 [v0].toArray w (Ret fun v w' => ∃ m', M.le m m' ∧ S W0 m' w' (L) (TL) ∧ RV (kInt .i64) m' v r) := by
 refine kcall Try.func106 rfl Try.ntmps106 (Nat.le_of_ble_eq_true rfl) fun a hE => ?_
 have hE : Env 25 a [(0, v0)] := hE
 unfold slices_Min_int64 at h
 refine kseq (kreg ?_)
 refine qa hE rfl rfl fun a hE => ?_
 refine knil (kseq (kseq (kreg ?_)))
 refine qm hE rfl rfl fun a hE => ?_
 refine sp hE (r_lenSl (k := (kInt .i64)) hE rfl rfl Try.underlying93 ha0) rfl fun a hE => ?_
 refine sp hE (r_bin hE rfl rfl b_lss) rfl fun a hE => ?_
 refine knil ?_
 refine kcut (fun a w => slices_Min_int64_j1 p0 = some r ∧ ∃ m', M.le m m' ∧ S W0 m' w (L) (TL) ∧ Env 25 a [(0, v0)]) ?_ ?_
 {
 refine kif hE rfl (fun hd53 => ?_) (fun hd53 => ?_)
 {
 have h := ite_T hd53 h
 cases h
 }
 {
 have h := ite_F hd53 h
 refine kskip ?_
 exact ⟨h, _, (M.le.refl _), hS, hE.cut ⟨rfl, trivial⟩⟩
 }
 }
 {
 rintro a w ⟨h, m5, hm6, hS, hE⟩
 unfold slices_Min_int64_j1 at h
 refine kseq (kreg ?_)
 refine qm hE rfl rfl fun a hE => ?_
 obtain ⟨x9, hx10, h⟩ := ob h
 refine st hE (st_index (k := (kInt .i64)) hE rfl rfl Try.underlying93 Try.sizeOf2 (ha0.mono hm6) hx10) rfl ?_
 rintro v12 a _ ⟨rfl, hp11⟩ hE
 refine st hE (st_loadM hE hS ty2 rfl hp11) rfl ?_
 rintro v14 a _ ⟨rfl, hv13⟩ hE
 obtain ⟨rfl, hr15⟩ := RV_int hv13
 refine qa hE rfl rfl fun a hE => ?_
 refine knil (kseq (kseq (kreg ?_)))
 refine qa hE rfl rfl fun a hE => ?_
 refine knil ?_
 refine kcut (fun a w => ∃ x20 : Int, slices_Min_int64_j2 x20 = some r ∧ ∃ m', M.le m5 m' ∧ inR .i64 x20 ∧ S W0 m' w (L) (TL) ∧ Env 25 a [(3, (.int .i64 x20))]) ?_ ?_
 {
 refine kblock ?_
 refine kloop h (fun (s : (Int × Int)) a w => ∃ m', M.le m5 m' ∧ inR .i64 s.1 ∧ inR .i64 s.2 ∧ S W0 m' w (L) (TL) ∧ Env 25 a [(0, v0), (3, (.int .i64 s.1)), (4, (.int .i64 s.2))]) ?_ ?_
 {
 exact ⟨_, (M.le.refl _), hr15, (show inR .i64 1 from inR_lit (by decide)), hS, hE.cut ⟨rfl, rfl, rfl, trivial⟩⟩
 }
 {
 rintro ⟨x27, x29⟩ a w ⟨m25, hm26, hr28, hr30, hS, hE⟩ r31 h hb32
 have h : slices_Min_int64_b1 p0 x27 x29 = some r31 := h
 unfold slices_Min_int64_b1 at h
 refine kseq (kseq (kreg ?_))
 refine qm hE rfl rfl fun a hE => ?_
 refine qm hE rfl rfl fun a hE => ?_
 refine sp hE (r_lenSl (k := (kInt .i64)) hE rfl rfl Try.underlying93 (ha0.mono (M.le.trans hm6 hm26))) rfl fun a hE => ?_
 refine sp hE (r_bin hE rfl rfl b_lss) rfl fun a hE => ?_
 refine knil ?_
 refine kif hE rfl (fun hd37 => ?_) (fun hd37 => ?_)
 {
 have h := ite_T hd37 h
 refine kskip (kseq (kblock (kreg ?_)))
 refine qm hE rfl rfl fun a hE => ?_
 refine qm hE rfl rfl fun a hE => ?_
 refine qm hE rfl rfl fun a hE => ?_
 obtain ⟨x41, hx42, h⟩ := ob h
 refine st hE (st_index (k := (kInt .i64)) hE rfl rfl Try.underlying93 Try.sizeOf2 (ha0.mono (M.le.trans hm6 hm26)) hx42) rfl ?_
 rintro v44 a _ ⟨rfl, hp43⟩ hE
 refine st hE (st_loadM hE hS ty2 rfl hp43) rfl ?_
 rintro v46 a _ ⟨rfl, hv45⟩ hE
 obtain ⟨rfl, hr47⟩ := RV_int hv45
 refine sp hE (r_min2 hE rfl rfl) rfl fun a hE => ?_
 refine qa hE rfl rfl fun a hE => ?_
 refine knil (kreg ?_)
 refine qm hE rfl rfl fun a hE => ?_
 refine sp hE (r_bin hE rfl rfl (b_add rfl)) rfl fun a hE => ?_
 refine qa hE rfl rfl fun a hE => ?_
 refine knil ?_
 exact ⟨((if x41 < x27 then x41 else x27), IntKind.i64.wrap (x29 + 1)), (Option.some.inj h).symm, _, hm26, (inR_min hr28 hr47), (inR_wrap _ _), hS, hE.cut ⟨rfl, rfl, rfl, trivial⟩⟩
 }
 {
 have h := ite_F hd37 h
 refine kexit rfl rfl ?_
 have h := unwrap h hb32
 exact ⟨x27, h, _, hm26, hr28, hS, hE.cut ⟨rfl, trivial⟩⟩
 }
 }
 }
 {
 rintro a w ⟨x20, h, m18, hm19, hr21, hS, hE⟩
 unfold slices_Min_int64_j2 at h
 refine kseq (kreg ?_)
 refine qm hE rfl rfl fun a hE => ?_
 refine qa hE rfl rfl fun a hE => ?_
 refine knil (kret ?_)
 obtain rfl := oi h
 try dsimp only
 refine Fin.mk hE (rs := [.tmp 2]) rfl (ResL.tmp hE rfl ResL.nil) ?_
 exact ⟨_, (M.le.trans hm6 hm19), hS, (RV_of_int hr21)⟩
 }
 }
theorem c_encode_small {W0 : Bse} {m : M} {w : World} {L : List (Nat × List Value)} {TL : List (Nat × Value)} (hS : S W0 m w (L) (TL)) {v0 : Value} {p0 : (List Int)} (ha0 : RV (kSl (kInt .i64)) m v0 p0) {r : (List Int)} (h : encode_small p0 = some r) :
    Calls Try.prog 59 [v0].toArray w (Ret fun v w' => ∃ m', M.le m m' ∧ S W0 m' w' (L) ((1, v) :: TL) ∧ RV (kSl (kInt .u8)) m' v r) := by
 refine kcall Try.func59 rfl Try.ntmps59 (Nat.le_of_ble_eq_true rfl) fun a hE => ?_
 have hE : Env 42 a [(0, v0)] := hE
 unfold encode_small at h
 refine kseq (kreg ?_)
 refine qa hE rfl rfl fun a hE => ?_
 refine knil (kseq (kreg ?_))
 refine qm hE rfl rfl fun a hE => ?_
 obtain ⟨r3, hr4, h⟩ := ob h
 refine st hE (st_call (vs := [v0]) hE rfl Try.call106 (c_slices_Min_int64 (hS := hS) ha0 hr4)) rfl ?_
 rintro v8 a w ⟨m5, hm6, hS, hv7⟩ hE
 obtain ⟨rfl, hr9⟩ := RV_int hv7
 refine qa hE rfl rfl fun a hE => ?_
 refine knil (kseq (kreg ?_))
 refine qa hE rfl rfl fun a hE => ?_
 refine knil (kseq (kreg ?_))
 refine qa hE rfl rfl fun a hE => ?_
 refine knil (kseq (kseq (kreg ?_)))
 refine qm hE rfl rfl fun a hE => ?_
 refine sp hE (r_lenSl (k := (kInt .i64)) hE rfl rfl Try.underlying93 (ha0.mono hm6)) rfl fun a hE => ?_
 refine qm hE rfl rfl fun a hE => ?_
 refine knil ?_
 refine kcut (fun a w => ∃ x18 : (List Int), ∃ x21 : Int, encode_small_j1 r3 x18 x21 = some r ∧ ∃ m', M.le m5 m' ∧ ∃ (v19 : Value), RV (kSl (kInt .u64)) m' v19 x18 ∧ inR .i64 x21 ∧ S W0 m' w (L) ((1, v19) :: TL) ∧ Env 42 a [(3, (.int .i64 r3)), (4, v19), (5, (.int .i64 x21))]) ?_ ?_
 {
 refine kblock ?_
 refine kloop h (fun (s : ((List Int) × Int × Int)) a w => ∃ m', M.le m5 m' ∧ ∃ (v62 : Value), RV (kSl (kInt .u64)) m' v62 s.1 ∧ inR .i64 s.2.1 ∧ inR .i64 s.2.2 ∧ S W0 m' w (L) ((1, v62) :: TL) ∧ Env 42 a [(3, (.int .i64 r3)), (4, v62), (5, (.int .i64 s.2.1)), (11, v0), (12, (.int .i64 (p0.length : Int))), (13, (.int .i64 s.2.2))]) ?_ ?_
 {
 exact ⟨_, (M.le.refl _), (.slice none 0 0), RV_nil, (show inR .i64 0 from inR_lit (by decide)), (show inR .i64 0 from inR_lit (by decide)), (hS.tail0 1), hE.cut ⟨rfl, rfl, rfl, rfl, rfl, rfl, trivial⟩⟩
 }
 {
 rintro ⟨x61, x64, x66⟩ a w ⟨m59, hm60, v62, hv63, hr65, hr67, hS, hE⟩ r68 h hb69
 have h : encode_small_b1 p0 r3 x61 x64 x66 = some r68 := h
 unfold encode_small_b1 at h
 refine kseq (kreg ?_)
 refine sp hE (r_bin hE rfl rfl b_lss) rfl fun a hE => ?_
 refine knil (kseq ?_)
 refine kif hE rfl (fun hd71 => ?_) (fun hd71 => ?_)
 {
 have h := ite_T hd71 h
 refine kskip (kseq (kblock (kseq (kreg ?_))))
 obtain ⟨x72, hx73, h⟩ := ob h
 refine st hE (st_index (k := (kInt .i64)) hE rfl rfl Try.underlying93 Try.sizeOf2 (ha0.mono (M.le.trans hm6 hm60)) hx73) rfl ?_
 rintro v75 a _ ⟨rfl, hp74⟩ hE
 refine st hE (st_loadM hE hS ty2 rfl hp74) rfl ?_
 rintro v77 a _ ⟨rfl, hv76⟩ hE
 obtain ⟨rfl, hr78⟩ := RV_int hv76
 refine qa hE rfl rfl fun a hE => ?_
 refine knil (kseq (kreg ?_))
 refine qm hE rfl rfl fun a hE => ?_
 refine sp hE (r_conv hE rfl Try.underlying2 Try.underlying24 rfl) rfl fun a hE => ?_
 refine qm hE rfl rfl fun a hE => ?_
 refine sp hE (r_conv hE rfl Try.underlying2 Try.underlying24 rfl) rfl fun a hE => ?_
 refine sp hE (r_bin hE rfl rfl (b_sub rfl)) rfl fun a hE => ?_
 refine qa hE rfl rfl fun a hE => ?_
 refine knil (kseq (kreg ?_))
 refine qm hE rfl rfl fun a hE => ?_
 refine qm hE rfl rfl fun a hE => ?_
 refine st hE (st_lit (k := (kInt .u64)) (xs := [IntKind.u64.wrap ((IntKind.u64.wrap x72) - (IntKind.u64.wrap r3))]) (vs := [(.int .u64 (IntKind.u64.wrap ((IntKind.u64.wrap x72) - (IntKind.u64.wrap r3))))]) hE hS rfl Try.underlying125 Try.sizeOf24 Try.zeroValue24 ⟨(RV_of_int (inR_wrap _ _)), trivial⟩ rfl (by decide)) rfl ?_
 rintro v91 a w ⟨m89, hm90, hS, hv88⟩ hE
 obtain ⟨z92, hz93, h⟩ := ob h
 refine st hE (st_app (k := (kInt .u64)) (N := 17592186044416) hE hS rfl rfl Try.underlying125 Try.underlying125 el24 (i := 1) rfl (hv63.mono hm90) hv88 hz93 rfl rfl) rfl ?_
 rintro v97 a w ⟨m95, hm96, hS, hv94⟩ hE
 refine qa hE rfl rfl fun a hE => ?_
 refine knil (kreg ?_)
 refine qm hE rfl rfl fun a hE => ?_
 refine qm hE rfl rfl fun a hE => ?_
 obtain ⟨r101, hr102, h⟩ := ob h
 refine st hE (st_call (vs := [(.int .u64 (IntKind.u64.wrap ((IntKind.u64.wrap x72) - (IntKind.u64.wrap r3))))]) hE rfl Try.call107 (c_bits_Len64 (hS := hS) (inR_wrap _ _) hr102)) rfl ?_
 rintro v106 a w ⟨m103, hm104, hS, hv105⟩ hE
 obtain ⟨rfl, hr107⟩ := RV_int hv105
 refine sp hE (r_max2 hE rfl rfl) rfl fun a hE => ?_
 refine qa hE rfl rfl fun a hE => ?_
 refine knil (kreg ?_)
 refine sp hE (r_bin hE rfl rfl (b_add rfl)) rfl fun a hE => ?_
 refine qm hE rfl rfl fun a hE => ?_
 refine knil ?_
 exact ⟨(z92, (if x64 < r101 then r101 else x64), IntKind.i64.wrap (x66 + 1)), (Option.some.inj h).symm, _, (M.le.trans hm60 (M.le.trans hm90 (M.le.trans hm96 hm104))), v97, (hv94.mono hm104), (inR_max hr65 hr107), (inR_wrap _ _), (hS.pickT 2 [1] rfl rfl rfl), hE.cut ⟨rfl, rfl, rfl, rfl, rfl, rfl, trivial⟩⟩
 }
 {
 have h := ite_F hd71 h
 refine kexit rfl rfl ?_
 have h := unwrap h hb69
 exact ⟨x61, x64, h, _, hm60, v62, hv63, hr65, hS, hE.cut ⟨rfl, rfl, rfl, trivial⟩⟩
 }
 }
 }
 {
 rintro a w ⟨x18, x21, h, m16, hm17, v19, hv20, hr22, hS, hE⟩
 unfold encode_small_j1 at h
 refine kseq (kreg ?_)
 refine qm hE rfl rfl fun a hE => ?_
 refine sp hE (r_conv hE rfl Try.underlying2 Try.underlying24 rfl) rfl fun a hE => ?_
 obtain ⟨r26, hr27, h⟩ := ob h
 refine st hE (st_call (vs := [(.int .u64 (IntKind.u64.wrap r3))]) hE rfl Try.call100 (c_encode_eight (hS := hS) (inR_wrap _ _) hr27)) rfl ?_
 rintro v31 a w ⟨m28, hm29, hS, hv30⟩ hE
 refine qm hE rfl rfl fun a hE => ?_
 refine sp hE (r_conv hE rfl Try.underlying3 Try.underlying5 rfl) rfl fun a hE => ?_
 refine st hE (st_lit (k := (kInt .u8)) (xs := [IntKind.u8.wrap x21]) (vs := [(.int .u8 (IntKind.u8.wrap x21))]) hE hS rfl Try.underlying37 Try.sizeOf5 Try.zeroValue5 ⟨(RV_of_int (inR_wrap _ _)), trivial⟩ rfl (by decide)) rfl ?_
 rintro v37 a w ⟨m35, hm36, hS, hv34⟩ hE
 obtain ⟨z38, hz39, h⟩ := ob h
 refine st hE (st_app (k := (kInt .u8)) (N := 140737488355328) hE hS rfl rfl Try.underlying37 Try.underlying37 el5 (i := 1) rfl (hv30.mono hm36) hv34 hz39 rfl rfl) rfl ?_
 rintro v43 a w ⟨m41, hm42, hS, hv40⟩ hE
 refine qm hE rfl rfl fun a hE => ?_
 refine qm hE rfl rfl fun a hE => ?_
 obtain ⟨r46, hr47, h⟩ := ob h
 refine st hE (st_call (vs := [v19, (.int .i64 x21)]) hE rfl Try.call105 (c_encode_packed (hS := hS) (hv20.mono (M.le.trans hm29 (M.le.trans hm36 hm42))) hr22 hr47)) rfl ?_
 rintro v51 a w ⟨m48, hm49, hS, hv50⟩ hE
 obtain ⟨z52, hz53, h⟩ := ob h
 refine st hE (st_app (k := (kInt .u8)) (N := 140737488355328) hE hS rfl rfl Try.underlying37 Try.underlying37 el5 (i := 1) rfl (hv40.mono hm49) hv50 hz53 rfl rfl) rfl ?_
 rintro v57 a w ⟨m55, hm56, hS, hv54⟩ hE
 refine qa hE rfl rfl fun a hE => ?_
 refine knil (kret ?_)
 obtain rfl := oi h
 try dsimp only
 refine Fin.mk hE (rs := [.tmp 2]) rfl (ResL.tmp hE rfl ResL.nil) ?_
 exact ⟨_, (M.le.trans hm6 (M.le.trans hm17 (M.le.trans hm29 (M.le.trans hm36 (M.le.trans hm42 (M.le.trans hm49 hm56)))))), (hS.pickT 3 [1] rfl rfl rfl), hv54⟩
 }
theorem fn_53 {m0 : M} : Fn1 Try.prog kAV kBool m0 (.func (.func 53) [].toArray [].toArray) encode_Encode_1 := by
  refine ⟨53, _, rfl, Try.call53, ?_⟩
  intro W0 m w L TL v0 x0 r hm hS h0 hr
  refine (c_encode_Encode_1 (hS := hS) h0 hr).mono ?_
  intro e w' he
  cases e with
  | returned v => obtain ⟨m', h1, h2, h3⟩ := he; exact ⟨m', h1, h2, h3⟩
  | panicked ch => exact he.elim
  | outgrown => exact he.elim
theorem c_encode_Encode {W0 : Bse} {m : M} {w : World} {L : List (Nat × List Value)} {TL : List (Nat × Value)} (hS : S W0 m w (L) (TL)) {p0 : Int} (ha0 : inR .i64 p0) {v1 : Value} {p1 : (List AV)} (ha1 : RV (kSl kAV) m v1 p1) {r : ((List Int) × Int)} (h : encode_Encode p0 p1 = some r) :
    Calls Try.prog 24 [(.int .i64 p0), v1].toArray w (Ret fun v w' => ∃ m', M.le m m' ∧ S W0 m' w' (L) (TL) ∧ ∃ v0_ v1_ : Value, v = .tuple #[v0_, v1_] ∧ RV (kSl (kInt .u8)) m' v0_ r.1 ∧ RV (kInt .i64) m' v1_ r.2) := by
 refine kcall Try.func24 rfl Try.ntmps24 (Nat.le_of_ble_eq_true rfl) fun a hE => ?_
 have hE : Env 69 a [(0, (.int .i64 p0)), (1, v1)] := hE
 unfold encode_Encode at h
 refine kseq (kreg ?_)
 refine qa hE rfl rfl fun a hE => ?_
 refine qa hE rfl rfl fun a hE => ?_
 refine knil (kseq (kseq ?_))
 refine kcut (fun a w => ∃ x5 : Bool, encode_Encode_j1 p0 p1 x5 = some r ∧ ∃ m', M.le m m' ∧ S W0 m' w (L) (TL) ∧ Env 69 a [(0, (.int .i64 p0)), (1, v1), (16, (.bool x5))]) ?_ ?_
 {
 refine kreg ?_
 refine qm hE rfl rfl fun a hE => ?_
 refine sp hE (r_bin hE rfl rfl b_lss) rfl fun a hE => ?_
 refine qm hE rfl rfl fun a hE => ?_
 rcases Bool.eq_false_or_eq_true (decide (p0 < 0)) with hd174 | hd174
 {
 have h := ite_T hd174 h
 refine sx hE rfl rfl rfl rfl hd174 rfl fun a hE => ?_
 refine sx hE rfl rfl rfl rfl hd174 rfl fun a hE => ?_
 refine sp hE (r_pickT hE rfl hd174 rfl) rfl fun a hE => ?_
 refine knil ?_
 exact ⟨true, h, _, (M.le.refl _), hS, hE.cut ⟨rfl, rfl, rfl, trivial⟩⟩
 }
 {
 have h := ite_F hd174 h
 refine spg hE rfl rfl rfl rfl hd174 (r_move hE rfl) rfl fun a hE => ?_
 refine spg hE rfl rfl rfl rfl hd174 (r_bin hE rfl rfl b_gtr) rfl fun a hE => ?_
 refine sp hE (r_pickF hE rfl hd174 rfl) rfl fun a hE => ?_
 refine knil ?_
 exact ⟨(decide (4 < p0)), h, _, (M.le.refl _), hS, hE.cut ⟨rfl, rfl, rfl, trivial⟩⟩
 }
 }
 {
 rintro a w ⟨x5, h, m3, hm4, hS, hE⟩
 unfold encode_Encode_j1 at h
 refine kif hE rfl (fun hd7 => ?_) (fun hd7 => ?_)
 {
 have h := ite_T hd7 h
 refine kseq (kreg ?_)
 refine qa hE rfl rfl fun a hE => ?_
 refine qa hE rfl rfl fun a hE => ?_
 refine knil (kret ?_)
 obtain rfl := oi h
 try dsimp only
 refine Fin.mk hE (rs := [.tmp 4, .tmp 5]) rfl (ResL.tmp hE rfl (ResL.tmp hE rfl ResL.nil)) ?_
 exact ⟨_, hm4, hS, _, _, rfl, RV_nil, (RV_of_int (show inR .i64 62 from inR_lit (by decide)))⟩
 }
 {
 have h := ite_F hd7 h
 refine kskip (kseq (kseq (kreg ?_)))
 refine qm hE rfl rfl fun a hE => ?_
 refine sp hE (r_lenSl (k := kAV) hE rfl rfl Try.underlying29 (ha1.mono hm4)) rfl fun a hE => ?_
 refine sp hE (r_bin hE rfl rfl b_gtr) rfl fun a hE => ?_
 refine knil ?_
 refine kif hE rfl (fun hd13 => ?_) (fun hd13 => ?_)
 {
 have h := ite_T hd13 h
 refine kseq (kreg ?_)
 refine qa hE rfl rfl fun a hE => ?_
 refine qa hE rfl rfl fun a hE => ?_
 refine knil (kret ?_)
 obtain rfl := oi h
 try dsimp only
 refine Fin.mk hE (rs := [.tmp 4, .tmp 5]) rfl (ResL.tmp hE rfl (ResL.tmp hE rfl ResL.nil)) ?_
 exact ⟨_, hm4, hS, _, _, rfl, RV_nil, (RV_of_int (show inR .i64 61 from inR_lit (by decide)))⟩
 }
 {
 have h := ite_F hd13 h
 refine kskip (kseq (kseq (kreg ?_)))
 refine qm hE rfl rfl fun a hE => ?_
 obtain ⟨r17, hr18, h⟩ := ob h
 refine st hE (st_call (vs := [v1, (.func (.func 53) #[] #[])]) hE rfl Try.call52 (c_slices_ContainsFunc_Value (hS := hS) (ha1.mono hm4) (fn_53 (m0 := m3)) hr18)) rfl ?_
 rintro v22 a w ⟨m19, hm20, hS, hv21⟩ hE
 obtain rfl := RV_bool hv21
 refine knil ?_
 refine kif hE rfl (fun hd23 => ?_) (fun hd23 => ?_)
 {
 have h := ite_T hd23 h
 refine kseq (kreg ?_)
 refine qa hE rfl rfl fun a hE => ?_
 refine qa hE rfl rfl fun a hE => ?_
 refine knil (kret ?_)
 obtain rfl := oi h
 try dsimp only
 refine Fin.mk hE (rs := [.tmp 4, .tmp 5]) rfl (ResL.tmp hE rfl (ResL.tmp hE rfl ResL.nil)) ?_
 exact ⟨_, (M.le.trans hm4 hm20), hS, _, _, rfl, RV_nil, (RV_of_int (show inR .i64 60 from inR_lit (by decide)))⟩
 }
 {
 have h := ite_F hd23 h
 refine kskip (kseq (kreg ?_))
 refine qm hE rfl rfl fun a hE => ?_
 obtain ⟨r27, hr28, h⟩ := ob h
 refine st hE (st_call (vs := [v1]) hE rfl Try.call55 (c_encode_ints (hS := hS) (ha1.mono (M.le.trans hm4 hm20)) hr28)) rfl ?_
 rintro _ a w ⟨m29, hm30, hS, v0_31, v1_32, rfl, hv0_33, hv1_34⟩ hE
 obtain rfl := RV_bool hv1_34
 refine qm hE rfl rfl fun a hE => ?_
 refine sp hE (r_extract hE rfl rfl) rfl fun a hE => ?_
 refine sp hE (r_extract hE rfl rfl) rfl fun a hE => ?_
 refine qa hE rfl rfl fun a hE => ?_
 refine qa hE rfl rfl fun a hE => ?_
 refine knil (kseq (kseq ?_))
 refine kcut (fun a w => ∃ x43 : Bool, encode_Encode_j2 p0 p1 r27 x43 = some r ∧ ∃ m', M.le m29 m' ∧ S W0 m' w (L) (TL) ∧ Env 69 a [(0, (.int .i64 p0)), (1, v1), (6, v0_31), (36, (.bool x43))]) ?_ ?_
 {
 refine kreg ?_
 refine qm hE rfl rfl fun a hE => ?_
 refine sp hE (r_not hE rfl) rfl fun a hE => ?_
 refine qm hE rfl rfl fun a hE => ?_
 rcases Bool.eq_false_or_eq_true (!r27.2) with hd159 | hd159
 {
 have h := ite_T hd159 h
 refine spg hE rfl rfl rfl rfl hd159 (r_move hE rfl) rfl fun a hE => ?_
 refine spg hE rfl rfl rfl rfl hd159 (r_bin hE rfl rfl b_eql) rfl fun a hE => ?_
 refine spg hE rfl rfl rfl rfl hd159 (r_move hE rfl) rfl fun a hE => ?_
 rcases Bool.eq_false_or_eq_true (p0 == 2) with hd163 | hd163
 {
 have h := ite_T hd163 h
 refine sx hE rfl rfl rfl rfl hd163 rfl fun a hE => ?_
 refine sx hE rfl rfl rfl rfl hd163 rfl fun a hE => ?_
 refine spg hE rfl rfl rfl rfl hd159 (r_pickT hE rfl hd163 rfl) rfl fun a hE => ?_
 refine sp hE (r_pickT hE rfl hd159 rfl) rfl fun a hE => ?_
 refine knil ?_
 exact ⟨true, h, _, (M.le.refl _), hS, hE.cut ⟨rfl, rfl, rfl, rfl, trivial⟩⟩
 }
 {
 have h := ite_F hd163 h
 refine spg hE rfl rfl rfl rfl hd163 (r_move hE rfl) rfl fun a hE => ?_
 refine spg hE rfl rfl rfl rfl hd163 (r_bin hE rfl rfl b_eql) rfl fun a hE => ?_
 refine spg hE rfl rfl rfl rfl hd159 (r_pickF hE rfl hd163 rfl) rfl fun a hE => ?_
 refine sp hE (r_pickT hE rfl hd159 rfl) rfl fun a hE => ?_
 refine knil ?_
 exact ⟨(p0 == 4), h, _, (M.le.refl _), hS, hE.cut ⟨rfl, rfl, rfl, rfl, trivial⟩⟩
 }
 }
 {
 have h := ite_F hd159 h
 refine sx hE rfl rfl rfl rfl hd159 rfl fun a hE => ?_
 refine sx hE rfl rfl rfl rfl hd159 rfl fun a hE => ?_
 refine sx hE rfl rfl rfl rfl hd159 rfl fun a hE => ?_
 refine sxu hE rfl rfl rfl rfl fun a hE => ?_
 refine sxu hE rfl rfl rfl rfl fun a hE => ?_
 refine sx hE rfl rfl rfl rfl hd159 rfl fun a hE => ?_
 refine sp hE (r_pickF hE rfl hd159 rfl) rfl fun a hE => ?_
 refine knil ?_
 exact ⟨false, h, _, (M.le.refl _), hS, hE.cut ⟨rfl, rfl, rfl, rfl, trivial⟩⟩
 }
 }
 {
 rintro a w ⟨x43, h, m41, hm42, hS, hE⟩
 unfold encode_Encode_j2 at h
 refine kif hE rfl (fun hd45 => ?_) (fun hd45 => ?_)
 {
 have h := ite_T hd45 h
 refine kseq (kreg ?_)
 refine qa hE rfl rfl fun a hE => ?_
 refine qa hE rfl rfl fun a hE => ?_
 refine knil (kret ?_)
 obtain rfl := oi h
 try dsimp only
 refine Fin.mk hE (rs := [.tmp 4, .tmp 5]) rfl (ResL.tmp hE rfl (ResL.tmp hE rfl ResL.nil)) ?_
 exact ⟨_, (M.le.trans hm4 (M.le.trans hm20 (M.le.trans hm30 hm42))), hS, _, _, rfl, RV_nil, (RV_of_int (show inR .i64 62 from inR_lit (by decide)))⟩
 }
 {
 have h := ite_F hd45 h
 refine kskip (kseq (kseq (kreg ?_)))
 refine qm hE rfl rfl fun a hE => ?_
 refine sp hE (r_lenSl (k := kAV) hE rfl rfl Try.underlying29 (ha1.mono (M.le.trans hm4 (M.le.trans hm20 (M.le.trans hm30 hm42))))) rfl fun a hE => ?_
 refine sp hE (r_bin hE rfl rfl b_eql) rfl fun a hE => ?_
 refine knil ?_
 refine kif hE rfl (fun hd51 => ?_) (fun hd51 => ?_)
 {
 have h := ite_T hd51 h
 refine kseq (kreg ?_)
 refine qa hE rfl rfl fun a hE => ?_
 refine qa hE rfl rfl fun a hE => ?_
 refine knil (kret ?_)
 obtain rfl := oi h
 try dsimp only
 refine Fin.mk hE (rs := [.tmp 4, .tmp 5]) rfl (ResL.tmp hE rfl (ResL.tmp hE rfl ResL.nil)) ?_
 exact ⟨_, (M.le.trans hm4 (M.le.trans hm20 (M.le.trans hm30 hm42))), hS, _, _, rfl, RV_nil, (RV_of_int (show inR .i64 0 from inR_lit (by decide)))⟩
 }
 {
 have h := ite_F hd51 h
 refine kskip (kseq (kseq (kreg ?_)))
 refine qm hE rfl rfl fun a hE => ?_
 refine knil (kblock (kseq (kreg ?_)))
 refine sp hE (r_bin hE rfl rfl b_eql) rfl fun a hE => ?_
 refine qa hE rfl rfl fun a hE => ?_
 refine knil ?_
 refine kif hE rfl (fun hd57 => ?_) (fun hd57 => ?_)
 {
 have h := ite_T hd57 h
 refine kseq (kreg ?_)
 refine qm hE rfl rfl fun a hE => ?_
 obtain ⟨r59, hr60, h⟩ := ob h
 refine st hE (st_call (vs := [v1]) hE rfl Try.call56 (c_encode_runs (hS := hS) (ha1.mono (M.le.trans hm4 (M.le.trans hm20 (M.le.trans hm30 hm42)))) hr60)) rfl ?_
 rintro v64 a w ⟨m61, hm62, hS, hv63⟩ hE
 refine qa hE rfl rfl fun a hE => ?_
 refine qa hE rfl rfl fun a hE => ?_
 refine knil (kret ?_)
 obtain rfl := oi h
 try dsimp only
 refine Fin.mk hE (rs := [.tmp 4, .tmp 5]) rfl (ResL.tmp hE rfl (ResL.tmp hE rfl ResL.nil)) ?_
 exact ⟨_, (M.le.trans hm4 (M.le.trans hm20 (M.le.trans hm30 (M.le.trans hm42 hm62)))), (hS.dropT 1), _, _, rfl, hv63, (RV_of_int (show inR .i64 0 from inR_lit (by decide)))⟩
 }
 {
 have h := ite_F hd57 h
 refine kseq (kreg ?_)
 refine sp hE (r_bin hE rfl rfl b_eql) rfl fun a hE => ?_
 refine qa hE rfl rfl fun a hE => ?_
 refine knil ?_
 refine kif hE rfl (fun hd69 => ?_) (fun hd69 => ?_)
 {
 have h := ite_T hd69 h
 refine kseq (kreg ?_)
 refine qm hE rfl rfl fun a hE => ?_
 obtain ⟨r71, hr72, h⟩ := ob h
 refine st hE (st_call (vs := [v0_31]) hE rfl Try.call57 (c_encode_delta (hS := hS) (hv0_33.mono hm42) hr72)) rfl ?_
 rintro v76 a w ⟨m73, hm74, hS, hv75⟩ hE
 refine qa hE rfl rfl fun a hE => ?_
 refine qa hE rfl rfl fun a hE => ?_
 refine knil (kret ?_)
 obtain rfl := oi h
 try dsimp only
 refine Fin.mk hE (rs := [.tmp 4, .tmp 5]) rfl (ResL.tmp hE rfl (ResL.tmp hE rfl ResL.nil)) ?_
 exact ⟨_, (M.le.trans hm4 (M.le.trans hm20 (M.le.trans hm30 (M.le.trans hm42 hm74)))), (hS.dropT 1), _, _, rfl, hv75, (RV_of_int (show inR .i64 0 from inR_lit (by decide)))⟩
 }
 {
 have h := ite_F hd69 h
 refine kseq (kreg ?_)
 refine sp hE (r_bin hE rfl rfl b_eql) rfl fun a hE => ?_
 refine qa hE rfl rfl fun a hE => ?_
 refine knil ?_
 refine kif hE rfl (fun hd81 => ?_) (fun hd81 => ?_)
 {
 have h := ite_T hd81 h
 refine kseq (kreg ?_)
 refine qm hE rfl rfl fun a hE => ?_
 obtain ⟨r83, hr84, h⟩ := ob h
 refine st hE (st_call (vs := [v1]) hE rfl Try.call58 (c_encode_dict (hS := hS) (ha1.mono (M.le.trans hm4 (M.le.trans hm20 (M.le.trans hm30 hm42)))) hr84)) rfl ?_
 rintro v88 a w ⟨m85, hm86, hS, hv87⟩ hE
 refine qa hE rfl rfl fun a hE => ?_
 refine qa hE rfl rfl fun a hE => ?_
 refine knil (kret ?_)
 obtain rfl := oi h
 try dsimp only
 refine Fin.mk hE (rs := [.tmp 4, .tmp 5]) rfl (ResL.tmp hE rfl (ResL.tmp hE rfl ResL.nil)) ?_
 exact ⟨_, (M.le.trans hm4 (M.le.trans hm20 (M.le.trans hm30 (M.le.trans hm42 hm86)))), (hS.dropT 1), _, _, rfl, hv87, (RV_of_int (show inR .i64 0 from inR_lit (by decide)))⟩
 }
 {
 have h := ite_F hd81 h
 refine kseq (kreg ?_)
 refine sp hE (r_bin hE rfl rfl b_eql) rfl fun a hE => ?_
 refine qa hE rfl rfl fun a hE => ?_
 refine knil ?_
 refine kif hE rfl (fun hd93 => ?_) (fun hd93 => ?_)
 {
 have h := ite_T hd93 h
 refine kseq (kreg ?_)
 refine qm hE rfl rfl fun a hE => ?_
 obtain ⟨r95, hr96, h⟩ := ob h
 refine st hE (st_call (vs := [v0_31]) hE rfl Try.call59 (c_encode_small (hS := hS) (hv0_33.mono hm42) hr96)) rfl ?_
 rintro v100 a w ⟨m97, hm98, hS, hv99⟩ hE
 refine qa hE rfl rfl fun a hE => ?_
 refine qa hE rfl rfl fun a hE => ?_
 refine knil (kret ?_)
 obtain rfl := oi h
 try dsimp only
 refine Fin.mk hE (rs := [.tmp 4, .tmp 5]) rfl (ResL.tmp hE rfl (ResL.tmp hE rfl ResL.nil)) ?_
 exact ⟨_, (M.le.trans hm4 (M.le.trans hm20 (M.le.trans hm30 (M.le.trans hm42 hm98)))), (hS.dropT 1), _, _, rfl, hv99, (RV_of_int (show inR .i64 0 from inR_lit (by decide)))⟩
 }
 {
 have h := ite_F hd93 h
 refine kskip (kseq (kreg ?_))
 refine qa hE rfl rfl fun a hE => ?_
 refine knil (kseq (kseq (kreg ?_)))
 refine qm hE rfl rfl fun a hE => ?_
 refine sp hE (r_lenSl (k := kAV) hE rfl rfl Try.underlying29 (ha1.mono (M.le.trans hm4 (M.le.trans hm20 (M.le.trans hm30 hm42))))) rfl fun a hE => ?_
 refine qm hE rfl rfl fun a hE => ?_
 refine knil ?_
 refine kcut (fun a w => ∃ x109 : (List Int), encode_Encode_j3 x109 = some r ∧ ∃ m', M.le m41 m' ∧ ∃ (v110 : Value), RV (kSl (kInt .u8)) m' v110 x109 ∧ S W0 m' w (L) ((1, v110) :: TL) ∧ Env 69 a [(8, v110)]) ?_ ?_
 {
 refine kblock ?_
 refine kloop h (fun (s : ((List Int) × Int)) a w => ∃ m', M.le m41 m' ∧ ∃ (v119 : Value), RV (kSl (kInt .u8)) m' v119 s.1 ∧ inR .i64 s.2 ∧ S W0 m' w (L) ((1, v119) :: TL) ∧ Env 69 a [(8, v119), (57, v1), (58, (.int .i64 (p1.length : Int))), (59, (.int .i64 s.2))]) ?_ ?_
 {
 exact ⟨_, (M.le.refl _), (.slice none 0 0), RV_nil, (show inR .i64 0 from inR_lit (by decide)), (hS.tail0 1), hE.cut ⟨rfl, rfl, rfl, rfl, trivial⟩⟩
 }
 {
 rintro ⟨x118, x121⟩ a w ⟨m116, hm117, v119, hv120, hr122, hS, hE⟩ r123 h hb124
 have h : encode_Encode_b1 p1 x118 x121 = some r123 := h
 unfold encode_Encode_b1 at h
 refine kseq (kreg ?_)
 refine sp hE (r_bin hE rfl rfl b_lss) rfl fun a hE => ?_
 refine knil (kseq ?_)
 refine kif hE rfl (fun hd126 => ?_) (fun hd126 => ?_)
 {
 have h := ite_T hd126 h
 refine kskip (kseq (kblock (kseq (kreg ?_))))
 obtain ⟨x127, hx128, h⟩ := ob h
 refine st hE (st_index (k := kAV) hE rfl rfl Try.underlying29 Try.sizeOf53 (ha1.mono (M.le.trans hm4 (M.le.trans hm20 (M.le.trans hm30 (M.le.trans hm42 hm117))))) hx128) rfl ?_
 rintro v130 a _ ⟨rfl, hp129⟩ hE
 refine st hE (st_loadM hE hS ty53 rfl hp129) rfl ?_
 rintro v132 a _ ⟨rfl, hv131⟩ hE
 refine st hE (st_alloc hS Try.zeroValue53 rfl (cs := zc53)) rfl ?_
 rintro _ a w ⟨b133, rfl, hS⟩ hE
 refine st0 hE (st_storeF hE hS ty53 StF_self rfl rfl hv131 (i := 0) rfl (zr53 _)) ?_
 rintro _ w ⟨cs135, hc136, hS⟩ hE
 refine knil (kreg ?_)
 refine qm hE rfl rfl fun a hE => ?_
 refine st hE (st_loadL hE hS ty53 rfl (i := 0) rfl (R_whole hc136)) rfl ?_
 rintro v140 a _ ⟨rfl, hv139⟩ hE
 obtain ⟨r141, hr142, h⟩ := ob h
 refine st hE (st_call (vs := [v140]) hE rfl Try.call60 (c_encode_one (hS := hS) hv139 hr142)) rfl ?_
 rintro v146 a w ⟨m143, hm144, hS, hv145⟩ hE
 obtain ⟨z147, hz148, h⟩ := ob h
 refine st hE (st_app (k := (kInt .u8)) (N := 140737488355328) hE hS rfl rfl Try.underlying37 Try.underlying37 el5 (i := 0) rfl (hv120.mono hm144) hv145 hz148 rfl rfl) rfl ?_
 rintro v152 a w ⟨m150, hm151, hS, hv149⟩ hE
 refine qa hE rfl rfl fun a hE => ?_
 refine knil (kreg ?_)
 refine sp hE (r_bin hE rfl rfl (b_add rfl)) rfl fun a hE => ?_
 refine qm hE rfl rfl fun a hE => ?_
 refine knil ?_
 exact ⟨(z147, IntKind.i64.wrap (x121 + 1)), (Option.some.inj h).symm, _, (M.le.trans hm117 (M.le.trans hm144 hm151)), v152, hv149, (inR_wrap _ _), (hS.pickL 1 [] rfl rfl rfl), hE.cut ⟨rfl, rfl, rfl, rfl, trivial⟩⟩
 }
 {
 have h := ite_F hd126 h
 refine kexit rfl rfl ?_
 have h := unwrap h hb124
 exact ⟨x118, h, _, hm117, v119, hv120, hS, hE.cut ⟨rfl, trivial⟩⟩
 }
 }
 }
 {
 rintro a w ⟨x109, h, m107, hm108, v110, hv111, hS, hE⟩
 unfold encode_Encode_j3 at h
 refine kseq (kreg ?_)
 refine qm hE rfl rfl fun a hE => ?_
 refine qa hE rfl rfl fun a hE => ?_
 refine qa hE rfl rfl fun a hE => ?_
 refine knil (kret ?_)
 obtain rfl := oi h
 try dsimp only
 refine Fin.mk hE (rs := [.tmp 4, .tmp 5]) rfl (ResL.tmp hE rfl (ResL.tmp hE rfl ResL.nil)) ?_
 exact ⟨_, (M.le.trans hm4 (M.le.trans hm20 (M.le.trans hm30 (M.le.trans hm42 hm108)))), (hS.dropT 1), _, _, rfl, hv111, (RV_of_int (show inR .i64 0 from inR_lit (by decide)))⟩
 }
 }
 }
 }
 }
 }
 }
 }
 }
 }
 }
 }
theorem c_slices_Equal_byte {W0 : Bse} {m : M} {w : World} {L : List (Nat × List Value)} {TL : List (Nat × Value)} (hS : S W0 m w (L) (TL)) {v0 : Value} {p0 : (List Int)} (ha0 : RV (kSl (kInt .u8)) m v0 p0) {v1 : Value} {p1 : (List Int)} (ha1 : RV (kSl (kInt .u8)) m v1 p1) {r : Bool} (h : slices_Equal_byte p0 p1 = some r) :
    Calls Try.prog 46 [v0, v1].toArray w (Ret fun v w' => ∃ m', M.le m m' ∧ S W0 m' w' (L) (TL) ∧ RV kBool m' v r) := by
 refine kcall Try.func46 rfl Try.ntmps46 (Nat.le_of_ble_eq_true rfl) fun a hE => ?_
 have hE : Env 26 a [(0, v0), (1, v1)] := hE
 unfold slices_Equal_byte at h
 refine kseq (kreg ?_)
 refine qa hE rfl rfl fun a hE => ?_
 refine knil (kseq (kseq (kreg ?_)))
 refine qm hE rfl rfl fun a hE => ?_
 refine sp hE (r_lenSl (k := (kInt .u8)) hE rfl rfl Try.underlying37 ha0) rfl fun a hE => ?_
 refine qm hE rfl rfl fun a hE => ?_
 refine sp hE (r_lenSl (k := (kInt .u8)) hE rfl rfl Try.underlying37 ha1) rfl fun a hE => ?_
 refine sp hE (r_bin hE rfl rfl b_neq) rfl fun a hE => ?_
 refine knil ?_
 refine kif hE rfl (fun hd7 => ?_) (fun hd7 => ?_)
 {
 have h := ite_T hd7 h
 refine kseq (kreg ?_)
 refine qa hE rfl rfl fun a hE => ?_
 refine knil (kret ?_)
 obtain rfl := oi h
 try dsimp only
 refine Fin.mk hE (rs := [.tmp 4]) rfl (ResL.tmp hE rfl ResL.nil) ?_
 exact ⟨_, (M.le.refl _), hS, RV_of_bool⟩
 }
 {
 have h := ite_F hd7 h
 refine kskip (kseq (kseq (kreg ?_)))
 refine qm hE rfl rfl fun a hE => ?_
 refine sp hE (r_lenSl (k := (kInt .u8)) hE rfl rfl Try.underlying37 ha0) rfl fun a hE => ?_
 refine qm hE rfl rfl fun a hE => ?_
 refine knil ?_
 refine kcut (fun a w => slices_Equal_byte_j1 = some r ∧ ∃ m', M.le m m' ∧ S W0 m' w (L) (TL) ∧ Env 26 a []) ?_ ?_
 {
 refine kblock ?_
 refine kloop h (fun (s : Int) a w => ∃ m', M.le m m' ∧ inR .i64 s ∧ S W0 m' w (L) (TL) ∧ Env 26 a [(0, v0), (1, v1), (12, (.int .i64 (p0.length : Int))), (13, (.int .i64 s))]) ?_ ?_
 {
 exact ⟨_, (M.le.refl _), (show inR .i64 0 from inR_lit (by decide)), hS, hE.cut ⟨rfl, rfl, rfl, rfl, trivial⟩⟩
 }
 {
 rintro x18 a w ⟨m16, hm17, hr19, hS, hE⟩ r20 h hb21
 have h : slices_Equal_byte_b1 p0 p1 x18 = some r20 := h
 unfold slices_Equal_byte_b1 at h
 refine kseq (kreg ?_)
 refine sp hE (r_bin hE rfl rfl b_lss) rfl fun a hE => ?_
 refine knil (kseq ?_)
 refine kif hE rfl (fun hd23 => ?_) (fun hd23 => ?_)
 {
 have h := ite_T hd23 h
 refine kskip (kseq (kblock (kseq (kreg ?_))))
 refine qm hE rfl rfl fun a hE => ?_
 refine qa hE rfl rfl fun a hE => ?_
 refine knil (kseq ?_)
 obtain ⟨x26, hx27, h⟩ := ob h
 obtain ⟨x31, hx32, h⟩ := ob h
 refine kchain (k := 8) (m := m16) (es := []) (Φ := (fun i m ws v => match i with | 0 => v = v0 | 1 => v = (.int .i64 x18) ∧ inR .i64 x18 | 2 => PR (kInt .u8) m v x26 | 3 => v = (.int .u8 x26) ∧ inR .u8 x26 | 4 => v = v1 | 5 => v = (.int .i64 x18) ∧ inR .i64 x18 | 6 => PR (kInt .u8) m v x31 | 7 => v = (.int .u8 x31) ∧ inR .u8 x31 | _ => True)) (Q := (fun c m ws L' TL' => match c with | 0 => L = L' ∧ TL = TL' | _ => False)) (cs := [⟨0, 0, false, [(0, v0)]⟩, ⟨0, 0, false, [(5, (.int .i64 x18))]⟩, ⟨0, 0, false, []⟩, ⟨0, 0, false, []⟩, ⟨0, 0, false, [(1, v1)]⟩, ⟨0, 0, false, [(5, (.int .i64 x18))]⟩, ⟨0, 0, false, []⟩, ⟨0, 0, false, []⟩]) mixed hE hS ⟨rfl, rfl⟩ rfl rfl ⟨⟨rfl, trivial⟩, ⟨rfl, trivial⟩, trivial, trivial, ⟨rfl, trivial⟩, ⟨rfl, trivial⟩, trivial, trivial, trivial⟩ (by kernel_rfl) ?_ ?_ ?_ ?_
 {
 intro i m_ m2_ ws v hm_ hp_
 match i, hp_ with
 | 0, hp_ => exact hp_
 | 1, hp_ => exact hp_
 | 2, hp_ => exact PR.mono hp_ hm_
 | 3, hp_ => exact hp_
 | 4, hp_ => exact hp_
 | 5, hp_ => exact hp_
 | 6, hp_ => exact PR.mono hp_ hm_
 | 7, hp_ => exact hp_
 | _ + 8, hp_ => exact trivial
 }
 {
 intro c m_ m2_ ws L_ T_ hm_ hq_
 match c, hq_ with
 | 0, ⟨e1_, e2_⟩ => exact ⟨e1_, e2_⟩
 | _ + 1, hq_ => exact hq_.elim
 }
 {
 refine ⟨?_, ?_, ?_, ?_, ?_, ?_, ?_, ?_, trivial⟩
 {
 refine cplain fun pre_ post_ L_ T_ m' a' w' hl' hp' hm' hq' hS' hE' hT' => ?_
 obtain rfl := len0 hl'
 refine Step.imp (Run1.pure (r_move hE' rfl)) ?_
 rintro _ _ ⟨rfl, rfl⟩
 exact ⟨_, M.le.refl _, hS', rfl⟩
 }
 {
 refine cplain fun pre_ post_ L_ T_ m' a' w' hl' hp' hm' hq' hS' hE' hT' => ?_
 obtain rfl := len0 hl'
 refine Step.imp (Run1.pure (r_move hE' rfl)) ?_
 rintro _ _ ⟨rfl, rfl⟩
 exact ⟨_, M.le.refl _, hS', ⟨rfl, hr19⟩⟩
 }
 {
 refine cplain fun pre_ post_ L_ T_ m' a' w' hl' hp' hm' hq' hS' hE' hT' => ?_
 obtain rfl := len0 hl'
 obtain ⟨v38, e39, q40⟩ : ∃ v, a'.tmps.getD 16 undef = v ∧ (v = v0) := ⟨_, rfl, hT' 0 (by decide) 16 rfl⟩
 have hE := hE'.add (e39.trans q40)
 obtain ⟨v41, e42, q43⟩ : ∃ v, a'.tmps.getD 17 undef = v ∧ (v = (.int .i64 x18) ∧ inR .i64 x18) := ⟨_, rfl, hT' 1 (by decide) 17 rfl⟩
 obtain ⟨q43, hr44⟩ := q43
 have hE := hE.add (e42.trans q43)
 refine Step.imp (st_index (k := (kInt .u8)) hE rfl rfl Try.underlying37 Try.sizeOf5 (ha0.mono (M.le.trans hm17 hm')) hx27) ?_
 rintro v45 _ ⟨rfl, hp28⟩
 exact ⟨_, M.le.refl _, hS', hp28⟩
 }
 {
 refine cplain fun pre_ post_ L_ T_ m' a' w' hl' hp' hm' hq' hS' hE' hT' => ?_
 obtain rfl := len0 hl'
 obtain ⟨v46, e47, q48⟩ : ∃ v, a'.tmps.getD 18 undef = v ∧ (PR (kInt .u8) m' v x26) := ⟨_, rfl, hT' 2 (by decide) 18 rfl⟩
 have hE := hE'.add (e47)
 refine Step.imp (st_loadM hE hS' ty5 rfl q48) ?_
 rintro v49 _ ⟨rfl, hv29⟩
 obtain ⟨rfl, hr50⟩ := RV_int hv29
 exact ⟨_, M.le.refl _, hS', ⟨rfl, hr50⟩⟩
 }
 {
 refine cplain fun pre_ post_ L_ T_ m' a' w' hl' hp' hm' hq' hS' hE' hT' => ?_
 obtain rfl := len0 hl'
 refine Step.imp (Run1.pure (r_move hE' rfl)) ?_
 rintro _ _ ⟨rfl, rfl⟩
 exact ⟨_, M.le.refl _, hS', rfl⟩
 }
 {
 refine cplain fun pre_ post_ L_ T_ m' a' w' hl' hp' hm' hq' hS' hE' hT' => ?_
 obtain rfl := len0 hl'
 refine Step.imp (Run1.pure (r_move hE' rfl)) ?_
 rintro _ _ ⟨rfl, rfl⟩
 exact ⟨_, M.le.refl _, hS', ⟨rfl, hr19⟩⟩
 }
 {
 refine cplain fun pre_ post_ L_ T_ m' a' w' hl' hp' hm' hq' hS' hE' hT' => ?_
 obtain rfl := len0 hl'
 obtain ⟨v53, e54, q55⟩ : ∃ v, a'.tmps.getD 20 undef = v ∧ (v = v1) := ⟨_, rfl, hT' 4 (by decide) 20 rfl⟩
 have hE := hE'.add (e54.trans q55)
 obtain ⟨v56, e57, q58⟩ : ∃ v, a'.tmps.getD 21 undef = v ∧ (v = (.int .i64 x18) ∧ inR .i64 x18) := ⟨_, rfl, hT' 5 (by decide) 21 rfl⟩
 obtain ⟨q58, hr59⟩ := q58
 have hE := hE.add (e57.trans q58)
 refine Step.imp (st_index (k := (kInt .u8)) hE rfl rfl Try.underlying37 Try.sizeOf5 (ha1.mono (M.le.trans hm17 hm')) hx32) ?_
 rintro v60 _ ⟨rfl, hp33⟩
 exact ⟨_, M.le.refl _, hS', hp33⟩
 }
 {
 refine cplain fun pre_ post_ L_ T_ m' a' w' hl' hp' hm' hq' hS' hE' hT' => ?_
 obtain rfl := len0 hl'
 obtain ⟨v61, e62, q63⟩ : ∃ v, a'.tmps.getD 22 undef = v ∧ (PR (kInt .u8) m' v x31) := ⟨_, rfl, hT' 6 (by decide) 22 rfl⟩
 have hE := hE'.add (e62)
 refine Step.imp (st_loadM hE hS' ty5 rfl q63) ?_
 rintro v64 _ ⟨rfl, hv34⟩
 obtain ⟨rfl, hr65⟩ := RV_int hv34
 exact ⟨_, M.le.refl _, hS', ⟨rfl, hr65⟩⟩
 }
 }
 {
 intro ws_ L_ T_ m66 a w hl67 hm68 hq69 hS hd70 hn71 ho72 hT73
 obtain rfl := len0 hl67
 obtain ⟨rfl, rfl⟩ := hq69
 have hE := EnvD.of (k := 8) (l' := [(0, v0), (1, v1), (5, (.int .i64 x18)), (12, (.int .i64 (p0.length : Int))), (13, (.int .i64 x18)), (14, (.bool (decide (x18 < (p0.length : Int))))), (15, (.int .i64 x18))]) hd70 hn71 ho72 ⟨rfl, rfl, rfl, rfl, rfl, rfl, rfl, trivial⟩ rfl
 obtain ⟨v74, e75, q76⟩ : ∃ v, a.tmps.getD 19 undef = v ∧ (v = (.int .u8 x26) ∧ inR .u8 x26) := ⟨_, rfl, hT73 3 (by decide) 19 rfl⟩
 obtain ⟨q76, hr77⟩ := q76
 have hE := hE.add (e75.trans q76)
 obtain ⟨v78, e79, q80⟩ : ∃ v, a.tmps.getD 23 undef = v ∧ (v = (.int .u8 x31) ∧ inR .u8 x31) := ⟨_, rfl, hT73 7 (by decide) 23 rfl⟩
 obtain ⟨q80, hr81⟩ := q80
 have hE := hE.add (e79.trans q80)
 refine sp hE (r_bin hE rfl rfl b_neq) rfl fun a hE => ?_
 refine knil ?_
 refine kif hE rfl (fun hd83 => ?_) (fun hd83 => ?_)
 {
 have h := ite_T hd83 h
 refine kseq (kreg ?_)
 refine qa hE rfl rfl fun a hE => ?_
 refine knil (kret ?_)
 have h := unwrap h hb21
 obtain rfl := oi h
 try dsimp only
 refine Fin.mk hE (rs := [.tmp 4]) rfl (ResL.tmp hE rfl ResL.nil) ?_
 exact ⟨_, (M.le.trans hm17 hm68), hS, RV_of_bool⟩
 }
 {
 have h := ite_F hd83 h
 refine kskip (kreg ?_)
 refine sp hE (r_bin hE rfl rfl (b_add rfl)) rfl fun a hE => ?_
 refine qm hE rfl rfl fun a hE => ?_
 refine knil ?_
 exact ⟨IntKind.i64.wrap (x18 + 1), (Option.some.inj h).symm, _, (M.le.trans hm17 hm68), (inR_wrap _ _), hS, hE.cut ⟨rfl, rfl, rfl, rfl, trivial⟩⟩
 }
 }
 }
 {
 have h := ite_F hd23 h
 refine kexit rfl rfl ?_
 have h := unwrap h hb21
 exact ⟨h, _, hm17, hS, hE.cut trivial⟩
 }
 }
 }
 {
 rintro a w ⟨h, m12, hm13, hS, hE⟩
 unfold slices_Equal_byte_j1 at h
 refine kseq (kreg ?_)
 refine qa hE rfl rfl fun a hE => ?_
 refine knil (kret ?_)
 obtain rfl := oi h
 try dsimp only
 refine Fin.mk hE (rs := [.tmp 4]) rfl (ResL.tmp hE rfl ResL.nil) ?_
 exact ⟨_, hm13, hS, RV_of_bool⟩
 }
 }
theorem c_encode_Decode {W0 : Bse} {m : M} {w : World} {L : List (Nat × List Value)} {TL : List (Nat × Value)} (hS : S W0 m w (L) (TL)) {p0 : Int} (ha0 : inR .i64 p0) {v1 : Value} {p1 : (List Int)} (ha1 : RV (kSl (kInt .u8)) m v1 p1) {p2 : Int} (ha2 : inR .i64 p2) {r : ((List AV) × Int)} (h : encode_Decode p0 p1 p2 = some r) :
    Calls Try.prog 20 [(.int .i64 p0), v1, (.int .i64 p2)].toArray w (Ret fun v w' => ∃ m', M.le m m' ∧ S W0 m' w' (L) (TL) ∧ ∃ v0_ v1_ : Value, v = .tuple #[v0_, v1_] ∧ RV (kSl kAV) m' v0_ r.1 ∧ RV (kInt .i64) m' v1_ r.2) := by
 refine kcall Try.func20 rfl Try.ntmps20 (Nat.le_of_ble_eq_true rfl) fun a hE => ?_
 have hE : Env 61 a [(0, (.int .i64 p0)), (1, v1), (2, (.int .i64 p2))] := hE
 unfold encode_Decode at h
 refine kseq (kreg ?_)
 refine qa hE rfl rfl fun a hE => ?_
 refine qa hE rfl rfl fun a hE => ?_
 refine knil (kseq (kseq ?_))
 refine kcut (fun a w => ∃ x5 : Bool, encode_Decode_j1 p0 p1 p2 x5 = some r ∧ ∃ m', M.le m m' ∧ S W0 m' w (L) (TL) ∧ Env 61 a [(0, (.int .i64 p0)), (1, v1), (2, (.int .i64 p2)), (17, (.bool x5))]) ?_ ?_
 {
 refine kreg ?_
 refine qm hE rfl rfl fun a hE => ?_
 refine sp hE (r_bin hE rfl rfl b_lss) rfl fun a hE => ?_
 refine qm hE rfl rfl fun a hE => ?_
 rcases Bool.eq_false_or_eq_true (decide (p0 < 0)) with hd127 | hd127
 {
 have h := ite_T hd127 h
 refine sx hE rfl rfl rfl rfl hd127 rfl fun a hE => ?_
 refine sx hE rfl rfl rfl rfl hd127 rfl fun a hE => ?_
 refine sp hE (r_pickT hE rfl hd127 rfl) rfl fun a hE => ?_
 refine knil ?_
 exact ⟨true, h, _, (M.le.refl _), hS, hE.cut ⟨rfl, rfl, rfl, rfl, trivial⟩⟩
 }
 {
 have h := ite_F hd127 h
 refine spg hE rfl rfl rfl rfl hd127 (r_move hE rfl) rfl fun a hE => ?_
 refine spg hE rfl rfl rfl rfl hd127 (r_bin hE rfl rfl b_gtr) rfl fun a hE => ?_
 refine sp hE (r_pickF hE rfl hd127 rfl) rfl fun a hE => ?_
 refine knil ?_
 exact ⟨(decide (4 < p0)), h, _, (M.le.refl _), hS, hE.cut ⟨rfl, rfl, rfl, rfl, trivial⟩⟩
 }
 }
 {
 rintro a w ⟨x5, h, m3, hm4, hS, hE⟩
 unfold encode_Decode_j1 at h
 refine kif hE rfl (fun hd7 => ?_) (fun hd7 => ?_)
 {
 have h := ite_T hd7 h
 refine kseq (kreg ?_)
 refine qa hE rfl rfl fun a hE => ?_
 refine qa hE rfl rfl fun a hE => ?_
 refine knil (kret ?_)
 obtain rfl := oi h
 try dsimp only
 refine Fin.mk hE (rs := [.tmp 6, .tmp 7]) rfl (ResL.tmp hE rfl (ResL.tmp hE rfl ResL.nil)) ?_
 exact ⟨_, hm4, hS, _, _, rfl, RV_nil, (RV_of_int (show inR .i64 62 from inR_lit (by decide)))⟩
 }
 {
 have h := ite_F hd7 h
 refine kskip (kseq (kseq ?_))
 refine kcut (fun a w => ∃ x12 : Bool, encode_Decode_j2 p0 p1 p2 x12 = some r ∧ ∃ m', M.le m3 m' ∧ S W0 m' w (L) (TL) ∧ Env 61 a [(0, (.int .i64 p0)), (1, v1), (2, (.int .i64 p2)), (23, (.bool x12))]) ?_ ?_
 {
 refine kreg ?_
 refine qm hE rfl rfl fun a hE => ?_
 refine sp hE (r_bin hE rfl rfl b_lss) rfl fun a hE => ?_
 refine qm hE rfl rfl fun a hE => ?_
 rcases Bool.eq_false_or_eq_true (decide (p2 < 0)) with hd119 | hd119
 {
 have h := ite_T hd119 h
 refine sx hE rfl rfl rfl rfl hd119 rfl fun a hE => ?_
 refine sx hE rfl rfl rfl rfl hd119 rfl fun a hE => ?_
 refine sp hE (r_pickT hE rfl hd119 rfl) rfl fun a hE => ?_
 refine knil ?_
 exact ⟨true, h, _, (M.le.refl _), hS, hE.cut ⟨rfl, rfl, rfl, rfl, trivial⟩⟩
 }
 {
 have h := ite_F hd119 h
 refine spg hE rfl rfl rfl rfl hd119 (r_move hE rfl) rfl fun a hE => ?_
 refine spg hE rfl rfl rfl rfl hd119 (r_bin hE rfl rfl b_gtr) rfl fun a hE => ?_
 refine sp hE (r_pickF hE rfl hd119 rfl) rfl fun a hE => ?_
 refine knil ?_
 exact ⟨(decide (64 < p2)), h, _, (M.le.refl _), hS, hE.cut ⟨rfl, rfl, rfl, rfl, trivial⟩⟩
 }
 }
 {
 rintro a w ⟨x12, h, m10, hm11, hS, hE⟩
 unfold encode_Decode_j2 at h
 refine kif hE rfl (fun hd14 => ?_) (fun hd14 => ?_)
 {
 have h := ite_T hd14 h
 refine kseq (kreg ?_)
 refine qa hE rfl rfl fun a hE => ?_
 refine qa hE rfl rfl fun a hE => ?_
 refine knil (kret ?_)
 obtain rfl := oi h
 try dsimp only
 refine Fin.mk hE (rs := [.tmp 6, .tmp 7]) rfl (ResL.tmp hE rfl (ResL.tmp hE rfl ResL.nil)) ?_
 exact ⟨_, (M.le.trans hm4 hm11), hS, _, _, rfl, RV_nil, (RV_of_int (show inR .i64 61 from inR_lit (by decide)))⟩
 }
 {
 have h := ite_F hd14 h
 refine kskip (kseq (kreg ?_))
 refine qm hE rfl rfl fun a hE => ?_
 refine st hE (st_build (m := m10) (k := kEncode_reader) (x0 := Encode_reader.zero) (xx := (⟨p1, true⟩ : Encode_reader)) (pl := [(0, 1), (1, 1)]) (pv := [(0, v1), (1, (.bool true))]) hE rfl Try.underlying87 rfl Try.zeroValue87 zr87 rfl (.cons rfl sf87_0 (ha1.mono (M.le.trans hm4 hm11)) (.cons rfl sf87_1 RV_of_bool .nil))) rfl ?_
 rintro v19 a _ ⟨rfl, hv18⟩ hE
 refine st hE (st_box (k := kEncode_reader) hE hS rfl hv18) rfl ?_
 rintro _ a w ⟨b20, cs21, rfl, hc22, hS⟩ hE
 refine qa hE rfl rfl fun a hE => ?_
 refine knil (kseq (kreg ?_))
 refine qa hE rfl rfl fun a hE => ?_
 refine knil (kseq (kseq (kreg ?_)))
 refine qm hE rfl rfl fun a hE => ?_
 refine sp hE (r_bin hE rfl rfl b_gtr) rfl fun a hE => ?_
 refine knil ?_
 refine kcut (fun a w => ∃ x30 : (List AV), ∃ x33 : Encode_reader, encode_Decode_j3 p0 p1 p2 x30 x33 = some r ∧ ∃ m', M.le m10 m' ∧ ∃ (v31 : Value), ∃ (cs34 : List Value), RV (kSl kAV) m' v31 x30 ∧ kEncode_reader.R m' cs34 x33 ∧ S W0 m' w ((b20, cs34) :: L) (TL) ∧ Env 61 a [(0, (.int .i64 p0)), (1, v1), (2, (.int .i64 p2)), (8, (.pointer (some ⟨b20, 0, none⟩))), (9, v31)]) ?_ ?_
 {
 refine kif hE rfl (fun hd103 => ?_) (fun hd103 => ?_)
 {
 have h := ite_T hd103 h
 refine kreg ?_
 refine qm hE rfl rfl fun a hE => ?_
 refine qm hE rfl rfl fun a hE => ?_
 refine qm hE rfl rfl fun a hE => ?_
 obtain ⟨r107, hr108, h⟩ := ob h
 refine st hE (st_call (vs := [(.pointer (some ⟨b20, 0, none⟩)), (.int .i64 p0), (.int .i64 p2)]) hE rfl Try.call45 (c_encode_reader_guess (hS := hS) hc22 ha0 ha2 hr108)) rfl ?_
 rintro v114 a w ⟨m109, hm110, c0_111, hS, hc0_112, hv113⟩ hE
 refine qa hE rfl rfl fun a hE => ?_
 refine knil ?_
 exact ⟨r107.1, r107.2, h, _, hm110, v114, c0_111, hv113, hc0_112, (hS.pickT 1 [] rfl rfl rfl), hE.cut ⟨rfl, rfl, rfl, rfl, rfl, trivial⟩⟩
 }
 {
 have h := ite_F hd103 h
 refine kskip ?_
 exact ⟨([]), (⟨p1, true⟩ : Encode_reader), h, _, (M.le.refl _), (.slice none 0 0), cs21, RV_nil, hc22, hS, hE.cut ⟨rfl, rfl, rfl, rfl, rfl, trivial⟩⟩
 }
 }
 {
 rintro a w ⟨x30, x33, h, m28, hm29, v31, cs34, hv32, hc35, hS, hE⟩
 unfold encode_Decode_j3 at h
 refine kseq (kreg ?_)
 refine qm hE rfl rfl fun a hE => ?_
 refine qm hE rfl rfl fun a hE => ?_
 obtain ⟨r39, hr40, h⟩ := ob h
 refine st hE (st_call (vs := [(.int .i64 p0), v31]) hE rfl Try.call24 (c_encode_Encode (hS := hS) ha0 hv32 hr40)) rfl ?_
 rintro _ a w ⟨m41, hm42, hS, v0_43, v1_44, rfl, hv0_45, hv1_46⟩ hE
 obtain ⟨rfl, hr48⟩ := RV_int hv1_46
 refine qm hE rfl rfl fun a hE => ?_
 refine sp hE (r_extract hE rfl rfl) rfl fun a hE => ?_
 refine sp hE (r_extract hE rfl rfl) rfl fun a hE => ?_
 refine qa hE rfl rfl fun a hE => ?_
 refine qa hE rfl rfl fun a hE => ?_
 refine knil (kseq (kseq ?_))
 refine kcut (fun a w => ∃ x56 : Bool, encode_Decode_j4 x30 x56 = some r ∧ ∃ m', M.le m41 m' ∧ S W0 m' w ((b20, cs34) :: L) (TL) ∧ Env 61 a [(9, v31), (59, (.bool x56))]) ?_ ?_
 {
 refine kreg ?_
 refine qm hE rfl rfl fun a hE => ?_
 refine sp hE (r_nilCheck hE rfl) rfl fun a hE => ?_
 refine sp hE (r_fieldL hE fo87_1 rfl) rfl fun a hE => ?_
 refine st hE (st_loadL hE hS ty4 rfl (i := 0) rfl (fl87_1.R_drop (R_whole (kEncode_reader.mono hm42 hc35)))) rfl ?_
 rintro v68 a _ ⟨rfl, hv67⟩ hE
 obtain rfl := RV_bool hv67
 refine sp hE (r_not hE rfl) rfl fun a hE => ?_
 refine qm hE rfl rfl fun a hE => ?_
 rcases Bool.eq_false_or_eq_true (!x33.fOk) with hd71 | hd71
 {
 have h := ite_T hd71 h
 refine sx hE rfl rfl rfl rfl hd71 rfl fun a hE => ?_
 refine sx hE rfl rfl rfl rfl hd71 rfl fun a hE => ?_
 refine sp hE (r_pickT hE rfl hd71 rfl) rfl fun a hE => ?_
 refine qm hE rfl rfl fun a hE => ?_
 refine sx hE rfl rfl rfl rfl rfl rfl fun a hE => ?_
 refine sx hE rfl rfl rfl rfl rfl rfl fun a hE => ?_
 refine sx hE rfl rfl rfl rfl rfl rfl fun a hE => ?_
 refine sx hE rfl rfl rfl rfl rfl rfl fun a hE => ?_
 refine sp hE (r_pickT hE rfl rfl rfl) rfl fun a hE => ?_
 refine qm hE rfl rfl fun a hE => ?_
 refine sx hE rfl rfl rfl rfl rfl rfl fun a hE => ?_
 refine sx hE rfl rfl rfl rfl rfl rfl fun a hE => ?_
 refine sx hE rfl rfl rfl rfl rfl rfl fun a hE => ?_
 refine sx hE rfl rfl rfl rfl rfl rfl fun a hE => ?_
 refine sp hE (r_pickT hE rfl rfl rfl) rfl fun a hE => ?_
 refine knil ?_
 exact ⟨true, h, _, (M.le.refl _), hS, hE.cut ⟨rfl, rfl, trivial⟩⟩
 }
 {
 have h := ite_F hd71 h
 refine spg hE rfl rfl rfl rfl hd71 (r_move hE rfl) rfl fun a hE => ?_
 refine spg hE rfl rfl rfl rfl hd71 (r_bin hE rfl rfl b_neq) rfl fun a hE => ?_
 refine sp hE (r_pickF hE rfl hd71 rfl) rfl fun a hE => ?_
 refine qm hE rfl rfl fun a hE => ?_
 rcases Bool.eq_false_or_eq_true (r39.2 != 0) with hd81 | hd81
 {
 have h := ite_T hd81 h
 refine sx hE rfl rfl rfl rfl hd81 rfl fun a hE => ?_
 refine sx hE rfl rfl rfl rfl hd81 rfl fun a hE => ?_
 refine sx hE rfl rfl rfl rfl hd81 rfl fun a hE => ?_
 refine sx hE rfl rfl rfl rfl hd81 rfl fun a hE => ?_
 refine sp hE (r_pickT hE rfl hd81 rfl) rfl fun a hE => ?_
 refine qm hE rfl rfl fun a hE => ?_
 refine sx hE rfl rfl rfl rfl rfl rfl fun a hE => ?_
 refine sx hE rfl rfl rfl rfl rfl rfl fun a hE => ?_
 refine sx hE rfl rfl rfl rfl rfl rfl fun a hE => ?_
 refine sx hE rfl rfl rfl rfl rfl rfl fun a hE => ?_
 refine sp hE (r_pickT hE rfl rfl rfl) rfl fun a hE => ?_
 refine knil ?_
 exact ⟨true, h, _, (M.le.refl _), hS, hE.cut ⟨rfl, rfl, trivial⟩⟩
 }
 {
 have h := ite_F hd81 h
 refine spg hE rfl rfl rfl rfl hd81 (r_move hE rfl) rfl fun a hE => ?_
 refine spg hE rfl rfl rfl rfl hd81 (r_lenSl (k := kAV) hE rfl rfl Try.underlying29 (hv32.mono hm42)) rfl fun a hE => ?_
 refine spg hE rfl rfl rfl rfl hd81 (r_move hE rfl) rfl fun a hE => ?_
 refine spg hE rfl rfl rfl rfl hd81 (r_bin hE rfl rfl b_neq) rfl fun a hE => ?_
 refine sp hE (r_pickF hE rfl hd81 rfl) rfl fun a hE => ?_
 refine qm hE rfl rfl fun a hE => ?_
 rcases Bool.eq_false_or_eq_true ((x30.length : Int) != p2) with hd91 | hd91
 {
 have h := ite_T hd91 h
 refine sx hE rfl rfl rfl rfl hd91 rfl fun a hE => ?_
 refine sx hE rfl rfl rfl rfl hd91 rfl fun a hE => ?_
 refine sx hE rfl rfl rfl rfl hd91 rfl fun a hE => ?_
 refine sx hE rfl rfl rfl rfl hd91 rfl fun a hE => ?_
 refine sp hE (r_pickT hE rfl hd91 rfl) rfl fun a hE => ?_
 refine knil ?_
 exact ⟨true, h, _, (M.le.refl _), hS, hE.cut ⟨rfl, rfl, trivial⟩⟩
 }
 {
 have h := ite_F hd91 h
 refine spg hE rfl rfl rfl rfl hd91 (r_move hE rfl) rfl fun a hE => ?_
 refine spg hE rfl rfl rfl rfl hd91 (r_move hE rfl) rfl fun a hE => ?_
 obtain ⟨r95, hr96, h⟩ := ob h
 refine stg hE rfl rfl rfl rfl hd91 (st_call (vs := [v0_43, v1]) hE rfl Try.call46 (c_slices_Equal_byte (hS := hS) hv0_45 (ha1.mono (M.le.trans hm4 (M.le.trans hm11 (M.le.trans hm29 hm42)))) hr96)) rfl ?_
 rintro v100 a w ⟨m97, hm98, hS, hv99⟩ hE
 obtain rfl := RV_bool hv99
 refine spg hE rfl rfl rfl rfl hd91 (r_not hE rfl) rfl fun a hE => ?_
 refine sp hE (r_pickF hE rfl hd91 rfl) rfl fun a hE => ?_
 refine knil ?_
 exact ⟨(!r95), h, _, hm98, hS, hE.cut ⟨rfl, rfl, trivial⟩⟩
 }
 }
 }
 }
 {
 rintro a w ⟨x56, h, m54, hm55, hS, hE⟩
 unfold encode_Decode_j4 at h
 refine kif hE rfl (fun hd58 => ?_) (fun hd58 => ?_)
 {
 have h := ite_T hd58 h
 refine kseq (kreg ?_)
 refine qa hE rfl rfl fun a hE => ?_
 refine qa hE rfl rfl fun a hE => ?_
 refine knil (kret ?_)
 obtain rfl := oi h
 try dsimp only
 refine Fin.mk hE (rs := [.tmp 6, .tmp 7]) rfl (ResL.tmp hE rfl (ResL.tmp hE rfl ResL.nil)) ?_
 exact ⟨_, (M.le.trans hm4 (M.le.trans hm11 (M.le.trans hm29 (M.le.trans hm42 hm55)))), (hS.dropL 1), _, _, rfl, RV_nil, (RV_of_int (show inR .i64 60 from inR_lit (by decide)))⟩
 }
 {
 have h := ite_F hd58 h
 refine kskip (kseq (kreg ?_))
 refine qm hE rfl rfl fun a hE => ?_
 refine qa hE rfl rfl fun a hE => ?_
 refine qa hE rfl rfl fun a hE => ?_
 refine knil (kret ?_)
 obtain rfl := oi h
 try dsimp only
 refine Fin.mk hE (rs := [.tmp 6, .tmp 7]) rfl (ResL.tmp hE rfl (ResL.tmp hE rfl ResL.nil)) ?_
 exact ⟨_, (M.le.trans hm4 (M.le.trans hm11 (M.le.trans hm29 (M.le.trans hm42 hm55)))), (hS.dropL 1), _, _, rfl, (hv32.mono (M.le.trans hm42 hm55)), (RV_of_int (show inR .i64 0 from inR_lit (by decide)))⟩
 }
 }
 }
 }
 }
 }
 }
end Go.Proofs.Ytifobhaccglckaa.Hay
