import Derived.Test.YthbonoagbeilkaaHbmM
set_option maxRecDepth 100000
set_option maxHeartbeats 4000000
set_option linter.unusedVariables false
namespace Go.Proofs.Ythbonoagbeilkaa.Hay
open Go.Proofs
theorem c_r2_Copy  {W0 : Bse} {m : M} {w : World} {L : List (Nat × List Value)} {TL : List (Nat × Value)} (hS : S W0 m w (L) (TL)) {v0 : Value} {p0 : (List Ap)} (ha0 : RV (kSl kAp) m v0 p0) {r : (List Ap)} (h : r2_Copy p0 = some r) :
    Calls Try.prog 4 [v0].toArray w (Ret fun v w' => ∃ m', M.le m m' ∧ S W0 m' w' (L) ((4, v) :: TL) ∧ RV (kSl kAp) m' v r) := by
 refine kcall Try.func4 rfl Try.ntmps4 (Nat.le_of_ble_eq_true rfl) fun a hE => ?_
 have hE : Env 6 a [(0, v0)] := hE
 unfold r2_Copy at h
 refine kseq (kreg ?_)
 refine qa hE rfl rfl fun a hE => ?_
 refine knil (kseq (kreg ?_))
 refine st hE (st_lit (k := kAp) (xs := []) (vs := []) hE hS rfl Try.underlying29 Try.sizeOf38 Try.zeroValue38 trivial rfl (by decide)) rfl ?_
 rintro v5 a w ⟨m3, hm4, hS, hv2⟩ hE
 refine qm hE rfl rfl fun a hE => ?_
 obtain ⟨z7, hz8, h⟩ := ob h
 refine st hE (st_app (k := kAp) (N := 3518437208883) hE hS rfl rfl Try.underlying29 Try.underlying29 el38 (i := 0) rfl hv2 (ha0.mono hm4) hz8 rfl rfl) rfl ?_
 rintro v12 a w ⟨m10, hm11, hS, hv9⟩ hE
 refine qa hE rfl rfl fun a hE => ?_
 refine knil (kret ?_)
 obtain rfl := oi h
 try dsimp only
 refine Fin.mk hE (rs := [.tmp 2]) rfl (ResL.tmp hE rfl ResL.nil) ?_
 exact ⟨_, (M.le.trans hm4 hm11), (hS.pickT 1 [0] rfl rfl rfl), hv9⟩
theorem c_slices_Grow_Version_n0  {W0 : Bse} {m : M} {w : World} {L : List (Nat × List Value)} {TL : List (Nat × Value)} (hS : S W0 m w (L) (TL)) {p1 : Int} (ha1 : inR .i64 p1) {r : (List Api_Version)} (h : slices_Grow_Version_n0 p1 = some r) :
    Calls Try.prog 16 [(.slice none 0 0), (.int .i64 p1)].toArray w (Ret fun v w' => ∃ m', M.le m m' ∧ S W0 m' w' (L) ((4, v) :: TL) ∧ RV (kSl kApi_Version) m' v r) := by
 refine kcall Try.func16 rfl Try.ntmps16 (Nat.le_of_ble_eq_true rfl) fun a hE => ?_
 have hE : Env 27 a [(0, (.slice none 0 0)), (1, (.int .i64 p1))] := hE
 unfold slices_Grow_Version_n0 at h
 refine kseq (kreg ?_)
 refine qa hE rfl rfl fun a hE => ?_
 refine knil (kseq (kseq (kreg ?_)))
 refine qm hE rfl rfl fun a hE => ?_
 refine sp hE (r_bin hE rfl rfl b_lss) rfl fun a hE => ?_
 refine knil ?_
 refine kcut (fun a w => slices_Grow_Version_n0_j1 p1 = some r ∧ ∃ m', M.le m m' ∧ S W0 m' w (L) (TL) ∧ Env 27 a [(0, (.slice none 0 0)), (1, (.int .i64 p1))]) ?_ ?_
 {
 refine kif hE rfl (fun hd42 => ?_) (fun hd42 => ?_)
 {
 have h := ite_T hd42 h
 cases h
 }
 {
 have h := ite_F hd42 h
 refine kskip ?_
 exact ⟨h, _, (M.le.refl _), hS, hE.cut ⟨rfl, rfl, trivial⟩⟩
 }
 }
 {
 rintro a w ⟨h, m4, hm5, hS, hE⟩
 unfold slices_Grow_Version_n0_j1 at h
 refine kseq (kseq (kreg ?_))
 refine qm hE rfl rfl fun a hE => ?_
 refine qm hE rfl rfl fun a hE => ?_
 refine sp hE (r_capNil hE rfl Try.underlying25) rfl fun a hE => ?_
 refine qm hE rfl rfl fun a hE => ?_
 refine sp hE (r_lenSl (m := m4) (k := kApi_Version) (xs := []) hE rfl rfl Try.underlying25 RV_nil) rfl fun a hE => ?_
 refine sp hE (r_bin hE rfl rfl (b_sub rfl)) rfl fun a hE => ?_
 refine sp hE (r_bin hE rfl rfl (b_sub rfl)) rfl fun a hE => ?_
 refine qa hE rfl rfl fun a hE => ?_
 refine knil (kseq (kreg ?_))
 refine qm hE rfl rfl fun a hE => ?_
 refine sp hE (r_bin hE rfl rfl b_gtr) rfl fun a hE => ?_
 refine knil ?_
 refine kcut (fun a w => ∃ x19 : (List Api_Version), slices_Grow_Version_n0_j2 x19 = some r ∧ ∃ m', M.le m4 m' ∧ ∃ (v20 : Value), RV (kSl kApi_Version) m' v20 x19 ∧ S W0 m' w (L) ((4, v20) :: TL) ∧ Env 27 a [(0, v20)]) ?_ ?_
 {
 refine kif hE rfl (fun hd25 => ?_) (fun hd25 => ?_)
 {
 have h := ite_T hd25 h
 refine kreg ?_
 refine qm hE rfl rfl fun a hE => ?_
 refine qm hE rfl rfl fun a hE => ?_
 refine sp hE (r_capNil hE rfl Try.underlying25) rfl fun a hE => ?_
 refine sp hE (r_sliceNil (k := kApi_Version) hE rfl rfl Try.underlying25 Try.sizeOf31) rfl fun a hE => ?_
 refine qm hE rfl rfl fun a hE => ?_
 obtain ⟨u35, hu36, h⟩ := ob h
 refine st hE (st_grow0 (k := kApi_Version) (by_ := 48) hE hS rfl rfl Try.underlying25 Try.underlying3 el31 (inR_wrap _ _) hu36) rfl ?_
 rintro v37 a w ⟨b31, cap32, m33, rfl, hm34, hS⟩ hE
 refine qm hE rfl rfl fun a hE => ?_
 refine sp hE (r_lenSl (m := m33) (k := kApi_Version) (xs := []) hE rfl rfl Try.underlying25 RV_nil) rfl fun a hE => ?_
 refine sp hE (r_spare0 (k := kApi_Version) hE rfl rfl Try.underlying25 Try.sizeOf31) rfl fun a hE => ?_
 refine qa hE rfl rfl fun a hE => ?_
 refine knil ?_
 exact ⟨([] : List Api_Version), h, _, hm34, (.slice (some ⟨b31, 0, none⟩) 0 cap32), (RV_spare (m := m33) (k := kApi_Version)), hS, hE.cut ⟨rfl, trivial⟩⟩
 }
 {
 have h := ite_F hd25 h
 refine kskip ?_
 exact ⟨([]), h, _, (M.le.refl _), (.slice none 0 0), RV_nil, (hS.tail0 4), hE.cut ⟨rfl, trivial⟩⟩
 }
 }
 {
 rintro a w ⟨x19, h, m17, hm18, v20, hv21, hS, hE⟩
 unfold slices_Grow_Version_n0_j2 at h
 refine kseq (kreg ?_)
 refine qm hE rfl rfl fun a hE => ?_
 refine qa hE rfl rfl fun a hE => ?_
 refine knil (kret ?_)
 obtain rfl := oi h
 try dsimp only
 refine Fin.mk hE (rs := [.tmp 4]) rfl (ResL.tmp hE rfl ResL.nil) ?_
 exact ⟨_, (M.le.trans hm5 hm18), (hS.pickT 1 [0] rfl rfl rfl), hv21⟩
 }
 }
theorem c_slices_Concat_Version  {W0 : Bse} {m : M} {w : World} {L : List (Nat × List Value)} {TL : List (Nat × Value)} (hS : S W0 m w (L) (TL)) {v0 : Value} {p0 : (List (List Api_Version))} (ha0 : RV (kSl (kSl kApi_Version)) m v0 p0) {r : (List Api_Version)} (h : slices_Concat_Version p0 = some r) :
    Calls Try.prog 11 [v0].toArray w (Ret fun v w' => ∃ m', M.le m m' ∧ S W0 m' w' (L) ((4, v) :: TL) ∧ RV (kSl kApi_Version) m' v r) := by
 refine kcall Try.func11 rfl Try.ntmps11 (Nat.le_of_ble_eq_true rfl) fun a hE => ?_
 have hE : Env 36 a [(0, v0)] := hE
 unfold slices_Concat_Version at h
 refine kseq (kreg ?_)
 refine qa hE rfl rfl fun a hE => ?_
 refine knil (kseq (kreg ?_))
 refine qa hE rfl rfl fun a hE => ?_
 refine knil (kseq (kseq (kreg ?_)))
 refine qm hE rfl rfl fun a hE => ?_
 refine sp hE (r_lenSl (k := (kSl kApi_Version)) hE rfl rfl Try.underlying23 ha0) rfl fun a hE => ?_
 refine qm hE rfl rfl fun a hE => ?_
 refine knil ?_
 refine kcut (fun a w => ∃ x8 : Int, slices_Concat_Version_j1 p0 x8 = some r ∧ ∃ m', M.le m m' ∧ inR .i64 x8 ∧ S W0 m' w (L) (TL) ∧ Env 36 a [(0, v0), (3, (.int .i64 x8))]) ?_ ?_
 {
 refine kblock ?_
 refine kloop h (fun (s : (Int × Int)) a w => ∃ m', M.le m m' ∧ inR .i64 s.1 ∧ inR .i64 s.2 ∧ S W0 m' w (L) (TL) ∧ Env 36 a [(0, v0), (3, (.int .i64 s.1)), (9, v0), (10, (.int .i64 (p0.length : Int))), (11, (.int .i64 s.2))]) ?_ ?_
 {
 exact ⟨_, (M.le.refl _), (show inR .i64 0 from inR_lit (by decide)), (show inR .i64 0 from inR_lit (by decide)), hS, hE.cut ⟨rfl, rfl, rfl, rfl, rfl, trivial⟩⟩
 }
 {
 rintro ⟨x61, x63⟩ a w ⟨m59, hm60, hr62, hr64, hS, hE⟩ r65 h hb66
 have h : slices_Concat_Version_b2 p0 x61 x63 = some r65 := h
 unfold slices_Concat_Version_b2 at h
 refine kseq (kreg ?_)
 refine sp hE (r_bin hE rfl rfl b_lss) rfl fun a hE => ?_
 refine knil (kseq ?_)
 refine kif hE rfl (fun hd68 => ?_) (fun hd68 => ?_)
 {
 have h := ite_T hd68 h
 refine kskip (kseq (kblock (kseq (kreg ?_))))
 obtain ⟨x69, hx70, h⟩ := ob h
 refine st hE (st_index (k := (kSl kApi_Version)) hE rfl rfl Try.underlying23 Try.sizeOf25 (ha0.mono hm60) hx70) rfl ?_
 rintro v72 a _ ⟨rfl, hp71⟩ hE
 refine st hE (st_loadM hE hS ty25 rfl hp71) rfl ?_
 rintro v74 a _ ⟨rfl, hv73⟩ hE
 refine qa hE rfl rfl fun a hE => ?_
 refine knil (kseq (kreg ?_))
 refine qm hE rfl rfl fun a hE => ?_
 refine qm hE rfl rfl fun a hE => ?_
 refine sp hE (r_lenSl (k := kApi_Version) hE rfl rfl Try.underlying25 hv73) rfl fun a hE => ?_
 refine sp hE (r_bin hE rfl rfl (b_add rfl)) rfl fun a hE => ?_
 refine qa hE rfl rfl fun a hE => ?_
 refine knil (kseq (kreg ?_))
 refine qm hE rfl rfl fun a hE => ?_
 refine sp hE (r_bin hE rfl rfl b_lss) rfl fun a hE => ?_
 refine knil ?_
 refine kcut (fun a w => slices_Concat_Version_j3 x61 x63 x69 = some r65 ∧ ∃ m', M.le m59 m' ∧ S W0 m' w (L) (TL) ∧ Env 36 a [(0, v0), (3, (.int .i64 (IntKind.i64.wrap (x61 + (x69.length : Int))))), (9, v0), (10, (.int .i64 (p0.length : Int))), (11, (.int .i64 x63))]) ?_ ?_
 {
 refine kif hE rfl (fun hd88 => ?_) (fun hd88 => ?_)
 {
 have h := ite_T hd88 h
 cases h
 }
 {
 have h := ite_F hd88 h
 refine kskip ?_
 exact ⟨h, _, (M.le.refl _), hS, hE.cut ⟨rfl, rfl, rfl, rfl, rfl, trivial⟩⟩
 }
 }
 {
 rintro a w ⟨h, m83, hm84, hS, hE⟩
 unfold slices_Concat_Version_j3 at h
 refine kreg ?_
 refine sp hE (r_bin hE rfl rfl (b_add rfl)) rfl fun a hE => ?_
 refine qm hE rfl rfl fun a hE => ?_
 refine knil ?_
 exact ⟨(IntKind.i64.wrap (x61 + (x69.length : Int)), IntKind.i64.wrap (x63 + 1)), (Option.some.inj h).symm, _, (M.le.trans hm60 hm84), (inR_wrap _ _), (inR_wrap _ _), hS, hE.cut ⟨rfl, rfl, rfl, rfl, rfl, trivial⟩⟩
 }
 }
 {
 have h := ite_F hd68 h
 refine kexit rfl rfl ?_
 have h := unwrap h hb66
 exact ⟨x61, h, _, hm60, hr62, hS, hE.cut ⟨rfl, rfl, trivial⟩⟩
 }
 }
 }
 {
 rintro a w ⟨x8, h, m6, hm7, hr9, hS, hE⟩
 unfold slices_Concat_Version_j1 at h
 refine kseq (kreg ?_)
 refine qm hE rfl rfl fun a hE => ?_
 obtain ⟨r12, hr13, h⟩ := ob h
 refine st hE (st_call (vs := [(.slice none 0 0), (.int .i64 x8)]) hE rfl Try.call16 (c_slices_Grow_Version_n0 (hS := hS) hr9 hr13)) rfl ?_
 rintro v17 a w ⟨m14, hm15, hS, hv16⟩ hE
 refine qa hE rfl rfl fun a hE => ?_
 refine knil (kseq (kseq (kreg ?_)))
 refine qm hE rfl rfl fun a hE => ?_
 refine sp hE (r_lenSl (k := (kSl kApi_Version)) hE rfl rfl Try.underlying23 (ha0.mono (M.le.trans hm7 hm15))) rfl fun a hE => ?_
 refine qm hE rfl rfl fun a hE => ?_
 refine knil ?_
 refine kcut (fun a w => ∃ x24 : (List Api_Version), slices_Concat_Version_j2 x24 = some r ∧ ∃ m', M.le m14 m' ∧ ∃ (v25 : Value), RV (kSl kApi_Version) m' v25 x24 ∧ S W0 m' w (L) ((4, v25) :: TL) ∧ Env 36 a [(6, v25)]) ?_ ?_
 {
 refine kblock ?_
 refine kloop h (fun (s : ((List Api_Version) × Int)) a w => ∃ m', M.le m14 m' ∧ ∃ (v33 : Value), RV (kSl kApi_Version) m' v33 s.1 ∧ inR .i64 s.2 ∧ S W0 m' w (L) ((4, v33) :: TL) ∧ Env 36 a [(6, v33), (25, v0), (26, (.int .i64 (p0.length : Int))), (27, (.int .i64 s.2))]) ?_ ?_
 {
 exact ⟨_, (M.le.refl _), v17, hv16, (show inR .i64 0 from inR_lit (by decide)), hS, hE.cut ⟨rfl, rfl, rfl, rfl, trivial⟩⟩
 }
 {
 rintro ⟨x32, x35⟩ a w ⟨m30, hm31, v33, hv34, hr36, hS, hE⟩ r37 h hb38
 have h : slices_Concat_Version_b1 p0 x32 x35 = some r37 := h
 unfold slices_Concat_Version_b1 at h
 refine kseq (kreg ?_)
 refine sp hE (r_bin hE rfl rfl b_lss) rfl fun a hE => ?_
 refine knil (kseq ?_)
 refine kif hE rfl (fun hd40 => ?_) (fun hd40 => ?_)
 {
 have h := ite_T hd40 h
 refine kskip (kseq (kblock (kseq (kreg ?_))))
 obtain ⟨x41, hx42, h⟩ := ob h
 refine st hE (st_index (k := (kSl kApi_Version)) hE rfl rfl Try.underlying23 Try.sizeOf25 (ha0.mono (M.le.trans hm7 (M.le.trans hm15 hm31))) hx42) rfl ?_
 rintro v44 a _ ⟨rfl, hp43⟩ hE
 refine st hE (st_loadM hE hS ty25 rfl hp43) rfl ?_
 rintro v46 a _ ⟨rfl, hv45⟩ hE
 refine qa hE rfl rfl fun a hE => ?_
 refine knil (kreg ?_)
 refine qm hE rfl rfl fun a hE => ?_
 refine qm hE rfl rfl fun a hE => ?_
 obtain ⟨z50, hz51, h⟩ := ob h
 refine st hE (st_app (k := kApi_Version) (N := 2932031007402) hE hS rfl rfl Try.underlying25 Try.underlying25 el31 (i := 0) rfl hv34 hv45 hz51 rfl rfl) rfl ?_
 rintro v55 a w ⟨m53, hm54, hS, hv52⟩ hE
 refine qa hE rfl rfl fun a hE => ?_
 refine knil (kreg ?_)
 refine sp hE (r_bin hE rfl rfl (b_add rfl)) rfl fun a hE => ?_
 refine qm hE rfl rfl fun a hE => ?_
 refine knil ?_
 exact ⟨(z50, IntKind.i64.wrap (x35 + 1)), (Option.some.inj h).symm, _, (M.le.trans hm31 hm54), v55, hv52, (inR_wrap _ _), hS, hE.cut ⟨rfl, rfl, rfl, rfl, trivial⟩⟩
 }
 {
 have h := ite_F hd40 h
 refine kexit rfl rfl ?_
 have h := unwrap h hb38
 exact ⟨x32, h, _, hm31, v33, hv34, hS, hE.cut ⟨rfl, trivial⟩⟩
 }
 }
 }
 {
 rintro a w ⟨x24, h, m22, hm23, v25, hv26, hS, hE⟩
 unfold slices_Concat_Version_j2 at h
 refine kseq (kreg ?_)
 refine qm hE rfl rfl fun a hE => ?_
 refine qa hE rfl rfl fun a hE => ?_
 refine knil (kret ?_)
 obtain rfl := oi h
 try dsimp only
 refine Fin.mk hE (rs := [.tmp 2]) rfl (ResL.tmp hE rfl ResL.nil) ?_
 exact ⟨_, (M.le.trans hm7 (M.le.trans hm15 hm23)), (hS.pickT 1 [0] rfl rfl rfl), hv26⟩
 }
 }
theorem it_slices_Values_Version {m : M} {v : Value} {p0 : (List Api_Version)} (ha : PR (kSl kApi_Version) m v p0) : IterC Try.prog (Rv1 kApi_Version) 15 [v].toArray m p0 := by
 intro σ I step B y m1 w L TL s Ls TLs r mono hle hy hI hS hf
 refine kcall (args := [y, v]) Try.func15 rfl Try.ntmps15 (Nat.le_of_ble_eq_true rfl) fun a hE => ?_
 have hE : Env 16 a [(0, y), (1, v)] := hE
 refine kseq (kreg ?_)
 refine st hE (st_loadM hE hS ty25 rfl (ha.mono hle)) rfl ?_
 rintro v5 a _ ⟨rfl, hv5⟩ hE
 refine sp hE (r_lenSl (k := kApi_Version) hE rfl rfl Try.underlying25 hv5) rfl fun a hE => ?_
 refine qm hE rfl rfl fun a hE => ?_
 refine knil ?_
 have h := foldY_loop (RV_len hv5) hf
 refine kblock ?_
 refine kloop h (fun (t : Int × σ) a w => ∃ m' Ls' TLs', M.le m1 m' ∧ inR .i64 t.1 ∧ I m' t.2 Ls' TLs' ∧ S (B t.2) m' w (Ls' ++ L) (TLs' ++ TL) ∧ Env 16 a [(0, y), (5, v5), (6, (.int .i64 (p0.length : Int))), (7, (.int .i64 t.1))]) ?_ ?_
 {
 exact ⟨m1, Ls, TLs, M.le.refl _, (show inR .i64 0 from inR_lit (by decide)), hI, hS, hE.cut ⟨rfl, rfl, rfl, rfl, trivial⟩⟩
 }
 {
 rintro ⟨i, s⟩ a w ⟨m2, Ls2, TLs2, hm2, hi, hI, hS, hE⟩ r9 h hb
 unfold valF at h
 refine kseq (kreg ?_)
 refine sp hE (r_bin hE rfl rfl b_lss) rfl fun a hE => ?_
 refine knil (kseq ?_)
 refine kif hE rfl (fun hd => ?_) (fun hd => ?_)
 {
 have h := ite_T hd h
 refine kskip (kseq (kblock (kseq (kreg ?_))))
 obtain ⟨x, hx, h⟩ := ob h
 refine st hE (st_index (k := kApi_Version) hE rfl rfl Try.underlying25 Try.sizeOf31 (hv5.mono hm2) hx) rfl ?_
 rintro v9 a _ ⟨rfl, hp⟩ hE
 refine st hE (st_loadM hE hS ty31 rfl hp) rfl ?_
 rintro v10 a _ ⟨rfl, hv10⟩ hE
 refine st hE (st_alloc hS Try.zeroValue31 rfl (cs := zc31)) rfl ?_
 rintro _ a w ⟨b4, rfl, hS⟩ hE
 refine st0 hE (st_storeF hE hS ty31 StF_self rfl rfl hv10 (i := 0) rfl (zr31 _)) ?_
 rintro _ w ⟨cs, hc, hS⟩ hE
 refine knil (kseq (kreg ?_))
 refine qm hE rfl rfl fun a hE => ?_
 refine st hE (st_loadL hE hS ty31 rfl (i := 0) rfl (R_whole hc)) rfl ?_
 rintro v12 a _ ⟨rfl, hv12⟩ hE
 obtain ⟨q, hq, h⟩ := ob h
 refine st hE (hy m2 _ L TL s Ls2 TLs2 [v12] x q.1 q.2 hI (hS.dropL 1) ⟨_, rfl, hv12⟩ hq _ _ _ _ _ _ _ _ _ (hE.eval rfl) (argl_eval hE rfl)) rfl ?_
 rintro _ a w ⟨rfl, m3, Ls3, TLs3, hm3, hI, hS⟩ hE
 refine sp hE (r_not hE rfl) rfl fun a hE => ?_
 refine knil ?_
 refine kif hE rfl (fun hd => ?_) (fun hd => ?_)
 {
 have h := ite_F (by simpa using hd) h
 obtain rfl := oi h
 refine kret ?_
 have h := hb _ rfl
 subst h
 refine Fin.mk hE (rs := []) rfl ResL.nil ?_
 exact ⟨m3, Ls3, TLs3, hm2.trans hm3, hI, hS⟩
 }
 {
 have h := ite_T (by simpa using hd) h
 obtain rfl := oi h
 refine kskip (kreg ?_)
 refine sp hE (r_bin hE rfl rfl (b_add rfl)) rfl fun a hE => ?_
 refine qm hE rfl rfl fun a hE => ?_
 refine knil ?_
 exact ⟨_, rfl, m3, Ls3, TLs3, hm2.trans hm3, (inR_wrap _ _), hI, hS, hE.cut ⟨rfl, rfl, rfl, rfl, trivial⟩⟩
 }
 }
 {
 have h := ite_F hd h
 obtain rfl := oi h
 have h := hb _ rfl
 subst h
 refine kexit rfl rfl ?_
 dsimp only
 refine Fin.mk hE (rs := []) rfl ResL.nil ?_
 exact ⟨m2, Ls2, TLs2, hm2, hI, hS⟩
 }
 }
theorem c_slices_Values_Version {W0 : Bse} {m : M} {w : World} {L : List (Nat × List Value)} {TL : List (Nat × Value)} (hS : S W0 m w (L) (TL)) {v0 : Value} {p0 : (List Api_Version)} (ha0 : RV (kSl kApi_Version) m v0 p0) {r : (List Api_Version)} (h : slices_Values_Version p0 = some r) :
    Calls Try.prog 10 [v0].toArray w (Ret fun v w' => ∃ m', M.le m m' ∧ S W0 m' w' (L) (TL) ∧ ItV Try.prog (Rv1 kApi_Version) m' v r) := by
 refine kcall Try.func10 rfl Try.ntmps10 (Nat.le_of_ble_eq_true rfl) fun a hE => ?_
 have hE : Env 4 a [(0, v0)] := hE
 unfold slices_Values_Version at h
 obtain rfl := oi h
 refine kseq (kreg ?_)
 refine st hE (st_box hE hS rfl ha0) rfl ?_
 rintro _ a w ⟨b, cs, rfl, hc, hS⟩ hE
 refine qa hE rfl rfl fun a hE => ?_
 refine knil (kseq (kreg ?_))
 obtain ⟨m1, hm, hS, hp⟩ := S.freezeL (k := (kSl kApi_Version)) hS hc
 refine sp hE (r_makeFunc hE rfl rfl) rfl fun a hE => ?_
 refine qa hE rfl rfl fun a hE => ?_
 refine knil (kret ?_)
 refine Fin.mk hE (rs := [.tmp 2]) rfl (ResL.tmp hE rfl ResL.nil) ?_
 exact ⟨_, hm, hS, 15, _, rfl, Try.call15, it_slices_Values_Version hp⟩
theorem c_slices_Clone_Value  {W0 : Bse} {m : M} {w : World} {L : List (Nat × List Value)} {TL : List (Nat × Value)} (hS : S W0 m w (L) (TL)) {v0 : Value} {p0 : (List Ap)} (ha0 : RV (kSl kAp) m v0 p0) {r : (List Ap)} (h : slices_Clone_Value p0 = some r) :
    Calls Try.prog 25 [v0].toArray w (Ret fun v w' => ∃ m', M.le m m' ∧ S W0 m' w' (L) ((4, v) :: TL) ∧ RV (kSl kAp) m' v r) := by
 refine kcall Try.func25 rfl Try.ntmps25 (Nat.le_of_ble_eq_true rfl) fun a hE => ?_
 have hE : Env 8 a [(0, v0)] := hE
 unfold slices_Clone_Value at h
 refine kseq (kreg ?_)
 refine qa hE rfl rfl fun a hE => ?_
 refine knil (kseq (kseq (kreg ?_)))
 refine qm hE rfl rfl fun a hE => ?_
 refine st hE (st_isnil (k := kAp) hE rfl rfl ha0 Try.underlying29) rfl ?_
 rintro v5 a _ ⟨rfl, bn3, rfl, hb4⟩ hE
 refine knil ?_
 refine kif hE rfl (fun hd6 => ?_) (fun hd6 => ?_)
 {
 have hx_ := hb4 hd6
 have h : some ([]) = some r := by rw [hx_] at h; exact h
 refine kseq (kreg ?_)
 refine qa hE rfl rfl fun a hE => ?_
 refine knil (kret ?_)
 obtain rfl := oi h
 try dsimp only
 refine Fin.mk hE (rs := [.tmp 2]) rfl (ResL.tmp hE rfl ResL.nil) ?_
 exact ⟨_, (M.le.refl _), ((hS.dropT 0).tail0 4), RV_nil⟩
 }
 {
 refine kskip (kseq (kreg ?_))
 refine st hE (st_lit (k := kAp) (xs := []) (vs := []) hE hS rfl Try.underlying29 Try.sizeOf38 Try.zeroValue38 trivial rfl (by decide)) rfl ?_
 rintro v11 a w ⟨m9, hm10, hS, hv8⟩ hE
 refine qm hE rfl rfl fun a hE => ?_
 obtain ⟨z13, hz14, h⟩ := ob h
 refine st hE (st_app (k := kAp) (N := 3518437208883) hE hS rfl rfl Try.underlying29 Try.underlying29 el38 (i := 0) rfl hv8 (ha0.mono hm10) hz14 rfl rfl) rfl ?_
 rintro v18 a w ⟨m16, hm17, hS, hv15⟩ hE
 refine qa hE rfl rfl fun a hE => ?_
 refine knil (kret ?_)
 obtain rfl := oi h
 try dsimp only
 refine Fin.mk hE (rs := [.tmp 2]) rfl (ResL.tmp hE rfl ResL.nil) ?_
 exact ⟨_, (M.le.trans hm10 hm17), (hS.pickT 1 [0] rfl rfl rfl), hv15⟩
 }
theorem c_rosfile_own  {W0 : Bse} {m : M} {w : World} {L : List (Nat × List Value)} {TL : List (Nat × Value)} (hS : S W0 m w (L) (TL)) {v0 : Value} {p0 : Api_Version} (ha0 : RV kApi_Version m v0 p0) {r : Api_Version} (h : rosfile_own p0 = some r) :
    Calls Try.prog 17 [v0].toArray w (Ret fun v w' => ∃ m', M.le m m' ∧ S W0 m' w' (L) (TL) ∧ RV kApi_Version m' v r) := by
 refine kcall Try.func17 rfl Try.ntmps17 (Nat.le_of_ble_eq_true rfl) fun a hE => ?_
 have hE : Env 8 a [(0, v0)] := hE
 unfold rosfile_own at h
 refine kseq (kreg ?_)
 refine st hE (st_box (k := kApi_Version) hE hS rfl ha0) rfl ?_
 rintro _ a w ⟨b1, cs2, rfl, hc3, hS⟩ hE
 refine st hE (st_alloc hS Try.zeroValue31 rfl (cs := zc31)) rfl ?_
 rintro _ a w ⟨b5, rfl, hS⟩ hE
 refine knil (kseq (kreg ?_))
 refine sp hE (r_fieldL hE fo31_1 rfl) rfl fun a hE => ?_
 refine st hE (st_loadL hE hS ty29 rfl (i := 1) rfl (fl31_1.R_drop (R_whole hc3))) rfl ?_
 rintro v9 a _ ⟨rfl, hv8⟩ hE
 obtain ⟨r10, hr11, h⟩ := ob h
 refine st hE (st_call (vs := [v9]) hE rfl Try.call25 (c_slices_Clone_Value (hS := hS) hv8 hr11)) rfl ?_
 rintro v15 a w ⟨m12, hm13, hS, hv14⟩ hE
 refine sp hE (r_fieldL hE fo31_1 rfl) rfl fun a hE => ?_
 refine st0 hE (st_storeF hE hS ty29 sf31_1 rfl rfl hv14 (i := 1) rfl (kApi_Version.mono hm13 hc3)) ?_
 rintro _ w ⟨cs17, hc18, hS⟩ hE
 refine knil (kseq (kreg ?_))
 refine st hE (st_loadL hE hS ty31 rfl (i := 1) rfl (R_whole hc18)) rfl ?_
 rintro v21 a _ ⟨rfl, hv20⟩ hE
 refine st0 hE (st_storeF hE hS ty31 StF_self rfl rfl hv20 (i := 0) rfl (zr31 _)) ?_
 rintro _ w ⟨cs22, hc23, hS⟩ hE
 refine knil (kret ?_)
 obtain rfl := oi h
 try dsimp only
 refine Fin.mk hE (rs := [.cell 2 31]) rfl (ResL.cell hE hS ty31 rfl (i := 0) rfl (R_whole hc23) ResL.nil) ?_
 exact ⟨_, hm13, ((hS.dropL 2).dropT 1), (RV_of_R (R_whole hc23))⟩
theorem c_value_Null  {W0 : Bse} {m : M} {w : World} {L : List (Nat × List Value)} {TL : List (Nat × Value)} (hS : S W0 m w (L) (TL))  {r : Ap} (h : value_Null = some r) :
    Calls Try.prog 29 [].toArray w (Ret fun v w' => ∃ m', M.le m m' ∧ S W0 m' w' (L) (TL) ∧ RV kAp m' v r) := by
 refine kcall Try.func29 rfl Try.ntmps29 (Nat.le_of_ble_eq_true rfl) fun a hE => ?_
 have hE : Env 2 a [] := hE
 unfold value_Null at h
 refine kseq (kreg ?_)
 refine st hE (st_alloc hS Try.zeroValue38 rfl (cs := zc38)) rfl ?_
 rintro _ a w ⟨b1, rfl, hS⟩ hE
 refine knil (kseq (kreg ?_))
 refine st hE (st_build (m := m) (k := kAp) (x0 := Ap.zero) (xx := (⟨0, false, 0, []⟩ : Ap)) (pl := [(0, 1), (1, 1), (2, 1), (3, 1)]) (pv := []) hE rfl Try.underlying38 rfl Try.zeroValue38 zr38 rfl .nil) rfl ?_
 rintro v4 a _ ⟨rfl, hv3⟩ hE
 refine st0 hE (st_storeF hE hS ty38 StF_self rfl rfl hv3 (i := 0) rfl (zr38 _)) ?_
 rintro _ w ⟨cs5, hc6, hS⟩ hE
 refine knil (kret ?_)
 obtain rfl := oi h
 try dsimp only
 refine Fin.mk hE (rs := [.cell 0 38]) rfl (ResL.cell hE hS ty38 rfl (i := 0) rfl (R_whole hc6) ResL.nil) ?_
 exact ⟨_, (M.le.refl _), (hS.dropL 1), (RV_of_R (R_whole hc6))⟩
theorem c_rosfile_key  {W0 : Bse} {m : M} {w : World} {L : List (Nat × List Value)} {TL : List (Nat × Value)} (hS : S W0 m w (L) (TL)) {v0 : Value} {p0 : (List Int)} (ha0 : RV (kSl (kInt .i64)) m v0 p0) {v1 : Value} {p1 : (List Ap)} (ha1 : RV (kSl kAp) m v1 p1) {r : (List Ap)} (h : rosfile_key p0 p1 = some r) :
    Calls Try.prog 22 [v0, v1].toArray w (Ret fun v w' => ∃ m', M.le m m' ∧ S W0 m' w' (L) ((4, v) :: TL) ∧ RV (kSl kAp) m' v r) := by
 refine kcall Try.func22 rfl Try.ntmps22 (Nat.le_of_ble_eq_true rfl) fun a hE => ?_
 have hE : Env 34 a [(0, v0), (1, v1)] := hE
 unfold rosfile_key at h
 refine kseq (kreg ?_)
 refine qa hE rfl rfl fun a hE => ?_
 refine knil (kseq (kreg ?_))
 refine qa hE rfl rfl fun a hE => ?_
 refine knil (kseq (kseq (kreg ?_)))
 refine qm hE rfl rfl fun a hE => ?_
 refine sp hE (r_lenSl (k := (kInt .i64)) hE rfl rfl Try.underlying22 ha0) rfl fun a hE => ?_
 refine qm hE rfl rfl fun a hE => ?_
 refine knil ?_
 refine kcut (fun a w => ∃ x8 : (List Ap), rosfile_key_j1 x8 = some r ∧ ∃ m', M.le m m' ∧ ∃ (v9 : Value), RV (kSl kAp) m' v9 x8 ∧ S W0 m' w (L) ((4, v9) :: TL) ∧ Env 34 a [(5, v9)]) ?_ ?_
 {
 refine kblock ?_
 refine kloop h (fun (s : ((List Ap) × Int)) a w => ∃ m', M.le m m' ∧ ∃ (v17 : Value), RV (kSl kAp) m' v17 s.1 ∧ inR .i64 s.2 ∧ S W0 m' w (L) ((4, v17) :: TL) ∧ Env 34 a [(1, v1), (5, v17), (9, v0), (10, (.int .i64 (p0.length : Int))), (11, (.int .i64 s.2))]) ?_ ?_
 {
 exact ⟨_, (M.le.refl _), (.slice none 0 0), RV_nil, (show inR .i64 0 from inR_lit (by decide)), (hS.tail0 4), hE.cut ⟨rfl, rfl, rfl, rfl, rfl, trivial⟩⟩
 }
 {
 rintro ⟨x16, x19⟩ a w ⟨m14, hm15, v17, hv18, hr20, hS, hE⟩ r21 h hb22
 have h : rosfile_key_b1 p0 p1 x16 x19 = some r21 := h
 unfold rosfile_key_b1 at h
 refine kseq (kreg ?_)
 refine sp hE (r_bin hE rfl rfl b_lss) rfl fun a hE => ?_
 refine knil (kseq ?_)
 refine kif hE rfl (fun hd24 => ?_) (fun hd24 => ?_)
 {
 have h := ite_T hd24 h
 refine kskip (kseq (kblock (kseq (kreg ?_))))
 obtain ⟨x25, hx26, h⟩ := ob h
 refine st hE (st_index (k := (kInt .i64)) hE rfl rfl Try.underlying22 Try.sizeOf3 (ha0.mono hm15) hx26) rfl ?_
 rintro v28 a _ ⟨rfl, hp27⟩ hE
 refine st hE (st_loadM hE hS ty3 rfl hp27) rfl ?_
 rintro v30 a _ ⟨rfl, hv29⟩ hE
 obtain ⟨rfl, hr31⟩ := RV_int hv29
 refine qa hE rfl rfl fun a hE => ?_
 refine knil (kseq (kreg ?_))
 obtain ⟨r33, hr34, h⟩ := ob h
 refine st hE (st_call (vs := []) hE rfl Try.call29 (c_value_Null (hS := hS) hr34)) rfl ?_
 rintro v38 a w ⟨m35, hm36, hS, hv37⟩ hE
 refine st hE (st_alloc hS Try.zeroValue38 rfl (cs := zc38)) rfl ?_
 rintro _ a w ⟨b39, rfl, hS⟩ hE
 refine st0 hE (st_storeF hE hS ty38 StF_self rfl rfl hv37 (i := 0) rfl (zr38 _)) ?_
 rintro _ w ⟨cs41, hc42, hS⟩ hE
 refine knil (kseq (kseq ?_))
 refine kcut (fun a w => ∃ x46 : Bool, rosfile_key_j2 p1 x16 x19 x25 r33 x46 = some r21 ∧ ∃ m', M.le m35 m' ∧ S W0 m' w ((b39, cs41) :: L) ((4, v17) :: TL) ∧ Env 34 a [(1, v1), (5, v17), (7, (.int .i64 x25)), (8, (.pointer (some ⟨b39, 0, none⟩))), (9, v0), (10, (.int .i64 (p0.length : Int))), (11, (.int .i64 x19)), (23, (.bool x46))]) ?_ ?_
 {
 refine kreg ?_
 refine qm hE rfl rfl fun a hE => ?_
 refine sp hE (r_bin hE rfl rfl b_geq) rfl fun a hE => ?_
 refine qm hE rfl rfl fun a hE => ?_
 rcases Bool.eq_false_or_eq_true (decide (0 ≤ x25)) with hd85 | hd85
 {
 have h := ite_T hd85 h
 refine spg hE rfl rfl rfl rfl hd85 (r_move hE rfl) rfl fun a hE => ?_
 refine spg hE rfl rfl rfl rfl hd85 (r_move hE rfl) rfl fun a hE => ?_
 refine spg hE rfl rfl rfl rfl hd85 (r_lenSl (k := kAp) hE rfl rfl Try.underlying29 (ha1.mono (M.le.trans hm15 hm36))) rfl fun a hE => ?_
 refine spg hE rfl rfl rfl rfl hd85 (r_bin hE rfl rfl b_lss) rfl fun a hE => ?_
 refine sp hE (r_pickT hE rfl hd85 rfl) rfl fun a hE => ?_
 refine knil ?_
 exact ⟨(decide (x25 < (p1.length : Int))), h, _, (M.le.refl _), hS, hE.cut ⟨rfl, rfl, rfl, rfl, rfl, rfl, rfl, rfl, trivial⟩⟩
 }
 {
 have h := ite_F hd85 h
 refine sx hE rfl rfl rfl rfl hd85 rfl fun a hE => ?_
 refine sx hE rfl rfl rfl rfl hd85 rfl fun a hE => ?_
 refine sx hE rfl rfl rfl rfl hd85 rfl fun a hE => ?_
 refine sx hE rfl rfl rfl rfl hd85 rfl fun a hE => ?_
 refine sp hE (r_pickF hE rfl hd85 rfl) rfl fun a hE => ?_
 refine knil ?_
 exact ⟨false, h, _, (M.le.refl _), hS, hE.cut ⟨rfl, rfl, rfl, rfl, rfl, rfl, rfl, rfl, trivial⟩⟩
 }
 }
 {
 rintro a w ⟨x46, h, m44, hm45, hS, hE⟩
 unfold rosfile_key_j2 at h
 refine kcut (fun a w => ∃ x50 : Ap, rosfile_key_j3 x16 x19 x50 = some r21 ∧ ∃ m', M.le m44 m' ∧ ∃ (cs51 : List Value), kAp.R m' cs51 x50 ∧ S W0 m' w ((b39, cs51) :: L) ((4, v17) :: TL) ∧ Env 34 a [(1, v1), (5, v17), (8, (.pointer (some ⟨b39, 0, none⟩))), (9, v0), (10, (.int .i64 (p0.length : Int))), (11, (.int .i64 x19))]) ?_ ?_
 {
 refine kif hE rfl (fun hd70 => ?_) (fun hd70 => ?_)
 {
 have h := ite_T hd70 h
 refine kreg ?_
 refine qm hE rfl rfl fun a hE => ?_
 refine qm hE rfl rfl fun a hE => ?_
 obtain ⟨x73, hx74, h⟩ := ob h
 refine st hE (st_index (k := kAp) hE rfl rfl Try.underlying29 Try.sizeOf38 (ha1.mono (M.le.trans hm15 (M.le.trans hm36 hm45))) hx74) rfl ?_
 rintro v76 a _ ⟨rfl, hp75⟩ hE
 refine st hE (st_loadM hE hS ty38 rfl hp75) rfl ?_
 rintro v78 a _ ⟨rfl, hv77⟩ hE
 refine st0 hE (st_storeF hE hS ty38 StF_self rfl rfl hv77 (i := 0) rfl (kAp.mono hm45 hc42)) ?_
 rintro _ w ⟨cs79, hc80, hS⟩ hE
 refine knil ?_
 exact ⟨x73, h, _, (M.le.refl _), cs79, hc80, hS, hE.cut ⟨rfl, rfl, rfl, rfl, rfl, rfl, trivial⟩⟩
 }
 {
 have h := ite_F hd70 h
 refine kskip ?_
 exact ⟨r33, h, _, (M.le.refl _), cs41, (kAp.mono hm45 hc42), hS, hE.cut ⟨rfl, rfl, rfl, rfl, rfl, rfl, trivial⟩⟩
 }
 }
 {
 rintro a w ⟨x50, h, m48, hm49, cs51, hc52, hS, hE⟩
 unfold rosfile_key_j3 at h
 refine kreg ?_
 refine qm hE rfl rfl fun a hE => ?_
 refine st hE (st_loadL hE hS ty38 rfl (i := 0) rfl (R_whole hc52)) rfl ?_
 rintro v56 a _ ⟨rfl, hv55⟩ hE
 refine st hE (st_lit (k := kAp) (xs := [x50]) (vs := [v56]) hE hS rfl Try.underlying29 Try.sizeOf38 Try.zeroValue38 ⟨hv55, trivial⟩ rfl (by decide)) rfl ?_
 rintro v60 a w ⟨m58, hm59, hS, hv57⟩ hE
 obtain ⟨z61, hz62, h⟩ := ob h
 refine st hE (st_app (k := kAp) (N := 3518437208883) hE hS rfl rfl Try.underlying29 Try.underlying29 el38 (i := 1) rfl (hv18.mono (M.le.trans hm36 (M.le.trans hm45 (M.le.trans hm49 hm59)))) hv57 hz62 rfl rfl) rfl ?_
 rintro v66 a w ⟨m64, hm65, hS, hv63⟩ hE
 refine qa hE rfl rfl fun a hE => ?_
 refine knil (kreg ?_)
 refine sp hE (r_bin hE rfl rfl (b_add rfl)) rfl fun a hE => ?_
 refine qm hE rfl rfl fun a hE => ?_
 refine knil ?_
 exact ⟨(z61, IntKind.i64.wrap (x19 + 1)), (Option.some.inj h).symm, _, (M.le.trans hm15 (M.le.trans hm36 (M.le.trans hm45 (M.le.trans hm49 (M.le.trans hm59 hm65))))), v66, hv63, (inR_wrap _ _), ((hS.pickL 1 [] rfl rfl rfl).pickT 2 [1] rfl rfl rfl), hE.cut ⟨rfl, rfl, rfl, rfl, rfl, trivial⟩⟩
 }
 }
 }
 {
 have h := ite_F hd24 h
 refine kexit rfl rfl ?_
 have h := unwrap h hb22
 exact ⟨x16, h, _, hm15, v17, hv18, hS, hE.cut ⟨rfl, trivial⟩⟩
 }
 }
 }
 {
 rintro a w ⟨x8, h, m6, hm7, v9, hv10, hS, hE⟩
 unfold rosfile_key_j1 at h
 refine kseq (kreg ?_)
 refine qm hE rfl rfl fun a hE => ?_
 refine qa hE rfl rfl fun a hE => ?_
 refine knil (kret ?_)
 obtain rfl := oi h
 try dsimp only
 refine Fin.mk hE (rs := [.tmp 4]) rfl (ResL.tmp hE rfl ResL.nil) ?_
 exact ⟨_, hm7, (hS.pickT 1 [0] rfl rfl rfl), hv10⟩
 }
theorem c_cmp_isNaN_int  {W0 : Bse} {m : M} {w : World} {L : List (Nat × List Value)} {TL : List (Nat × Value)} (hS : S W0 m w (L) (TL)) {p0 : Int} (ha0 : inR .i64 p0) {r : Bool} (h : cmp_isNaN_int p0 = some r) :
    Calls Try.prog 39 [(.int .i64 p0)].toArray w (Ret fun v w' => ∃ m', M.le m m' ∧ S W0 m' w' (L) (TL) ∧ RV kBool m' v r) := by
 refine kcall Try.func39 rfl Try.ntmps39 (Nat.le_of_ble_eq_true rfl) fun a hE => ?_
 have hE : Env 6 a [(0, (.int .i64 p0))] := hE
 unfold cmp_isNaN_int at h
 refine kseq (kreg ?_)
 refine qa hE rfl rfl fun a hE => ?_
 refine knil (kseq (kreg ?_))
 refine qm hE rfl rfl fun a hE => ?_
 refine qm hE rfl rfl fun a hE => ?_
 refine sp hE (r_bin hE rfl rfl b_neq) rfl fun a hE => ?_
 refine qa hE rfl rfl fun a hE => ?_
 refine knil (kret ?_)
 obtain rfl := oi h
 try dsimp only
 refine Fin.mk hE (rs := [.tmp 2]) rfl (ResL.tmp hE rfl ResL.nil) ?_
 exact ⟨_, (M.le.refl _), hS, RV_of_bool⟩
theorem c_cmp_Compare_int  {W0 : Bse} {m : M} {w : World} {L : List (Nat × List Value)} {TL : List (Nat × Value)} (hS : S W0 m w (L) (TL)) {p0 : Int} (ha0 : inR .i64 p0) {p1 : Int} (ha1 : inR .i64 p1) {r : Int} (h : cmp_Compare_int p0 p1 = some r) :
    Calls Try.prog 28 [(.int .i64 p0), (.int .i64 p1)].toArray w (Ret fun v w' => ∃ m', M.le m m' ∧ S W0 m' w' (L) (TL) ∧ RV (kInt .i64) m' v r) := by
 refine kcall Try.func28 rfl Try.ntmps28 (Nat.le_of_ble_eq_true rfl) fun a hE => ?_
 have hE : Env 20 a [(0, (.int .i64 p0)), (1, (.int .i64 p1))] := hE
 unfold cmp_Compare_int at h
 refine kseq (kreg ?_)
 refine qa hE rfl rfl fun a hE => ?_
 refine knil (kseq (kreg ?_))
 refine qm hE rfl rfl fun a hE => ?_
 obtain ⟨r3, hr4, h⟩ := ob h
 refine st hE (st_call (vs := [(.int .i64 p0)]) hE rfl Try.call39 (c_cmp_isNaN_int (hS := hS) ha0 hr4)) rfl ?_
 rintro v8 a w ⟨m5, hm6, hS, hv7⟩ hE
 obtain rfl := RV_bool hv7
 refine qa hE rfl rfl fun a hE => ?_
 refine knil (kseq (kreg ?_))
 refine qm hE rfl rfl fun a hE => ?_
 obtain ⟨r11, hr12, h⟩ := ob h
 refine st hE (st_call (vs := [(.int .i64 p1)]) hE rfl Try.call39 (c_cmp_isNaN_int (hS := hS) ha1 hr12)) rfl ?_
 rintro v16 a w ⟨m13, hm14, hS, hv15⟩ hE
 obtain rfl := RV_bool hv15
 refine qa hE rfl rfl fun a hE => ?_
 refine knil (kseq (kseq (kreg ?_)))
 refine qm hE rfl rfl fun a hE => ?_
 refine knil ?_
 refine kif hE rfl (fun hd19 => ?_) (fun hd19 => ?_)
 {
 have h := ite_T hd19 h
 refine kseq (kseq (kreg ?_))
 refine qm hE rfl rfl fun a hE => ?_
 refine knil ?_
 refine kif hE rfl (fun hd21 => ?_) (fun hd21 => ?_)
 {
 have h := ite_T hd21 h
 refine kseq (kreg ?_)
 refine qa hE rfl rfl fun a hE => ?_
 refine knil (kret ?_)
 obtain rfl := oi h
 try dsimp only
 refine Fin.mk hE (rs := [.tmp 4]) rfl (ResL.tmp hE rfl ResL.nil) ?_
 exact ⟨_, (M.le.trans hm6 hm14), hS, (RV_of_int (show inR .i64 0 from inR_lit (by decide)))⟩
 }
 {
 have h := ite_F hd21 h
 refine kskip (kseq (kreg ?_))
 refine qa hE rfl rfl fun a hE => ?_
 refine knil (kret ?_)
 obtain rfl := oi h
 try dsimp only
 refine Fin.mk hE (rs := [.tmp 4]) rfl (ResL.tmp hE rfl ResL.nil) ?_
 exact ⟨_, (M.le.trans hm6 hm14), hS, (RV_of_int (show inR .i64 (-1) from inR_lit (by decide)))⟩
 }
 }
 {
 have h := ite_F hd19 h
 refine kskip (kseq (kseq (kreg ?_)))
 refine qm hE rfl rfl fun a hE => ?_
 refine knil ?_
 refine kif hE rfl (fun hd25 => ?_) (fun hd25 => ?_)
 {
 have h := ite_T hd25 h
 refine kseq (kreg ?_)
 refine qa hE rfl rfl fun a hE => ?_
 refine knil (kret ?_)
 obtain rfl := oi h
 try dsimp only
 refine Fin.mk hE (rs := [.tmp 4]) rfl (ResL.tmp hE rfl ResL.nil) ?_
 exact ⟨_, (M.le.trans hm6 hm14), hS, (RV_of_int (show inR .i64 1 from inR_lit (by decide)))⟩
 }
 {
 have h := ite_F hd25 h
 refine kskip (kseq (kseq (kreg ?_)))
 refine qm hE rfl rfl fun a hE => ?_
 refine qm hE rfl rfl fun a hE => ?_
 refine sp hE (r_bin hE rfl rfl b_lss) rfl fun a hE => ?_
 refine knil ?_
 refine kif hE rfl (fun hd30 => ?_) (fun hd30 => ?_)
 {
 have h := ite_T hd30 h
 refine kseq (kreg ?_)
 refine qa hE rfl rfl fun a hE => ?_
 refine knil (kret ?_)
 obtain rfl := oi h
 try dsimp only
 refine Fin.mk hE (rs := [.tmp 4]) rfl (ResL.tmp hE rfl ResL.nil) ?_
 exact ⟨_, (M.le.trans hm6 hm14), hS, (RV_of_int (show inR .i64 (-1) from inR_lit (by decide)))⟩
 }
 {
 have h := ite_F hd30 h
 refine kskip (kseq (kseq (kreg ?_)))
 refine qm hE rfl rfl fun a hE => ?_
 refine qm hE rfl rfl fun a hE => ?_
 refine sp hE (r_bin hE rfl rfl b_gtr) rfl fun a hE => ?_
 refine knil ?_
 refine kif hE rfl (fun hd35 => ?_) (fun hd35 => ?_)
 {
 have h := ite_T hd35 h
 refine kseq (kreg ?_)
 refine qa hE rfl rfl fun a hE => ?_
 refine knil (kret ?_)
 obtain rfl := oi h
 try dsimp only
 refine Fin.mk hE (rs := [.tmp 4]) rfl (ResL.tmp hE rfl ResL.nil) ?_
 exact ⟨_, (M.le.trans hm6 hm14), hS, (RV_of_int (show inR .i64 1 from inR_lit (by decide)))⟩
 }
 {
 have h := ite_F hd35 h
 refine kskip (kseq (kreg ?_))
 refine qa hE rfl rfl fun a hE => ?_
 refine knil (kret ?_)
 obtain rfl := oi h
 try dsimp only
 refine Fin.mk hE (rs := [.tmp 4]) rfl (ResL.tmp hE rfl ResL.nil) ?_
 exact ⟨_, (M.le.trans hm6 hm14), hS, (RV_of_int (show inR .i64 0 from inR_lit (by decide)))⟩
 }
 }
 }
 }
theorem c_cmp_isNaN_int64  {W0 : Bse} {m : M} {w : World} {L : List (Nat × List Value)} {TL : List (Nat × Value)} (hS : S W0 m w (L) (TL)) {p0 : Int} (ha0 : inR .i64 p0) {r : Bool} (h : cmp_isNaN_int64 p0 = some r) :
    Calls Try.prog 44 [(.int .i64 p0)].toArray w (Ret fun v w' => ∃ m', M.le m m' ∧ S W0 m' w' (L) (TL) ∧ RV kBool m' v r) := by
 refine kcall Try.func44 rfl Try.ntmps44 (Nat.le_of_ble_eq_true rfl) fun a hE => ?_
 have hE : Env 6 a [(0, (.int .i64 p0))] := hE
 unfold cmp_isNaN_int64 at h
 refine kseq (kreg ?_)
 refine qa hE rfl rfl fun a hE => ?_
 refine knil (kseq (kreg ?_))
 refine qm hE rfl rfl fun a hE => ?_
 refine qm hE rfl rfl fun a hE => ?_
 refine sp hE (r_bin hE rfl rfl b_neq) rfl fun a hE => ?_
 refine qa hE rfl rfl fun a hE => ?_
 refine knil (kret ?_)
 obtain rfl := oi h
 try dsimp only
 refine Fin.mk hE (rs := [.tmp 2]) rfl (ResL.tmp hE rfl ResL.nil) ?_
 exact ⟨_, (M.le.refl _), hS, RV_of_bool⟩
theorem c_cmp_Compare_int64  {W0 : Bse} {m : M} {w : World} {L : List (Nat × List Value)} {TL : List (Nat × Value)} (hS : S W0 m w (L) (TL)) {p0 : Int} (ha0 : inR .i64 p0) {p1 : Int} (ha1 : inR .i64 p1) {r : Int} (h : cmp_Compare_int64 p0 p1 = some r) :
    Calls Try.prog 37 [(.int .i64 p0), (.int .i64 p1)].toArray w (Ret fun v w' => ∃ m', M.le m m' ∧ S W0 m' w' (L) (TL) ∧ RV (kInt .i64) m' v r) := by
 refine kcall Try.func37 rfl Try.ntmps37 (Nat.le_of_ble_eq_true rfl) fun a hE => ?_
 have hE : Env 20 a [(0, (.int .i64 p0)), (1, (.int .i64 p1))] := hE
 unfold cmp_Compare_int64 at h
 refine kseq (kreg ?_)
 refine qa hE rfl rfl fun a hE => ?_
 refine knil (kseq (kreg ?_))
 refine qm hE rfl rfl fun a hE => ?_
 obtain ⟨r3, hr4, h⟩ := ob h
 refine st hE (st_call (vs := [(.int .i64 p0)]) hE rfl Try.call44 (c_cmp_isNaN_int64 (hS := hS) ha0 hr4)) rfl ?_
 rintro v8 a w ⟨m5, hm6, hS, hv7⟩ hE
 obtain rfl := RV_bool hv7
 refine qa hE rfl rfl fun a hE => ?_
 refine knil (kseq (kreg ?_))
 refine qm hE rfl rfl fun a hE => ?_
 obtain ⟨r11, hr12, h⟩ := ob h
 refine st hE (st_call (vs := [(.int .i64 p1)]) hE rfl Try.call44 (c_cmp_isNaN_int64 (hS := hS) ha1 hr12)) rfl ?_
 rintro v16 a w ⟨m13, hm14, hS, hv15⟩ hE
 obtain rfl := RV_bool hv15
 refine qa hE rfl rfl fun a hE => ?_
 refine knil (kseq (kseq (kreg ?_)))
 refine qm hE rfl rfl fun a hE => ?_
 refine knil ?_
 refine kif hE rfl (fun hd19 => ?_) (fun hd19 => ?_)
 {
 have h := ite_T hd19 h
 refine kseq (kseq (kreg ?_))
 refine qm hE rfl rfl fun a hE => ?_
 refine knil ?_
 refine kif hE rfl (fun hd21 => ?_) (fun hd21 => ?_)
 {
 have h := ite_T hd21 h
 refine kseq (kreg ?_)
 refine qa hE rfl rfl fun a hE => ?_
 refine knil (kret ?_)
 obtain rfl := oi h
 try dsimp only
 refine Fin.mk hE (rs := [.tmp 4]) rfl (ResL.tmp hE rfl ResL.nil) ?_
 exact ⟨_, (M.le.trans hm6 hm14), hS, (RV_of_int (show inR .i64 0 from inR_lit (by decide)))⟩
 }
 {
 have h := ite_F hd21 h
 refine kskip (kseq (kreg ?_))
 refine qa hE rfl rfl fun a hE => ?_
 refine knil (kret ?_)
 obtain rfl := oi h
 try dsimp only
 refine Fin.mk hE (rs := [.tmp 4]) rfl (ResL.tmp hE rfl ResL.nil) ?_
 exact ⟨_, (M.le.trans hm6 hm14), hS, (RV_of_int (show inR .i64 (-1) from inR_lit (by decide)))⟩
 }
 }
 {
 have h := ite_F hd19 h
 refine kskip (kseq (kseq (kreg ?_)))
 refine qm hE rfl rfl fun a hE => ?_
 refine knil ?_
 refine kif hE rfl (fun hd25 => ?_) (fun hd25 => ?_)
 {
 have h := ite_T hd25 h
 refine kseq (kreg ?_)
 refine qa hE rfl rfl fun a hE => ?_
 refine knil (kret ?_)
 obtain rfl := oi h
 try dsimp only
 refine Fin.mk hE (rs := [.tmp 4]) rfl (ResL.tmp hE rfl ResL.nil) ?_
 exact ⟨_, (M.le.trans hm6 hm14), hS, (RV_of_int (show inR .i64 1 from inR_lit (by decide)))⟩
 }
 {
 have h := ite_F hd25 h
 refine kskip (kseq (kseq (kreg ?_)))
 refine qm hE rfl rfl fun a hE => ?_
 refine qm hE rfl rfl fun a hE => ?_
 refine sp hE (r_bin hE rfl rfl b_lss) rfl fun a hE => ?_
 refine knil ?_
 refine kif hE rfl (fun hd30 => ?_) (fun hd30 => ?_)
 {
 have h := ite_T hd30 h
 refine kseq (kreg ?_)
 refine qa hE rfl rfl fun a hE => ?_
 refine knil (kret ?_)
 obtain rfl := oi h
 try dsimp only
 refine Fin.mk hE (rs := [.tmp 4]) rfl (ResL.tmp hE rfl ResL.nil) ?_
 exact ⟨_, (M.le.trans hm6 hm14), hS, (RV_of_int (show inR .i64 (-1) from inR_lit (by decide)))⟩
 }
 {
 have h := ite_F hd30 h
 refine kskip (kseq (kseq (kreg ?_)))
 refine qm hE rfl rfl fun a hE => ?_
 refine qm hE rfl rfl fun a hE => ?_
 refine sp hE (r_bin hE rfl rfl b_gtr) rfl fun a hE => ?_
 refine knil ?_
 refine kif hE rfl (fun hd35 => ?_) (fun hd35 => ?_)
 {
 have h := ite_T hd35 h
 refine kseq (kreg ?_)
 refine qa hE rfl rfl fun a hE => ?_
 refine knil (kret ?_)
 obtain rfl := oi h
 try dsimp only
 refine Fin.mk hE (rs := [.tmp 4]) rfl (ResL.tmp hE rfl ResL.nil) ?_
 exact ⟨_, (M.le.trans hm6 hm14), hS, (RV_of_int (show inR .i64 1 from inR_lit (by decide)))⟩
 }
 {
 have h := ite_F hd35 h
 refine kskip (kseq (kreg ?_))
 refine qa hE rfl rfl fun a hE => ?_
 refine knil (kret ?_)
 obtain rfl := oi h
 try dsimp only
 refine Fin.mk hE (rs := [.tmp 4]) rfl (ResL.tmp hE rfl ResL.nil) ?_
 exact ⟨_, (M.le.trans hm6 hm14), hS, (RV_of_int (show inR .i64 0 from inR_lit (by decide)))⟩
 }
 }
 }
 }
theorem c_bytealg_CompareString  {W0 : Bse} {m : M} {w : World} {L : List (Nat × List Value)} {TL : List (Nat × Value)} (hS : S W0 m w (L) (TL)) {p0 : List Int} (ha0 : ∀ n ∈ p0, 0 ≤ n ∧ n < 256) (hl0_ : p0.length ≤ maxSz) {p1 : List Int} (ha1 : ∀ n ∈ p1, 0 ≤ n ∧ n < 256) (hl1_ : p1.length ≤ maxSz) {r : Int} (h : bytealg_CompareString p0 p1 = some r) :
    Calls Try.prog 45 [(.string (bts p0)), (.string (bts p1))].toArray w (Ret fun v w' => ∃ m', M.le m m' ∧ S W0 m' w' (L) (TL) ∧ RV (kInt .i64) m' v r) := by
 refine kcall Try.func45 rfl Try.ntmps45 (Nat.le_of_ble_eq_true rfl) fun a hE => ?_
 have hE : Env 8 a [(0, (.string (bts p0))), (1, (.string (bts p1)))] := hE
 unfold bytealg_CompareString at h
 refine kseq (kreg ?_)
 refine qa hE rfl rfl fun a hE => ?_
 refine knil (kseq (kreg ?_))
 refine qm hE rfl rfl fun a hE => ?_
 refine qm hE rfl rfl fun a hE => ?_
 refine sp hE (st_cmpstr hE Try.func48 (by kernel_rfl) (by kernel_rfl) (by kernel_rfl) (by kernel_rfl) rfl ha0 ha1) rfl fun a hE => ?_
 refine qa hE rfl rfl fun a hE => ?_
 refine knil (kret ?_)
 obtain rfl := oi h
 try dsimp only
 refine Fin.mk hE (rs := [.tmp 4]) rfl (ResL.tmp hE rfl ResL.nil) ?_
 exact ⟨_, (M.le.refl _), hS, (RV_of_int (inR_cmpB _ _))⟩
theorem c_strings_Compare  {W0 : Bse} {m : M} {w : World} {L : List (Nat × List Value)} {TL : List (Nat × Value)} (hS : S W0 m w (L) (TL)) {p0 : List Int} (ha0 : ∀ n ∈ p0, 0 ≤ n ∧ n < 256) (hl0_ : p0.length ≤ maxSz) {p1 : List Int} (ha1 : ∀ n ∈ p1, 0 ≤ n ∧ n < 256) (hl1_ : p1.length ≤ maxSz) {r : Int} (h : strings_Compare p0 p1 = some r) :
    Calls Try.prog 38 [(.string (bts p0)), (.string (bts p1))].toArray w (Ret fun v w' => ∃ m', M.le m m' ∧ S W0 m' w' (L) (TL) ∧ RV (kInt .i64) m' v r) := by
 refine kcall Try.func38 rfl Try.ntmps38 (Nat.le_of_ble_eq_true rfl) fun a hE => ?_
 have hE : Env 8 a [(0, (.string (bts p0))), (1, (.string (bts p1)))] := hE
 unfold strings_Compare at h
 refine kseq (kreg ?_)
 refine qa hE rfl rfl fun a hE => ?_
 refine knil (kseq (kreg ?_))
 refine qm hE rfl rfl fun a hE => ?_
 refine qm hE rfl rfl fun a hE => ?_
 obtain ⟨r4, hr5, h⟩ := ob h
 refine st hE (st_call (vs := [(.string (bts p0)), (.string (bts p1))]) hE rfl Try.call45 (c_bytealg_CompareString (hS := hS) ha0 hl0_ ha1 hl1_ hr5)) rfl ?_
 rintro v9 a w ⟨m6, hm7, hS, hv8⟩ hE
 obtain ⟨rfl, hr10⟩ := RV_int hv8
 refine qa hE rfl rfl fun a hE => ?_
 refine knil (kret ?_)
 obtain rfl := oi h
 try dsimp only
 refine Fin.mk hE (rs := [.tmp 4]) rfl (ResL.tmp hE rfl ResL.nil) ?_
 exact ⟨_, hm7, hS, (RV_of_int hr10)⟩
theorem c_value_Compare  {W0 : Bse} {m : M} {w : World} {L : List (Nat × List Value)} {TL : List (Nat × Value)} (hS : S W0 m w (L) (TL)) {v0 : Value} {p0 : Ap} (ha0 : RV kAp m v0 p0) {v1 : Value} {p1 : Ap} (ha1 : RV kAp m v1 p1) {r : Int} (h : value_Compare p0 p1 = some r) :
    Calls Try.prog 27 [v0, v1].toArray w (Ret fun v w' => ∃ m', M.le m m' ∧ S W0 m' w' (L) (TL) ∧ RV (kInt .i64) m' v r) := by
 refine kcall Try.func27 rfl Try.ntmps27 (Nat.le_of_ble_eq_true rfl) fun a hE => ?_
 have hE : Env 47 a [(0, v0), (1, v1)] := hE
 unfold value_Compare at h
 refine kseq (kreg ?_)
 refine st hE (st_box (k := kAp) hE hS rfl ha0) rfl ?_
 rintro _ a w ⟨b1, cs2, rfl, hc3, hS⟩ hE
 refine st hE (st_box (k := kAp) hE hS rfl ha1) rfl ?_
 rintro _ a w ⟨b5, cs6, rfl, hc7, hS⟩ hE
 refine qa hE rfl rfl fun a hE => ?_
 refine knil (kseq (kblock (kseq (kreg ?_))))
 refine sp hE (r_fieldL hE fo38_0 rfl) rfl fun a hE => ?_
 refine st hE (st_loadL hE hS ty3 rfl (i := 1) rfl (fl38_0.R_drop (R_whole hc3))) rfl ?_
 rintro v12 a _ ⟨rfl, hv11⟩ hE
 obtain ⟨rfl, hr13⟩ := RV_int hv11
 refine sp hE (r_fieldL hE fo38_0 rfl) rfl fun a hE => ?_
 refine st hE (st_loadL hE hS ty3 rfl (i := 0) rfl (fl38_0.R_drop (R_whole hc7))) rfl ?_
 rintro v16 a _ ⟨rfl, hv15⟩ hE
 obtain ⟨rfl, hr17⟩ := RV_int hv15
 refine sp hE (r_bin hE rfl rfl b_neq) rfl fun a hE => ?_
 refine qa hE rfl rfl fun a hE => ?_
 refine knil ?_
 refine kif hE rfl (fun hd20 => ?_) (fun hd20 => ?_)
 {
 have h := ite_T hd20 h
 refine kseq (kreg ?_)
 refine sp hE (r_fieldL hE fo38_0 rfl) rfl fun a hE => ?_
 refine st hE (st_loadL hE hS ty3 rfl (i := 1) rfl (fl38_0.R_drop (R_whole hc3))) rfl ?_
 rintro v23 a _ ⟨rfl, hv22⟩ hE
 obtain ⟨rfl, hr24⟩ := RV_int hv22
 refine sp hE (r_fieldL hE fo38_0 rfl) rfl fun a hE => ?_
 refine st hE (st_loadL hE hS ty3 rfl (i := 0) rfl (fl38_0.R_drop (R_whole hc7))) rfl ?_
 rintro v27 a _ ⟨rfl, hv26⟩ hE
 obtain ⟨rfl, hr28⟩ := RV_int hv26
 obtain ⟨r29, hr30, h⟩ := ob h
 refine st hE (st_call (vs := [(.int .i64 p0.fKind), (.int .i64 p1.fKind)]) hE rfl Try.call28 (c_cmp_Compare_int (hS := hS) hr24 hr28 hr30)) rfl ?_
 rintro v34 a w ⟨m31, hm32, hS, hv33⟩ hE
 obtain ⟨rfl, hr35⟩ := RV_int hv33
 refine qa hE rfl rfl fun a hE => ?_
 refine knil (kret ?_)
 obtain rfl := oi h
 try dsimp only
 refine Fin.mk hE (rs := [.tmp 4]) rfl (ResL.tmp hE rfl ResL.nil) ?_
 exact ⟨_, hm32, (hS.dropL 2), (RV_of_int hr35)⟩
 }
 {
 have h := ite_F hd20 h
 refine kseq ?_
 refine kcut (fun a w => ∃ x39 : Bool, value_Compare_j1 p0 p1 x39 = some r ∧ ∃ m', M.le m m' ∧ S W0 m' w ((b5, cs6) :: (b1, cs2) :: L) (TL) ∧ Env 47 a [(2, (.pointer (some ⟨b1, 0, none⟩))), (3, (.pointer (some ⟨b5, 0, none⟩))), (16, (.bool x39))]) ?_ ?_
 {
 refine kreg ?_
 refine sp hE (r_fieldL hE fo38_0 rfl) rfl fun a hE => ?_
 refine st hE (st_loadL hE hS ty3 rfl (i := 1) rfl (fl38_0.R_drop (R_whole hc3))) rfl ?_
 rintro v99 a _ ⟨rfl, hv98⟩ hE
 obtain ⟨rfl, hr100⟩ := RV_int hv98
 refine sp hE (r_bin hE rfl rfl b_eql) rfl fun a hE => ?_
 refine qm hE rfl rfl fun a hE => ?_
 rcases Bool.eq_false_or_eq_true (p0.fKind == 1) with hd103 | hd103
 {
 have h := ite_T hd103 h
 refine spg hE rfl rfl rfl rfl hd103 (r_fieldL hE fo38_1 rfl) rfl fun a hE => ?_
 refine stg hE rfl rfl rfl rfl hd103 (st_loadL hE hS ty4 rfl (i := 1) rfl (fl38_1.R_drop (R_whole hc3))) rfl ?_
 rintro v106 a _ ⟨rfl, hv105⟩ hE
 obtain rfl := RV_bool hv105
 refine spg hE rfl rfl rfl rfl hd103 (r_fieldL hE fo38_1 rfl) rfl fun a hE => ?_
 refine stg hE rfl rfl rfl rfl hd103 (st_loadL hE hS ty4 rfl (i := 0) rfl (fl38_1.R_drop (R_whole hc7))) rfl ?_
 rintro v109 a _ ⟨rfl, hv108⟩ hE
 obtain rfl := RV_bool hv108
 refine spg hE rfl rfl rfl rfl hd103 (r_neqB hE rfl rfl Try.underlying4) rfl fun a hE => ?_
 refine sp hE (r_pickT hE rfl hd103 rfl) rfl fun a hE => ?_
 refine qa hE rfl rfl fun a hE => ?_
 refine knil ?_
 exact ⟨(!(p0.fBool == p1.fBool)), h, _, (M.le.refl _), hS, hE.cut ⟨rfl, rfl, rfl, trivial⟩⟩
 }
 {
 have h := ite_F hd103 h
 refine sx hE rfl rfl rfl rfl hd103 rfl fun a hE => ?_
 refine sx hE rfl rfl rfl rfl hd103 rfl fun a hE => ?_
 refine sx hE rfl rfl rfl rfl hd103 rfl fun a hE => ?_
 refine sx hE rfl rfl rfl rfl hd103 rfl fun a hE => ?_
 refine sx hE rfl rfl rfl rfl hd103 rfl fun a hE => ?_
 refine sp hE (r_pickF hE rfl hd103 rfl) rfl fun a hE => ?_
 refine qa hE rfl rfl fun a hE => ?_
 refine knil ?_
 exact ⟨false, h, _, (M.le.refl _), hS, hE.cut ⟨rfl, rfl, rfl, trivial⟩⟩
 }
 }
 {
 rintro a w ⟨x39, h, m37, hm38, hS, hE⟩
 unfold value_Compare_j1 at h
 refine kif hE rfl (fun hd41 => ?_) (fun hd41 => ?_)
 {
 have h := ite_T hd41 h
 refine kseq (kseq (kreg ?_))
 refine sp hE (r_fieldL hE fo38_1 rfl) rfl fun a hE => ?_
 refine st hE (st_loadL hE hS ty4 rfl (i := 0) rfl (fl38_1.R_drop (R_whole (kAp.mono hm38 hc7)))) rfl ?_
 rintro v44 a _ ⟨rfl, hv43⟩ hE
 obtain rfl := RV_bool hv43
 refine knil ?_
 refine kif hE rfl (fun hd45 => ?_) (fun hd45 => ?_)
 {
 have h := ite_T hd45 h
 refine kseq (kreg ?_)
 refine qa hE rfl rfl fun a hE => ?_
 refine knil (kret ?_)
 obtain rfl := oi h
 try dsimp only
 refine Fin.mk hE (rs := [.tmp 4]) rfl (ResL.tmp hE rfl ResL.nil) ?_
 exact ⟨_, hm38, (hS.dropL 2), (RV_of_int (show inR .i64 (-1) from inR_lit (by decide)))⟩
 }
 {
 have h := ite_F hd45 h
 refine kskip (kseq (kreg ?_))
 refine qa hE rfl rfl fun a hE => ?_
 refine knil (kret ?_)
 obtain rfl := oi h
 try dsimp only
 refine Fin.mk hE (rs := [.tmp 4]) rfl (ResL.tmp hE rfl ResL.nil) ?_
 exact ⟨_, hm38, (hS.dropL 2), (RV_of_int (show inR .i64 1 from inR_lit (by decide)))⟩
 }
 }
 {
 have h := ite_F hd41 h
 refine kseq (kreg ?_)
 refine sp hE (r_fieldL hE fo38_0 rfl) rfl fun a hE => ?_
 refine st hE (st_loadL hE hS ty3 rfl (i := 1) rfl (fl38_0.R_drop (R_whole (kAp.mono hm38 hc3)))) rfl ?_
 rintro v50 a _ ⟨rfl, hv49⟩ hE
 obtain ⟨rfl, hr51⟩ := RV_int hv49
 refine sp hE (r_bin hE rfl rfl b_eql) rfl fun a hE => ?_
 refine qa hE rfl rfl fun a hE => ?_
 refine knil ?_
 refine kif hE rfl (fun hd54 => ?_) (fun hd54 => ?_)
 {
 have h := ite_T hd54 h
 refine kseq (kreg ?_)
 refine sp hE (r_fieldL hE fo38_2 rfl) rfl fun a hE => ?_
 refine st hE (st_loadL hE hS ty2 rfl (i := 1) rfl (fl38_2.R_drop (R_whole (kAp.mono hm38 hc3)))) rfl ?_
 rintro v57 a _ ⟨rfl, hv56⟩ hE
 obtain ⟨rfl, hr58⟩ := RV_int hv56
 refine sp hE (r_fieldL hE fo38_2 rfl) rfl fun a hE => ?_
 refine st hE (st_loadL hE hS ty2 rfl (i := 0) rfl (fl38_2.R_drop (R_whole (kAp.mono hm38 hc7)))) rfl ?_
 rintro v61 a _ ⟨rfl, hv60⟩ hE
 obtain ⟨rfl, hr62⟩ := RV_int hv60
 obtain ⟨r63, hr64, h⟩ := ob h
 refine st hE (st_call (vs := [(.int .i64 p0.fInt), (.int .i64 p1.fInt)]) hE rfl Try.call37 (c_cmp_Compare_int64 (hS := hS) hr58 hr62 hr64)) rfl ?_
 rintro v68 a w ⟨m65, hm66, hS, hv67⟩ hE
 obtain ⟨rfl, hr69⟩ := RV_int hv67
 refine qa hE rfl rfl fun a hE => ?_
 refine knil (kret ?_)
 obtain rfl := oi h
 try dsimp only
 refine Fin.mk hE (rs := [.tmp 4]) rfl (ResL.tmp hE rfl ResL.nil) ?_
 exact ⟨_, (M.le.trans hm38 hm66), (hS.dropL 2), (RV_of_int hr69)⟩
 }
 {
 have h := ite_F hd54 h
 refine kseq (kreg ?_)
 refine sp hE (r_fieldL hE fo38_0 rfl) rfl fun a hE => ?_
 refine st hE (st_loadL hE hS ty3 rfl (i := 1) rfl (fl38_0.R_drop (R_whole (kAp.mono hm38 hc3)))) rfl ?_
 rintro v73 a _ ⟨rfl, hv72⟩ hE
 obtain ⟨rfl, hr74⟩ := RV_int hv72
 refine sp hE (r_bin hE rfl rfl b_eql) rfl fun a hE => ?_
 refine qa hE rfl rfl fun a hE => ?_
 refine knil ?_
 refine kif hE rfl (fun hd77 => ?_) (fun hd77 => ?_)
 {
 have h := ite_T hd77 h
 refine kseq (kreg ?_)
 refine sp hE (r_fieldL hE fo38_3 rfl) rfl fun a hE => ?_
 refine st hE (st_loadL hE hS ty9 rfl (i := 1) rfl (fl38_3.R_drop (R_whole (kAp.mono hm38 hc3)))) rfl ?_
 rintro v80 a _ ⟨rfl, hv79⟩ hE
 obtain ⟨rfl, hb81, hl82⟩ := RV_str hv79
 refine sp hE (r_fieldL hE fo38_3 rfl) rfl fun a hE => ?_
 refine st hE (st_loadL hE hS ty9 rfl (i := 0) rfl (fl38_3.R_drop (R_whole (kAp.mono hm38 hc7)))) rfl ?_
 rintro v85 a _ ⟨rfl, hv84⟩ hE
 obtain ⟨rfl, hb86, hl87⟩ := RV_str hv84
 obtain ⟨r88, hr89, h⟩ := ob h
 refine st hE (st_call (vs := [(.string (bts p0.fText)), (.string (bts p1.fText))]) hE rfl Try.call38 (c_strings_Compare (hS := hS) hb81 hl82 hb86 hl87 hr89)) rfl ?_
 rintro v93 a w ⟨m90, hm91, hS, hv92⟩ hE
 obtain ⟨rfl, hr94⟩ := RV_int hv92
 refine qa hE rfl rfl fun a hE => ?_
 refine knil (kret ?_)
 obtain rfl := oi h
 try dsimp only
 refine Fin.mk hE (rs := [.tmp 4]) rfl (ResL.tmp hE rfl ResL.nil) ?_
 exact ⟨_, (M.le.trans hm38 hm91), (hS.dropL 2), (RV_of_int hr94)⟩
 }
 {
 have h := ite_F hd77 h
 refine kskip (kseq (kreg ?_))
 refine qa hE rfl rfl fun a hE => ?_
 refine knil (kret ?_)
 obtain rfl := oi h
 try dsimp only
 refine Fin.mk hE (rs := [.tmp 4]) rfl (ResL.tmp hE rfl ResL.nil) ?_
 exact ⟨_, hm38, (hS.dropL 2), (RV_of_int (show inR .i64 0 from inR_lit (by decide)))⟩
 }
 }
 }
 }
 }
theorem c_value_Rows  {W0 : Bse} {m : M} {w : World} {L : List (Nat × List Value)} {TL : List (Nat × Value)} (hS : S W0 m w (L) (TL)) {v0 : Value} {p0 : (List Ap)} (ha0 : RV (kSl kAp) m v0 p0) {v1 : Value} {p1 : (List Ap)} (ha1 : RV (kSl kAp) m v1 p1) {r : Int} (h : value_Rows p0 p1 = some r) :
    Calls Try.prog 21 [v0, v1].toArray w (Ret fun v w' => ∃ m', M.le m m' ∧ S W0 m' w' (L) (TL) ∧ RV (kInt .i64) m' v r) := by
 refine kcall Try.func21 rfl Try.ntmps21 (Nat.le_of_ble_eq_true rfl) fun a hE => ?_
 have hE : Env 33 a [(0, v0), (1, v1)] := hE
 unfold value_Rows at h
 refine kseq (kreg ?_)
 refine qa hE rfl rfl fun a hE => ?_
 refine knil (kseq (kseq (kreg ?_)))
 refine qm hE rfl rfl fun a hE => ?_
 refine sp hE (r_lenSl (k := kAp) hE rfl rfl Try.underlying29 ha0) rfl fun a hE => ?_
 refine qm hE rfl rfl fun a hE => ?_
 refine sp hE (r_lenSl (k := kAp) hE rfl rfl Try.underlying29 ha1) rfl fun a hE => ?_
 refine sp hE (r_min2 hE rfl rfl) rfl fun a hE => ?_
 refine qm hE rfl rfl fun a hE => ?_
 refine knil ?_
 refine kcut (fun a w => value_Rows_j1 p0 p1 = some r ∧ ∃ m', M.le m m' ∧ S W0 m' w (L) (TL) ∧ Env 33 a [(0, v0), (1, v1)]) ?_ ?_
 {
 refine kblock ?_
 refine kloop h (fun (s : Int) a w => ∃ m', M.le m m' ∧ inR .i64 s ∧ S W0 m' w (L) (TL) ∧ Env 33 a [(0, v0), (1, v1), (11, (.int .i64 (if (p1.length : Int) < (p0.length : Int) then (p1.length : Int) else (p0.length : Int)))), (12, (.int .i64 s))]) ?_ ?_
 {
 exact ⟨_, (M.le.refl _), (show inR .i64 0 from inR_lit (by decide)), hS, hE.cut ⟨rfl, rfl, rfl, rfl, trivial⟩⟩
 }
 {
 rintro x25 a w ⟨m23, hm24, hr26, hS, hE⟩ r27 h hb28
 have h : value_Rows_b1 p0 p1 x25 = some r27 := h
 unfold value_Rows_b1 at h
 refine kseq (kreg ?_)
 refine sp hE (r_bin hE rfl rfl b_lss) rfl fun a hE => ?_
 refine knil (kseq ?_)
 refine kif hE rfl (fun hd30 => ?_) (fun hd30 => ?_)
 {
 have h := ite_T hd30 h
 refine kskip (kseq (kblock (kseq (kreg ?_))))
 refine qm hE rfl rfl fun a hE => ?_
 refine qa hE rfl rfl fun a hE => ?_
 refine knil (kseq ?_)
 obtain ⟨x33, hx34, h⟩ := ob h
 obtain ⟨x37, hx38, h⟩ := ob h
 refine kchain (k := 8) (m := m23) (es := []) (Φ := (fun i m ws v => match i with | 0 => v = v0 | 1 => v = (.int .i64 x25) ∧ inR .i64 x25 | 2 => PR kAp m v x33 | 3 => RV kAp m v x33 | 4 => v = v1 | 5 => v = (.int .i64 x25) ∧ inR .i64 x25 | 6 => PR kAp m v x37 | 7 => RV kAp m v x37 | _ => True)) (Q := (fun c m ws L' TL' => match c with | 0 => L = L' ∧ TL = TL' | _ => False)) (cs := [⟨0, 0, false, [(0, v0)]⟩, ⟨0, 0, false, [(5, (.int .i64 x25))]⟩, ⟨0, 0, false, []⟩, ⟨0, 0, false, []⟩, ⟨0, 0, false, [(1, v1)]⟩, ⟨0, 0, false, [(5, (.int .i64 x25))]⟩, ⟨0, 0, false, []⟩, ⟨0, 0, false, []⟩]) mixed hE hS ⟨rfl, rfl⟩ rfl rfl ⟨⟨rfl, trivial⟩, ⟨rfl, trivial⟩, trivial, trivial, ⟨rfl, trivial⟩, ⟨rfl, trivial⟩, trivial, trivial, trivial⟩ (by kernel_rfl) ?_ ?_ ?_ ?_
 {
 intro i m_ m2_ ws v hm_ hp_
 match i, hp_ with
 | 0, hp_ => exact hp_
 | 1, hp_ => exact hp_
 | 2, hp_ => exact PR.mono hp_ hm_
 | 3, hp_ => exact RV.mono hp_ hm_
 | 4, hp_ => exact hp_
 | 5, hp_ => exact hp_
 | 6, hp_ => exact PR.mono hp_ hm_
 | 7, hp_ => exact RV.mono hp_ hm_
 | _ + 8, hp_ => exact trivial
 }
 {
 intro c m_ m2_ ws L_ T_ hm_ hq_
 match c, hq_ with
 | 0, ⟨e1_, e2_⟩ => exact ⟨e1_, e2_⟩
 | _ + 1, hq_ => exact hq_.elim
 }
 {
 refine ⟨?_, ?_, ?_, ?_, ?_, ?_, ?_, ?_, trivial⟩
 {
 refine cplain fun pre_ post_ L_ T_ m' a' w' hl' hp' hm' hq' hS' hE' hT' => ?_
 obtain rfl := len0 hl'
 refine Step.imp (Run1.pure (r_move hE' rfl)) ?_
 rintro _ _ ⟨rfl, rfl⟩
 exact ⟨_, M.le.refl _, hS', rfl⟩
 }
 {
 refine cplain fun pre_ post_ L_ T_ m' a' w' hl' hp' hm' hq' hS' hE' hT' => ?_
 obtain rfl := len0 hl'
 refine Step.imp (Run1.pure (r_move hE' rfl)) ?_
 rintro _ _ ⟨rfl, rfl⟩
 exact ⟨_, M.le.refl _, hS', ⟨rfl, hr26⟩⟩
 }
 {
 refine cplain fun pre_ post_ L_ T_ m' a' w' hl' hp' hm' hq' hS' hE' hT' => ?_
 obtain rfl := len0 hl'
 obtain ⟨v43, e44, q45⟩ : ∃ v, a'.tmps.getD 15 undef = v ∧ (v = v0) := ⟨_, rfl, hT' 0 (by decide) 15 rfl⟩
 have hE := hE'.add (e44.trans q45)
 obtain ⟨v46, e47, q48⟩ : ∃ v, a'.tmps.getD 16 undef = v ∧ (v = (.int .i64 x25) ∧ inR .i64 x25) := ⟨_, rfl, hT' 1 (by decide) 16 rfl⟩
 obtain ⟨q48, hr49⟩ := q48
 have hE := hE.add (e47.trans q48)
 refine Step.imp (st_index (k := kAp) hE rfl rfl Try.underlying29 Try.sizeOf38 (ha0.mono (M.le.trans hm24 hm')) hx34) ?_
 rintro v50 _ ⟨rfl, hp35⟩
 exact ⟨_, M.le.refl _, hS', hp35⟩
 }
 {
 refine cplain fun pre_ post_ L_ T_ m' a' w' hl' hp' hm' hq' hS' hE' hT' => ?_
 obtain rfl := len0 hl'
 obtain ⟨v51, e52, q53⟩ : ∃ v, a'.tmps.getD 17 undef = v ∧ (PR kAp m' v x33) := ⟨_, rfl, hT' 2 (by decide) 17 rfl⟩
 have hE := hE'.add (e52)
 refine Step.imp (st_loadM hE hS' ty38 rfl q53) ?_
 rintro v54 _ ⟨rfl, hv36⟩
 exact ⟨_, M.le.refl _, hS', hv36⟩
 }
 {
 refine cplain fun pre_ post_ L_ T_ m' a' w' hl' hp' hm' hq' hS' hE' hT' => ?_
 obtain rfl := len0 hl'
 refine Step.imp (Run1.pure (r_move hE' rfl)) ?_
 rintro _ _ ⟨rfl, rfl⟩
 exact ⟨_, M.le.refl _, hS', rfl⟩
 }
 {
 refine cplain fun pre_ post_ L_ T_ m' a' w' hl' hp' hm' hq' hS' hE' hT' => ?_
 obtain rfl := len0 hl'
 refine Step.imp (Run1.pure (r_move hE' rfl)) ?_
 rintro _ _ ⟨rfl, rfl⟩
 exact ⟨_, M.le.refl _, hS', ⟨rfl, hr26⟩⟩
 }
 {
 refine cplain fun pre_ post_ L_ T_ m' a' w' hl' hp' hm' hq' hS' hE' hT' => ?_
 obtain rfl := len0 hl'
 obtain ⟨v57, e58, q59⟩ : ∃ v, a'.tmps.getD 19 undef = v ∧ (v = v1) := ⟨_, rfl, hT' 4 (by decide) 19 rfl⟩
 have hE := hE'.add (e58.trans q59)
 obtain ⟨v60, e61, q62⟩ : ∃ v, a'.tmps.getD 20 undef = v ∧ (v = (.int .i64 x25) ∧ inR .i64 x25) := ⟨_, rfl, hT' 5 (by decide) 20 rfl⟩
 obtain ⟨q62, hr63⟩ := q62
 have hE := hE.add (e61.trans q62)
 refine Step.imp (st_index (k := kAp) hE rfl rfl Try.underlying29 Try.sizeOf38 (ha1.mono (M.le.trans hm24 hm')) hx38) ?_
 rintro v64 _ ⟨rfl, hp39⟩
 exact ⟨_, M.le.refl _, hS', hp39⟩
 }
 {
 refine cplain fun pre_ post_ L_ T_ m' a' w' hl' hp' hm' hq' hS' hE' hT' => ?_
 obtain rfl := len0 hl'
 obtain ⟨v65, e66, q67⟩ : ∃ v, a'.tmps.getD 21 undef = v ∧ (PR kAp m' v x37) := ⟨_, rfl, hT' 6 (by decide) 21 rfl⟩
 have hE := hE'.add (e66)
 refine Step.imp (st_loadM hE hS' ty38 rfl q67) ?_
 rintro v68 _ ⟨rfl, hv40⟩
 exact ⟨_, M.le.refl _, hS', hv40⟩
 }
 }
 {
 intro ws_ L_ T_ m69 a w hl70 hm71 hq72 hS hd73 hn74 ho75 hT76
 obtain rfl := len0 hl70
 obtain ⟨rfl, rfl⟩ := hq72
 have hE := EnvD.of (k := 8) (l' := [(0, v0), (1, v1), (5, (.int .i64 x25)), (11, (.int .i64 (if (p1.length : Int) < (p0.length : Int) then (p1.length : Int) else (p0.length : Int)))), (12, (.int .i64 x25)), (13, (.bool (decide (x25 < (if (p1.length : Int) < (p0.length : Int) then (p1.length : Int) else (p0.length : Int)))))), (14, (.int .i64 x25))]) hd73 hn74 ho75 ⟨rfl, rfl, rfl, rfl, rfl, rfl, rfl, trivial⟩ rfl
 obtain ⟨v77, e78, q79⟩ : ∃ v, a.tmps.getD 18 undef = v ∧ (RV kAp m69 v x33) := ⟨_, rfl, hT76 3 (by decide) 18 rfl⟩
 have hE := hE.add (e78)
 obtain ⟨v80, e81, q82⟩ : ∃ v, a.tmps.getD 22 undef = v ∧ (RV kAp m69 v x37) := ⟨_, rfl, hT76 7 (by decide) 22 rfl⟩
 have hE := hE.add (e81)
 obtain ⟨r83, hr84, h⟩ := ob h
 refine st hE (st_call (vs := [v77, v80]) hE rfl Try.call27 (c_value_Compare (hS := hS) q79 q82 hr84)) rfl ?_
 rintro v88 a w ⟨m85, hm86, hS, hv87⟩ hE
 obtain ⟨rfl, hr89⟩ := RV_int hv87
 refine qa hE rfl rfl fun a hE => ?_
 refine knil (kseq (kreg ?_))
 refine qm hE rfl rfl fun a hE => ?_
 refine sp hE (r_bin hE rfl rfl b_neq) rfl fun a hE => ?_
 refine knil ?_
 refine kif hE rfl (fun hd93 => ?_) (fun hd93 => ?_)
 {
 have h := ite_T hd93 h
 refine kseq (kreg ?_)
 refine qm hE rfl rfl fun a hE => ?_
 refine qa hE rfl rfl fun a hE => ?_
 refine knil (kret ?_)
 have h := unwrap h hb28
 obtain rfl := oi h
 try dsimp only
 refine Fin.mk hE (rs := [.tmp 4]) rfl (ResL.tmp hE rfl ResL.nil) ?_
 exact ⟨_, (M.le.trans hm24 (M.le.trans hm71 hm86)), hS, (RV_of_int hr89)⟩
 }
 {
 have h := ite_F hd93 h
 refine kskip (kreg ?_)
 refine sp hE (r_bin hE rfl rfl (b_add rfl)) rfl fun a hE => ?_
 refine qm hE rfl rfl fun a hE => ?_
 refine knil ?_
 exact ⟨IntKind.i64.wrap (x25 + 1), (Option.some.inj h).symm, _, (M.le.trans hm24 (M.le.trans hm71 hm86)), (inR_wrap _ _), hS, hE.cut ⟨rfl, rfl, rfl, rfl, trivial⟩⟩
 }
 }
 }
 {
 have h := ite_F hd30 h
 refine kexit rfl rfl ?_
 have h := unwrap h hb28
 exact ⟨h, _, hm24, hS, hE.cut ⟨rfl, rfl, trivial⟩⟩
 }
 }
 }
 {
 rintro a w ⟨h, m8, hm9, hS, hE⟩
 unfold value_Rows_j1 at h
 refine kseq (kreg ?_)
 refine qm hE rfl rfl fun a hE => ?_
 refine sp hE (r_lenSl (k := kAp) hE rfl rfl Try.underlying29 (ha0.mono hm9)) rfl fun a hE => ?_
 refine qm hE rfl rfl fun a hE => ?_
 refine sp hE (r_lenSl (k := kAp) hE rfl rfl Try.underlying29 (ha1.mono hm9)) rfl fun a hE => ?_
 obtain ⟨r15, hr16, h⟩ := ob h
 refine st hE (st_call (vs := [(.int .i64 (p0.length : Int)), (.int .i64 (p1.length : Int))]) hE rfl Try.call28 (c_cmp_Compare_int (hS := hS) (inR_len (RV_len (ha0.mono hm9))) (inR_len (RV_len (ha1.mono hm9))) hr16)) rfl ?_
 rintro v20 a w ⟨m17, hm18, hS, hv19⟩ hE
 obtain ⟨rfl, hr21⟩ := RV_int hv19
 refine qa hE rfl rfl fun a hE => ?_
 refine knil (kret ?_)
 obtain rfl := oi h
 try dsimp only
 refine Fin.mk hE (rs := [.tmp 4]) rfl (ResL.tmp hE rfl ResL.nil) ?_
 exact ⟨_, (M.le.trans hm9 hm18), hS, (RV_of_int hr21)⟩
 }
theorem c_cmp_isNaN_uint64  {W0 : Bse} {m : M} {w : World} {L : List (Nat × List Value)} {TL : List (Nat × Value)} (hS : S W0 m w (L) (TL)) {p0 : Int} (ha0 : inR .u64 p0) {r : Bool} (h : cmp_isNaN_uint64 p0 = some r) :
    Calls Try.prog 40 [(.int .u64 p0)].toArray w (Ret fun v w' => ∃ m', M.le m m' ∧ S W0 m' w' (L) (TL) ∧ RV kBool m' v r) := by
 refine kcall Try.func40 rfl Try.ntmps40 (Nat.le_of_ble_eq_true rfl) fun a hE => ?_
 have hE : Env 6 a [(0, (.int .u64 p0))] := hE
 unfold cmp_isNaN_uint64 at h
 refine kseq (kreg ?_)
 refine qa hE rfl rfl fun a hE => ?_
 refine knil (kseq (kreg ?_))
 refine qm hE rfl rfl fun a hE => ?_
 refine qm hE rfl rfl fun a hE => ?_
 refine sp hE (r_bin hE rfl rfl b_neq) rfl fun a hE => ?_
 refine qa hE rfl rfl fun a hE => ?_
 refine knil (kret ?_)
 obtain rfl := oi h
 try dsimp only
 refine Fin.mk hE (rs := [.tmp 2]) rfl (ResL.tmp hE rfl ResL.nil) ?_
 exact ⟨_, (M.le.refl _), hS, RV_of_bool⟩
theorem c_cmp_Compare_uint64  {W0 : Bse} {m : M} {w : World} {L : List (Nat × List Value)} {TL : List (Nat × Value)} (hS : S W0 m w (L) (TL)) {p0 : Int} (ha0 : inR .u64 p0) {p1 : Int} (ha1 : inR .u64 p1) {r : Int} (h : cmp_Compare_uint64 p0 p1 = some r) :
    Calls Try.prog 30 [(.int .u64 p0), (.int .u64 p1)].toArray w (Ret fun v w' => ∃ m', M.le m m' ∧ S W0 m' w' (L) (TL) ∧ RV (kInt .i64) m' v r) := by
 refine kcall Try.func30 rfl Try.ntmps30 (Nat.le_of_ble_eq_true rfl) fun a hE => ?_
 have hE : Env 20 a [(0, (.int .u64 p0)), (1, (.int .u64 p1))] := hE
 unfold cmp_Compare_uint64 at h
 refine kseq (kreg ?_)
 refine qa hE rfl rfl fun a hE => ?_
 refine knil (kseq (kreg ?_))
 refine qm hE rfl rfl fun a hE => ?_
 obtain ⟨r3, hr4, h⟩ := ob h
 refine st hE (st_call (vs := [(.int .u64 p0)]) hE rfl Try.call40 (c_cmp_isNaN_uint64 (hS := hS) ha0 hr4)) rfl ?_
 rintro v8 a w ⟨m5, hm6, hS, hv7⟩ hE
 obtain rfl := RV_bool hv7
 refine qa hE rfl rfl fun a hE => ?_
 refine knil (kseq (kreg ?_))
 refine qm hE rfl rfl fun a hE => ?_
 obtain ⟨r11, hr12, h⟩ := ob h
 refine st hE (st_call (vs := [(.int .u64 p1)]) hE rfl Try.call40 (c_cmp_isNaN_uint64 (hS := hS) ha1 hr12)) rfl ?_
 rintro v16 a w ⟨m13, hm14, hS, hv15⟩ hE
 obtain rfl := RV_bool hv15
 refine qa hE rfl rfl fun a hE => ?_
 refine knil (kseq (kseq (kreg ?_)))
 refine qm hE rfl rfl fun a hE => ?_
 refine knil ?_
 refine kif hE rfl (fun hd19 => ?_) (fun hd19 => ?_)
 {
 have h := ite_T hd19 h
 refine kseq (kseq (kreg ?_))
 refine qm hE rfl rfl fun a hE => ?_
 refine knil ?_
 refine kif hE rfl (fun hd21 => ?_) (fun hd21 => ?_)
 {
 have h := ite_T hd21 h
 refine kseq (kreg ?_)
 refine qa hE rfl rfl fun a hE => ?_
 refine knil (kret ?_)
 obtain rfl := oi h
 try dsimp only
 refine Fin.mk hE (rs := [.tmp 4]) rfl (ResL.tmp hE rfl ResL.nil) ?_
 exact ⟨_, (M.le.trans hm6 hm14), hS, (RV_of_int (show inR .i64 0 from inR_lit (by decide)))⟩
 }
 {
 have h := ite_F hd21 h
 refine kskip (kseq (kreg ?_))
 refine qa hE rfl rfl fun a hE => ?_
 refine knil (kret ?_)
 obtain rfl := oi h
 try dsimp only
 refine Fin.mk hE (rs := [.tmp 4]) rfl (ResL.tmp hE rfl ResL.nil) ?_
 exact ⟨_, (M.le.trans hm6 hm14), hS, (RV_of_int (show inR .i64 (-1) from inR_lit (by decide)))⟩
 }
 }
 {
 have h := ite_F hd19 h
 refine kskip (kseq (kseq (kreg ?_)))
 refine qm hE rfl rfl fun a hE => ?_
 refine knil ?_
 refine kif hE rfl (fun hd25 => ?_) (fun hd25 => ?_)
 {
 have h := ite_T hd25 h
 refine kseq (kreg ?_)
 refine qa hE rfl rfl fun a hE => ?_
 refine knil (kret ?_)
 obtain rfl := oi h
 try dsimp only
 refine Fin.mk hE (rs := [.tmp 4]) rfl (ResL.tmp hE rfl ResL.nil) ?_
 exact ⟨_, (M.le.trans hm6 hm14), hS, (RV_of_int (show inR .i64 1 from inR_lit (by decide)))⟩
 }
 {
 have h := ite_F hd25 h
 refine kskip (kseq (kseq (kreg ?_)))
 refine qm hE rfl rfl fun a hE => ?_
 refine qm hE rfl rfl fun a hE => ?_
 refine sp hE (r_bin hE rfl rfl b_lss) rfl fun a hE => ?_
 refine knil ?_
 refine kif hE rfl (fun hd30 => ?_) (fun hd30 => ?_)
 {
 have h := ite_T hd30 h
 refine kseq (kreg ?_)
 refine qa hE rfl rfl fun a hE => ?_
 refine knil (kret ?_)
 obtain rfl := oi h
 try dsimp only
 refine Fin.mk hE (rs := [.tmp 4]) rfl (ResL.tmp hE rfl ResL.nil) ?_
 exact ⟨_, (M.le.trans hm6 hm14), hS, (RV_of_int (show inR .i64 (-1) from inR_lit (by decide)))⟩
 }
 {
 have h := ite_F hd30 h
 refine kskip (kseq (kseq (kreg ?_)))
 refine qm hE rfl rfl fun a hE => ?_
 refine qm hE rfl rfl fun a hE => ?_
 refine sp hE (r_bin hE rfl rfl b_gtr) rfl fun a hE => ?_
 refine knil ?_
 refine kif hE rfl (fun hd35 => ?_) (fun hd35 => ?_)
 {
 have h := ite_T hd35 h
 refine kseq (kreg ?_)
 refine qa hE rfl rfl fun a hE => ?_
 refine knil (kret ?_)
 obtain rfl := oi h
 try dsimp only
 refine Fin.mk hE (rs := [.tmp 4]) rfl (ResL.tmp hE rfl ResL.nil) ?_
 exact ⟨_, (M.le.trans hm6 hm14), hS, (RV_of_int (show inR .i64 1 from inR_lit (by decide)))⟩
 }
 {
 have h := ite_F hd35 h
 refine kskip (kseq (kreg ?_))
 refine qa hE rfl rfl fun a hE => ?_
 refine knil (kret ?_)
 obtain rfl := oi h
 try dsimp only
 refine Fin.mk hE (rs := [.tmp 4]) rfl (ResL.tmp hE rfl ResL.nil) ?_
 exact ⟨_, (M.le.trans hm6 hm14), hS, (RV_of_int (show inR .i64 0 from inR_lit (by decide)))⟩
 }
 }
 }
 }
theorem c_cmp_isNaN_uint32  {W0 : Bse} {m : M} {w : World} {L : List (Nat × List Value)} {TL : List (Nat × Value)} (hS : S W0 m w (L) (TL)) {p0 : Int} (ha0 : inR .u32 p0) {r : Bool} (h : cmp_isNaN_uint32 p0 = some r) :
    Calls Try.prog 41 [(.int .u32 p0)].toArray w (Ret fun v w' => ∃ m', M.le m m' ∧ S W0 m' w' (L) (TL) ∧ RV kBool m' v r) := by
 refine kcall Try.func41 rfl Try.ntmps41 (Nat.le_of_ble_eq_true rfl) fun a hE => ?_
 have hE : Env 6 a [(0, (.int .u32 p0))] := hE
 unfold cmp_isNaN_uint32 at h
 refine kseq (kreg ?_)
 refine qa hE rfl rfl fun a hE => ?_
 refine knil (kseq (kreg ?_))
 refine qm hE rfl rfl fun a hE => ?_
 refine qm hE rfl rfl fun a hE => ?_
 refine sp hE (r_bin hE rfl rfl b_neq) rfl fun a hE => ?_
 refine qa hE rfl rfl fun a hE => ?_
 refine knil (kret ?_)
 obtain rfl := oi h
 try dsimp only
 refine Fin.mk hE (rs := [.tmp 2]) rfl (ResL.tmp hE rfl ResL.nil) ?_
 exact ⟨_, (M.le.refl _), hS, RV_of_bool⟩
theorem c_cmp_Compare_uint32  {W0 : Bse} {m : M} {w : World} {L : List (Nat × List Value)} {TL : List (Nat × Value)} (hS : S W0 m w (L) (TL)) {p0 : Int} (ha0 : inR .u32 p0) {p1 : Int} (ha1 : inR .u32 p1) {r : Int} (h : cmp_Compare_uint32 p0 p1 = some r) :
    Calls Try.prog 31 [(.int .u32 p0), (.int .u32 p1)].toArray w (Ret fun v w' => ∃ m', M.le m m' ∧ S W0 m' w' (L) (TL) ∧ RV (kInt .i64) m' v r) := by
 refine kcall Try.func31 rfl Try.ntmps31 (Nat.le_of_ble_eq_true rfl) fun a hE => ?_
 have hE : Env 20 a [(0, (.int .u32 p0)), (1, (.int .u32 p1))] := hE
 unfold cmp_Compare_uint32 at h
 refine kseq (kreg ?_)
 refine qa hE rfl rfl fun a hE => ?_
 refine knil (kseq (kreg ?_))
 refine qm hE rfl rfl fun a hE => ?_
 obtain ⟨r3, hr4, h⟩ := ob h
 refine st hE (st_call (vs := [(.int .u32 p0)]) hE rfl Try.call41 (c_cmp_isNaN_uint32 (hS := hS) ha0 hr4)) rfl ?_
 rintro v8 a w ⟨m5, hm6, hS, hv7⟩ hE
 obtain rfl := RV_bool hv7
 refine qa hE rfl rfl fun a hE => ?_
 refine knil (kseq (kreg ?_))
 refine qm hE rfl rfl fun a hE => ?_
 obtain ⟨r11, hr12, h⟩ := ob h
 refine st hE (st_call (vs := [(.int .u32 p1)]) hE rfl Try.call41 (c_cmp_isNaN_uint32 (hS := hS) ha1 hr12)) rfl ?_
 rintro v16 a w ⟨m13, hm14, hS, hv15⟩ hE
 obtain rfl := RV_bool hv15
 refine qa hE rfl rfl fun a hE => ?_
 refine knil (kseq (kseq (kreg ?_)))
 refine qm hE rfl rfl fun a hE => ?_
 refine knil ?_
 refine kif hE rfl (fun hd19 => ?_) (fun hd19 => ?_)
 {
 have h := ite_T hd19 h
 refine kseq (kseq (kreg ?_))
 refine qm hE rfl rfl fun a hE => ?_
 refine knil ?_
 refine kif hE rfl (fun hd21 => ?_) (fun hd21 => ?_)
 {
 have h := ite_T hd21 h
 refine kseq (kreg ?_)
 refine qa hE rfl rfl fun a hE => ?_
 refine knil (kret ?_)
 obtain rfl := oi h
 try dsimp only
 refine Fin.mk hE (rs := [.tmp 4]) rfl (ResL.tmp hE rfl ResL.nil) ?_
 exact ⟨_, (M.le.trans hm6 hm14), hS, (RV_of_int (show inR .i64 0 from inR_lit (by decide)))⟩
 }
 {
 have h := ite_F hd21 h
 refine kskip (kseq (kreg ?_))
 refine qa hE rfl rfl fun a hE => ?_
 refine knil (kret ?_)
 obtain rfl := oi h
 try dsimp only
 refine Fin.mk hE (rs := [.tmp 4]) rfl (ResL.tmp hE rfl ResL.nil) ?_
 exact ⟨_, (M.le.trans hm6 hm14), hS, (RV_of_int (show inR .i64 (-1) from inR_lit (by decide)))⟩
 }
 }
 {
 have h := ite_F hd19 h
 refine kskip (kseq (kseq (kreg ?_)))
 refine qm hE rfl rfl fun a hE => ?_
 refine knil ?_
 refine kif hE rfl (fun hd25 => ?_) (fun hd25 => ?_)
 {
 have h := ite_T hd25 h
 refine kseq (kreg ?_)
 refine qa hE rfl rfl fun a hE => ?_
 refine knil (kret ?_)
 obtain rfl := oi h
 try dsimp only
 refine Fin.mk hE (rs := [.tmp 4]) rfl (ResL.tmp hE rfl ResL.nil) ?_
 exact ⟨_, (M.le.trans hm6 hm14), hS, (RV_of_int (show inR .i64 1 from inR_lit (by decide)))⟩
 }
 {
 have h := ite_F hd25 h
 refine kskip (kseq (kseq (kreg ?_)))
 refine qm hE rfl rfl fun a hE => ?_
 refine qm hE rfl rfl fun a hE => ?_
 refine sp hE (r_bin hE rfl rfl b_lss) rfl fun a hE => ?_
 refine knil ?_
 refine kif hE rfl (fun hd30 => ?_) (fun hd30 => ?_)
 {
 have h := ite_T hd30 h
 refine kseq (kreg ?_)
 refine qa hE rfl rfl fun a hE => ?_
 refine knil (kret ?_)
 obtain rfl := oi h
 try dsimp only
 refine Fin.mk hE (rs := [.tmp 4]) rfl (ResL.tmp hE rfl ResL.nil) ?_
 exact ⟨_, (M.le.trans hm6 hm14), hS, (RV_of_int (show inR .i64 (-1) from inR_lit (by decide)))⟩
 }
 {
 have h := ite_F hd30 h
 refine kskip (kseq (kseq (kreg ?_)))
 refine qm hE rfl rfl fun a hE => ?_
 refine qm hE rfl rfl fun a hE => ?_
 refine sp hE (r_bin hE rfl rfl b_gtr) rfl fun a hE => ?_
 refine knil ?_
 refine kif hE rfl (fun hd35 => ?_) (fun hd35 => ?_)
 {
 have h := ite_T hd35 h
 refine kseq (kreg ?_)
 refine qa hE rfl rfl fun a hE => ?_
 refine knil (kret ?_)
 obtain rfl := oi h
 try dsimp only
 refine Fin.mk hE (rs := [.tmp 4]) rfl (ResL.tmp hE rfl ResL.nil) ?_
 exact ⟨_, (M.le.trans hm6 hm14), hS, (RV_of_int (show inR .i64 1 from inR_lit (by decide)))⟩
 }
 {
 have h := ite_F hd35 h
 refine kskip (kseq (kreg ?_))
 refine qa hE rfl rfl fun a hE => ?_
 refine knil (kret ?_)
 obtain rfl := oi h
 try dsimp only
 refine Fin.mk hE (rs := [.tmp 4]) rfl (ResL.tmp hE rfl ResL.nil) ?_
 exact ⟨_, (M.le.trans hm6 hm14), hS, (RV_of_int (show inR .i64 0 from inR_lit (by decide)))⟩
 }
 }
 }
 }
theorem c_cmp_Or_int  {W0 : Bse} {m : M} {w : World} {L : List (Nat × List Value)} {TL : List (Nat × Value)} (hS : S W0 m w (L) (TL)) {v0 : Value} {p0 : (List Int)} (ha0 : RV (kSl (kInt .i64)) m v0 p0) {r : Int} (h : cmp_Or_int p0 = some r) :
    Calls Try.prog 20 [v0].toArray w (Ret fun v w' => ∃ m', M.le m m' ∧ S W0 m' w' (L) (TL) ∧ RV (kInt .i64) m' v r) := by
 refine kcall Try.func20 rfl Try.ntmps20 (Nat.le_of_ble_eq_true rfl) fun a hE => ?_
 have hE : Env 18 a [(0, v0)] := hE
 unfold cmp_Or_int at h
 refine kseq (kreg ?_)
 refine qa hE rfl rfl fun a hE => ?_
 refine knil (kseq (kreg ?_))
 refine qa hE rfl rfl fun a hE => ?_
 refine knil (kseq (kseq (kreg ?_)))
 refine qm hE rfl rfl fun a hE => ?_
 refine sp hE (r_lenSl (k := (kInt .i64)) hE rfl rfl Try.underlying22 ha0) rfl fun a hE => ?_
 refine qm hE rfl rfl fun a hE => ?_
 refine knil ?_
 refine kcut (fun a w => cmp_Or_int_j1 = some r ∧ ∃ m', M.le m m' ∧ S W0 m' w (L) (TL) ∧ Env 18 a [(3, (.int .i64 0))]) ?_ ?_
 {
 refine kblock ?_
 refine kloop h (fun (s : Int) a w => ∃ m', M.le m m' ∧ inR .i64 s ∧ S W0 m' w (L) (TL) ∧ Env 18 a [(3, (.int .i64 0)), (6, v0), (7, (.int .i64 (p0.length : Int))), (8, (.int .i64 s))]) ?_ ?_
 {
 exact ⟨_, (M.le.refl _), (show inR .i64 0 from inR_lit (by decide)), hS, hE.cut ⟨rfl, rfl, rfl, rfl, trivial⟩⟩
 }
 {
 rintro x13 a w ⟨m11, hm12, hr14, hS, hE⟩ r15 h hb16
 have h : cmp_Or_int_b1 p0 x13 = some r15 := h
 unfold cmp_Or_int_b1 at h
 refine kseq (kreg ?_)
 refine sp hE (r_bin hE rfl rfl b_lss) rfl fun a hE => ?_
 refine knil (kseq ?_)
 refine kif hE rfl (fun hd18 => ?_) (fun hd18 => ?_)
 {
 have h := ite_T hd18 h
 refine kskip (kseq (kblock (kseq (kreg ?_))))
 obtain ⟨x19, hx20, h⟩ := ob h
 refine st hE (st_index (k := (kInt .i64)) hE rfl rfl Try.underlying22 Try.sizeOf3 (ha0.mono hm12) hx20) rfl ?_
 rintro v22 a _ ⟨rfl, hp21⟩ hE
 refine st hE (st_loadM hE hS ty3 rfl hp21) rfl ?_
 rintro v24 a _ ⟨rfl, hv23⟩ hE
 obtain ⟨rfl, hr25⟩ := RV_int hv23
 refine qa hE rfl rfl fun a hE => ?_
 refine knil (kseq (kreg ?_))
 refine qm hE rfl rfl fun a hE => ?_
 refine qm hE rfl rfl fun a hE => ?_
 refine sp hE (r_bin hE rfl rfl b_neq) rfl fun a hE => ?_
 refine knil ?_
 refine kif hE rfl (fun hd30 => ?_) (fun hd30 => ?_)
 {
 have h := ite_T hd30 h
 refine kseq (kreg ?_)
 refine qm hE rfl rfl fun a hE => ?_
 refine qa hE rfl rfl fun a hE => ?_
 refine knil (kret ?_)
 have h := unwrap h hb16
 obtain rfl := oi h
 try dsimp only
 refine Fin.mk hE (rs := [.tmp 2]) rfl (ResL.tmp hE rfl ResL.nil) ?_
 exact ⟨_, hm12, hS, (RV_of_int hr25)⟩
 }
 {
 have h := ite_F hd30 h
 refine kskip (kreg ?_)
 refine sp hE (r_bin hE rfl rfl (b_add rfl)) rfl fun a hE => ?_
 refine qm hE rfl rfl fun a hE => ?_
 refine knil ?_
 exact ⟨IntKind.i64.wrap (x13 + 1), (Option.some.inj h).symm, _, hm12, (inR_wrap _ _), hS, hE.cut ⟨rfl, rfl, rfl, rfl, trivial⟩⟩
 }
 }
 {
 have h := ite_F hd18 h
 refine kexit rfl rfl ?_
 have h := unwrap h hb16
 exact ⟨h, _, hm12, hS, hE.cut ⟨rfl, trivial⟩⟩
 }
 }
 }
 {
 rintro a w ⟨h, m6, hm7, hS, hE⟩
 unfold cmp_Or_int_j1 at h
 refine kseq (kreg ?_)
 refine qm hE rfl rfl fun a hE => ?_
 refine qa hE rfl rfl fun a hE => ?_
 refine knil (kret ?_)
 obtain rfl := oi h
 try dsimp only
 refine Fin.mk hE (rs := [.tmp 2]) rfl (ResL.tmp hE rfl ResL.nil) ?_
 exact ⟨_, hm7, hS, (RV_of_int (show inR .i64 0 from inR_lit (by decide)))⟩
 }
theorem c_rosfile_order  {W0 : Bse} {m : M} {w : World} {L : List (Nat × List Value)} {TL : List (Nat × Value)} (hS : S W0 m w (L) (TL)) {v0 : Value} {p0 : Api_RowId} (ha0 : RV kApi_RowId m v0 p0) {v1 : Value} {p1 : Api_RowId} (ha1 : RV kApi_RowId m v1 p1) {r : Int} (h : rosfile_order p0 p1 = some r) :
    Calls Try.prog 23 [v0, v1].toArray w (Ret fun v w' => ∃ m', M.le m m' ∧ S W0 m' w' (L) (TL) ∧ RV (kInt .i64) m' v r) := by
 refine kcall Try.func23 rfl Try.ntmps23 (Nat.le_of_ble_eq_true rfl) fun a hE => ?_
 have hE : Env 17 a [(0, v0), (1, v1)] := hE
 unfold rosfile_order at h
 refine kseq (kreg ?_)
 refine st hE (st_box (k := kApi_RowId) hE hS rfl ha0) rfl ?_
 rintro _ a w ⟨b1, cs2, rfl, hc3, hS⟩ hE
 refine st hE (st_box (k := kApi_RowId) hE hS rfl ha1) rfl ?_
 rintro _ a w ⟨b5, cs6, rfl, hc7, hS⟩ hE
 refine qa hE rfl rfl fun a hE => ?_
 refine knil (kseq ?_)
 obtain ⟨r14, hr15, h⟩ := ob h
 refine kchain (k := 9) (m := m) (es := []) (Φ := (fun i m ws v => match i with | 0 => v = (.pointer (some ⟨b1, 0, none⟩)) | 1 => v = (.int .u64 p0.fEpoch) ∧ inR .u64 p0.fEpoch | 2 => v = (.pointer (some ⟨b5, 0, none⟩)) | 3 => v = (.int .u64 p1.fEpoch) ∧ inR .u64 p1.fEpoch | 4 => v = (.int .i64 r14) ∧ inR .i64 r14 | 5 => v = (.pointer (some ⟨b1, 1, none⟩)) | 6 => v = (.int .u32 p0.fNumber) ∧ inR .u32 p0.fNumber | 7 => v = (.pointer (some ⟨b5, 1, none⟩)) | 8 => v = (.int .u32 p1.fNumber) ∧ inR .u32 p1.fNumber | _ => True)) (Q := (fun c m ws L' TL' => match c with | 0 => (b5, cs6) :: (b1, cs2) :: L = L' ∧ TL = TL' | _ => False)) (cs := [⟨0, 0, false, [(2, (.pointer (some ⟨b1, 0, none⟩)))]⟩, ⟨0, 0, false, []⟩, ⟨0, 0, false, [(3, (.pointer (some ⟨b5, 0, none⟩)))]⟩, ⟨0, 0, false, []⟩, ⟨0, 0, false, []⟩, ⟨0, 0, false, [(2, (.pointer (some ⟨b1, 0, none⟩)))]⟩, ⟨0, 0, false, []⟩, ⟨0, 0, false, [(3, (.pointer (some ⟨b5, 0, none⟩)))]⟩, ⟨0, 0, false, []⟩]) mixed hE hS ⟨rfl, rfl⟩ rfl rfl ⟨⟨rfl, trivial⟩, trivial, ⟨rfl, trivial⟩, trivial, trivial, ⟨rfl, trivial⟩, trivial, ⟨rfl, trivial⟩, trivial, trivial⟩ (by kernel_rfl) ?_ ?_ ?_ ?_
 {
 intro i m_ m2_ ws v hm_ hp_
 match i, hp_ with
 | 0, hp_ => exact hp_
 | 1, hp_ => exact hp_
 | 2, hp_ => exact hp_
 | 3, hp_ => exact hp_
 | 4, hp_ => exact hp_
 | 5, hp_ => exact hp_
 | 6, hp_ => exact hp_
 | 7, hp_ => exact hp_
 | 8, hp_ => exact hp_
 | _ + 9, hp_ => exact trivial
 }
 {
 intro c m_ m2_ ws L_ T_ hm_ hq_
 match c, hq_ with
 | 0, ⟨e1_, e2_⟩ => exact ⟨e1_, e2_⟩
 | _ + 1, hq_ => exact hq_.elim
 }
 {
 refine ⟨?_, ?_, ?_, ?_, ?_, ?_, ?_, ?_, ?_, trivial⟩
 {
 refine cplain fun pre_ post_ L_ T_ m' a' w' hl' hp' hm' hq' hS' hE' hT' => ?_
 obtain rfl := len0 hl'
 refine Step.imp (Run1.pure (r_fieldL hE' fo28_0 rfl)) ?_
 rintro _ _ ⟨rfl, rfl⟩
 exact ⟨_, M.le.refl _, hS', rfl⟩
 }
 {
 refine cplain fun pre_ post_ L_ T_ m' a' w' hl' hp' hm' hq' hS' hE' hT' => ?_
 obtain rfl := len0 hl'
 obtain rfl := len0 (lenz (a := 0) hp')
 obtain ⟨rfl, rfl⟩ := hq'
 obtain ⟨v25, e26, q27⟩ : ∃ v, a'.tmps.getD 5 undef = v ∧ (v = (.pointer (some ⟨b1, 0, none⟩))) := ⟨_, rfl, hT' 0 (by decide) 5 rfl⟩
 have hE := hE'.add (e26.trans q27)
 refine Step.imp (st_loadL hE hS' ty24 rfl (i := 1) rfl (fl28_0.R_drop (R_whole (kApi_RowId.mono hm' hc3)))) ?_
 rintro v28 _ ⟨rfl, hv10⟩
 obtain ⟨rfl, hr29⟩ := RV_int hv10
 exact ⟨_, M.le.refl _, hS', ⟨rfl, hr29⟩⟩
 }
 {
 refine cplain fun pre_ post_ L_ T_ m' a' w' hl' hp' hm' hq' hS' hE' hT' => ?_
 obtain rfl := len0 hl'
 refine Step.imp (Run1.pure (r_fieldL hE' fo28_0 rfl)) ?_
 rintro _ _ ⟨rfl, rfl⟩
 exact ⟨_, M.le.refl _, hS', rfl⟩
 }
 {
 refine cplain fun pre_ post_ L_ T_ m' a' w' hl' hp' hm' hq' hS' hE' hT' => ?_
 obtain rfl := len0 hl'
 obtain rfl := len0 (lenz (a := 0) hp')
 obtain ⟨rfl, rfl⟩ := hq'
 obtain ⟨v31, e32, q33⟩ : ∃ v, a'.tmps.getD 7 undef = v ∧ (v = (.pointer (some ⟨b5, 0, none⟩))) := ⟨_, rfl, hT' 2 (by decide) 7 rfl⟩
 have hE := hE'.add (e32.trans q33)
 refine Step.imp (st_loadL hE hS' ty24 rfl (i := 0) rfl (fl28_0.R_drop (R_whole (kApi_RowId.mono hm' hc7)))) ?_
 rintro v34 _ ⟨rfl, hv12⟩
 obtain ⟨rfl, hr35⟩ := RV_int hv12
 exact ⟨_, M.le.refl _, hS', ⟨rfl, hr35⟩⟩
 }
 {
 refine cplain fun pre_ post_ L_ T_ m' a' w' hl' hp' hm' hq' hS' hE' hT' => ?_
 obtain rfl := len0 hl'
 obtain ⟨v36, e37, q38⟩ : ∃ v, a'.tmps.getD 6 undef = v ∧ (v = (.int .u64 p0.fEpoch) ∧ inR .u64 p0.fEpoch) := ⟨_, rfl, hT' 1 (by decide) 6 rfl⟩
 obtain ⟨q38, hr39⟩ := q38
 have hE := hE'.add (e37.trans q38)
 obtain ⟨v40, e41, q42⟩ : ∃ v, a'.tmps.getD 8 undef = v ∧ (v = (.int .u64 p1.fEpoch) ∧ inR .u64 p1.fEpoch) := ⟨_, rfl, hT' 3 (by decide) 8 rfl⟩
 obtain ⟨q42, hr43⟩ := q42
 have hE := hE.add (e41.trans q42)
 refine Step.imp (st_call (vs := [(.int .u64 p0.fEpoch), (.int .u64 p1.fEpoch)]) hE rfl Try.call30 (c_cmp_Compare_uint64 (hS := hS') hr39 hr43 hr15)) ?_
 rintro v44 w ⟨m16, hm17, hS, hv18⟩
 obtain ⟨rfl, hr45⟩ := RV_int hv18
 exact ⟨_, hm17, hS, ⟨rfl, hr45⟩⟩
 }
 {
 refine cplain fun pre_ post_ L_ T_ m' a' w' hl' hp' hm' hq' hS' hE' hT' => ?_
 obtain rfl := len0 hl'
 refine Step.imp (Run1.pure (r_fieldL hE' fo28_1 rfl)) ?_
 rintro _ _ ⟨rfl, rfl⟩
 exact ⟨_, M.le.refl _, hS', rfl⟩
 }
 {
 refine cplain fun pre_ post_ L_ T_ m' a' w' hl' hp' hm' hq' hS' hE' hT' => ?_
 obtain rfl := len0 hl'
 obtain rfl := len0 (lenz (a := 0) hp')
 obtain ⟨rfl, rfl⟩ := hq'
 obtain ⟨v47, e48, q49⟩ : ∃ v, a'.tmps.getD 10 undef = v ∧ (v = (.pointer (some ⟨b1, 1, none⟩))) := ⟨_, rfl, hT' 5 (by decide) 10 rfl⟩
 have hE := hE'.add (e48.trans q49)
 refine Step.imp (st_loadL hE hS' ty26 rfl (i := 1) rfl (fl28_1.R_drop (R_whole (kApi_RowId.mono hm' hc3)))) ?_
 rintro v50 _ ⟨rfl, hv20⟩
 obtain ⟨rfl, hr51⟩ := RV_int hv20
 exact ⟨_, M.le.refl _, hS', ⟨rfl, hr51⟩⟩
 }
 {
 refine cplain fun pre_ post_ L_ T_ m' a' w' hl' hp' hm' hq' hS' hE' hT' => ?_
 obtain rfl := len0 hl'
 refine Step.imp (Run1.pure (r_fieldL hE' fo28_1 rfl)) ?_
 rintro _ _ ⟨rfl, rfl⟩
 exact ⟨_, M.le.refl _, hS', rfl⟩
 }
 {
 refine cplain fun pre_ post_ L_ T_ m' a' w' hl' hp' hm' hq' hS' hE' hT' => ?_
 obtain rfl := len0 hl'
 obtain rfl := len0 (lenz (a := 0) hp')
 obtain ⟨rfl, rfl⟩ := hq'
 obtain ⟨v53, e54, q55⟩ : ∃ v, a'.tmps.getD 12 undef = v ∧ (v = (.pointer (some ⟨b5, 1, none⟩))) := ⟨_, rfl, hT' 7 (by decide) 12 rfl⟩
 have hE := hE'.add (e54.trans q55)
 refine Step.imp (st_loadL hE hS' ty26 rfl (i := 0) rfl (fl28_1.R_drop (R_whole (kApi_RowId.mono hm' hc7)))) ?_
 rintro v56 _ ⟨rfl, hv22⟩
 obtain ⟨rfl, hr57⟩ := RV_int hv22
 exact ⟨_, M.le.refl _, hS', ⟨rfl, hr57⟩⟩
 }
 }
 {
 intro ws_ L_ T_ m58 a w hl59 hm60 hq61 hS hd62 hn63 ho64 hT65
 obtain rfl := len0 hl59
 obtain ⟨rfl, rfl⟩ := hq61
 have hE := EnvD.of (k := 9) (l' := [(0, v0), (1, v1), (2, (.pointer (some ⟨b1, 0, none⟩))), (3, (.pointer (some ⟨b5, 0, none⟩))), (4, (.int .i64 0))]) hd62 hn63 ho64 ⟨rfl, rfl, rfl, rfl, rfl, trivial⟩ rfl
 obtain ⟨v66, e67, q68⟩ : ∃ v, a.tmps.getD 9 undef = v ∧ (v = (.int .i64 r14) ∧ inR .i64 r14) := ⟨_, rfl, hT65 4 (by decide) 9 rfl⟩
 obtain ⟨q68, hr69⟩ := q68
 have hE := hE.add (e67.trans q68)
 obtain ⟨v70, e71, q72⟩ : ∃ v, a.tmps.getD 11 undef = v ∧ (v = (.int .u32 p0.fNumber) ∧ inR .u32 p0.fNumber) := ⟨_, rfl, hT65 6 (by decide) 11 rfl⟩
 obtain ⟨q72, hr73⟩ := q72
 have hE := hE.add (e71.trans q72)
 obtain ⟨v74, e75, q76⟩ : ∃ v, a.tmps.getD 13 undef = v ∧ (v = (.int .u32 p1.fNumber) ∧ inR .u32 p1.fNumber) := ⟨_, rfl, hT65 8 (by decide) 13 rfl⟩
 obtain ⟨q76, hr77⟩ := q76
 have hE := hE.add (e75.trans q76)
 obtain ⟨r78, hr79, h⟩ := ob h
 refine st hE (st_call (vs := [(.int .u32 p0.fNumber), (.int .u32 p1.fNumber)]) hE rfl Try.call31 (c_cmp_Compare_uint32 (hS := hS) hr73 hr77 hr79)) rfl ?_
 rintro v83 a w ⟨m80, hm81, hS, hv82⟩ hE
 obtain ⟨rfl, hr84⟩ := RV_int hv82
 refine st hE (st_lit (k := (kInt .i64)) (xs := [r14, r78]) (vs := [(.int .i64 r14), (.int .i64 r78)]) hE hS rfl Try.underlying22 Try.sizeOf3 Try.zeroValue3 ⟨(RV_of_int hr69), (RV_of_int hr84), trivial⟩ rfl (by decide)) rfl ?_
 rintro v88 a w ⟨m86, hm87, hS, hv85⟩ hE
 obtain ⟨r89, hr90, h⟩ := ob h
 refine st hE (st_call (vs := [v88]) hE rfl Try.call20 (c_cmp_Or_int (hS := hS) hv85 hr90)) rfl ?_
 rintro v94 a w ⟨m91, hm92, hS, hv93⟩ hE
 obtain ⟨rfl, hr95⟩ := RV_int hv93
 refine qa hE rfl rfl fun a hE => ?_
 refine knil (kret ?_)
 obtain rfl := oi h
 try dsimp only
 refine Fin.mk hE (rs := [.tmp 4]) rfl (ResL.tmp hE rfl ResL.nil) ?_
 exact ⟨_, (M.le.trans hm60 (M.le.trans hm81 (M.le.trans hm87 hm92))), ((hS.dropL 2).dropT 1), (RV_of_int hr95)⟩
 }
theorem c_rosfile_Sorted_1  {W0 : Bse} {m : M} {w : World} {L : List (Nat × List Value)} {TL : List (Nat × Value)} (hS : S W0 m w (L) (TL)) {v0 : Value} {p0 : Api_Version} (ha0 : RV kApi_Version m v0 p0) {v1 : Value} {p1 : Api_Version} (ha1 : RV kApi_Version m v1 p1) {v2 : Value} {p2 : (List Int)} (ha2 : PR (kSl (kInt .i64)) m v2 p2) {r : Int} (h : rosfile_Sorted_1 p0 p1 p2 = some r) :
    Calls Try.prog 19 [v0, v1, v2].toArray w (Ret fun v w' => ∃ m', M.le m m' ∧ S W0 m' w' (L) (TL) ∧ RV (kInt .i64) m' v r) := by
 refine kcall Try.func19 rfl Try.ntmps19 (Nat.le_of_ble_eq_true rfl) fun a hE => ?_
 have hE : Env 22 a [(0, v0), (1, v1), (2, v2)] := hE
 unfold rosfile_Sorted_1 at h
 refine kseq (kreg ?_)
 refine st hE (st_box (k := kApi_Version) hE hS rfl ha0) rfl ?_
 rintro _ a w ⟨b1, cs2, rfl, hc3, hS⟩ hE
 refine st hE (st_box (k := kApi_Version) hE hS rfl ha1) rfl ?_
 rintro _ a w ⟨b5, cs6, rfl, hc7, hS⟩ hE
 refine qa hE rfl rfl fun a hE => ?_
 refine knil (kseq ?_)
 obtain ⟨r12, hr13, h⟩ := ob h
 obtain ⟨r19, hr20, h⟩ := ob h
 obtain ⟨r24, hr25, h⟩ := ob h
 refine kchain (k := 13) (m := m) (es := []) (Φ := (fun i m ws v => match i with | 0 => RV (kSl (kInt .i64)) m v p2 | 1 => v = (.pointer (some ⟨b1, 2, none⟩)) | 2 => RV (kSl kAp) m v p0.fRow | 3 => RV (kSl kAp) m v r12 | 4 => RV (kSl (kInt .i64)) m v p2 | 5 => v = (.pointer (some ⟨b5, 2, none⟩)) | 6 => RV (kSl kAp) m v p1.fRow | 7 => RV (kSl kAp) m v r19 | 8 => v = (.int .i64 r24) ∧ inR .i64 r24 | 9 => v = (.pointer (some ⟨b1, 0, none⟩)) | 10 => RV kApi_RowId m v p0.fId | 11 => v = (.pointer (some ⟨b5, 0, none⟩)) | 12 => RV kApi_RowId m v p1.fId | _ => True)) (Q := (fun c m ws L' TL' => match c with | 0 => (b5, cs6) :: (b1, cs2) :: L = L' ∧ TL = TL' | _ => False)) (cs := [⟨0, 0, false, [(2, v2)]⟩, ⟨0, 0, false, [(3, (.pointer (some ⟨b1, 0, none⟩)))]⟩, ⟨0, 0, false, []⟩, ⟨0, 0, false, []⟩, ⟨0, 0, false, [(2, v2)]⟩, ⟨0, 0, false, [(4, (.pointer (some ⟨b5, 0, none⟩)))]⟩, ⟨0, 0, false, []⟩, ⟨0, 0, false, []⟩, ⟨0, 0, false, []⟩, ⟨0, 0, false, [(3, (.pointer (some ⟨b1, 0, none⟩)))]⟩, ⟨0, 0, false, []⟩, ⟨0, 0, false, [(4, (.pointer (some ⟨b5, 0, none⟩)))]⟩, ⟨0, 0, false, []⟩]) mixed hE hS ⟨rfl, rfl⟩ rfl rfl ⟨⟨rfl, trivial⟩, ⟨rfl, trivial⟩, trivial, trivial, ⟨rfl, trivial⟩, ⟨rfl, trivial⟩, trivial, trivial, trivial, ⟨rfl, trivial⟩, trivial, ⟨rfl, trivial⟩, trivial, trivial⟩ (by kernel_rfl) ?_ ?_ ?_ ?_
 {
 intro i m_ m2_ ws v hm_ hp_
 match i, hp_ with
 | 0, hp_ => exact RV.mono hp_ hm_
 | 1, hp_ => exact hp_
 | 2, hp_ => exact RV.mono hp_ hm_
 | 3, hp_ => exact RV.mono hp_ hm_
 | 4, hp_ => exact RV.mono hp_ hm_
 | 5, hp_ => exact hp_
 | 6, hp_ => exact RV.mono hp_ hm_
 | 7, hp_ => exact RV.mono hp_ hm_
 | 8, hp_ => exact hp_
 | 9, hp_ => exact hp_
 | 10, hp_ => exact RV.mono hp_ hm_
 | 11, hp_ => exact hp_
 | 12, hp_ => exact RV.mono hp_ hm_
 | _ + 13, hp_ => exact trivial
 }
 {
 intro c m_ m2_ ws L_ T_ hm_ hq_
 match c, hq_ with
 | 0, ⟨e1_, e2_⟩ => exact ⟨e1_, e2_⟩
 | _ + 1, hq_ => exact hq_.elim
 }
 {
 refine ⟨?_, ?_, ?_, ?_, ?_, ?_, ?_, ?_, ?_, ?_, ?_, ?_, ?_, trivial⟩
 {
 refine cplain fun pre_ post_ L_ T_ m' a' w' hl' hp' hm' hq' hS' hE' hT' => ?_
 obtain rfl := len0 hl'
 refine Step.imp (st_loadM hE' hS' ty22 rfl (ha2.mono hm')) ?_
 rintro v32 _ ⟨rfl, hv10⟩
 exact ⟨_, M.le.refl _, hS', hv10⟩
 }
 {
 refine cplain fun pre_ post_ L_ T_ m' a' w' hl' hp' hm' hq' hS' hE' hT' => ?_
 obtain rfl := len0 hl'
 refine Step.imp (Run1.pure (r_fieldL hE' fo31_1 rfl)) ?_
 rintro _ _ ⟨rfl, rfl⟩
 exact ⟨_, M.le.refl _, hS', rfl⟩
 }
 {
 refine cplain fun pre_ post_ L_ T_ m' a' w' hl' hp' hm' hq' hS' hE' hT' => ?_
 obtain rfl := len0 hl'
 obtain rfl := len0 (lenz (a := 0) hp')
 obtain ⟨rfl, rfl⟩ := hq'
 obtain ⟨v34, e35, q36⟩ : ∃ v, a'.tmps.getD 7 undef = v ∧ (v = (.pointer (some ⟨b1, 2, none⟩))) := ⟨_, rfl, hT' 1 (by decide) 7 rfl⟩
 have hE := hE'.add (e35.trans q36)
 refine Step.imp (st_loadL hE hS' ty29 rfl (i := 1) rfl (fl31_1.R_drop (R_whole (kApi_Version.mono hm' hc3)))) ?_
 rintro v37 _ ⟨rfl, hv11⟩
 exact ⟨_, M.le.refl _, hS', hv11⟩
 }
 {
 refine cplain fun pre_ post_ L_ T_ m' a' w' hl' hp' hm' hq' hS' hE' hT' => ?_
 obtain rfl := len0 hl'
 obtain ⟨v38, e39, q40⟩ : ∃ v, a'.tmps.getD 6 undef = v ∧ (RV (kSl (kInt .i64)) m' v p2) := ⟨_, rfl, hT' 0 (by decide) 6 rfl⟩
 have hE := hE'.add (e39)
 obtain ⟨v41, e42, q43⟩ : ∃ v, a'.tmps.getD 8 undef = v ∧ (RV (kSl kAp) m' v p0.fRow) := ⟨_, rfl, hT' 2 (by decide) 8 rfl⟩
 have hE := hE.add (e42)
 refine Step.imp (st_call (vs := [v38, v41]) hE rfl Try.call22 (c_rosfile_key (hS := hS') q40 q43 hr13)) ?_
 rintro v44 w ⟨m14, hm15, hS, hv16⟩
 exact ⟨_, hm15, (hS.dropT 1), hv16⟩
 }
 {
 refine cplain fun pre_ post_ L_ T_ m' a' w' hl' hp' hm' hq' hS' hE' hT' => ?_
 obtain rfl := len0 hl'
 refine Step.imp (st_loadM hE' hS' ty22 rfl (ha2.mono hm')) ?_
 rintro v45 _ ⟨rfl, hv17⟩
 exact ⟨_, M.le.refl _, hS', hv17⟩
 }
 {
 refine cplain fun pre_ post_ L_ T_ m' a' w' hl' hp' hm' hq' hS' hE' hT' => ?_
 obtain rfl := len0 hl'
 refine Step.imp (Run1.pure (r_fieldL hE' fo31_1 rfl)) ?_
 rintro _ _ ⟨rfl, rfl⟩
 exact ⟨_, M.le.refl _, hS', rfl⟩
 }
 {
 refine cplain fun pre_ post_ L_ T_ m' a' w' hl' hp' hm' hq' hS' hE' hT' => ?_
 obtain rfl := len0 hl'
 obtain rfl := len0 (lenz (a := 0) hp')
 obtain ⟨rfl, rfl⟩ := hq'
 obtain ⟨v47, e48, q49⟩ : ∃ v, a'.tmps.getD 11 undef = v ∧ (v = (.pointer (some ⟨b5, 2, none⟩))) := ⟨_, rfl, hT' 5 (by decide) 11 rfl⟩
 have hE := hE'.add (e48.trans q49)
 refine Step.imp (st_loadL hE hS' ty29 rfl (i := 0) rfl (fl31_1.R_drop (R_whole (kApi_Version.mono hm' hc7)))) ?_
 rintro v50 _ ⟨rfl, hv18⟩
 exact ⟨_, M.le.refl _, hS', hv18⟩
 }
 {
 refine cplain fun pre_ post_ L_ T_ m' a' w' hl' hp' hm' hq' hS' hE' hT' => ?_
 obtain rfl := len0 hl'
 obtain ⟨v51, e52, q53⟩ : ∃ v, a'.tmps.getD 10 undef = v ∧ (RV (kSl (kInt .i64)) m' v p2) := ⟨_, rfl, hT' 4 (by decide) 10 rfl⟩
 have hE := hE'.add (e52)
 obtain ⟨v54, e55, q56⟩ : ∃ v, a'.tmps.getD 12 undef = v ∧ (RV (kSl kAp) m' v p1.fRow) := ⟨_, rfl, hT' 6 (by decide) 12 rfl⟩
 have hE := hE.add (e55)
 refine Step.imp (st_call (vs := [v51, v54]) hE rfl Try.call22 (c_rosfile_key (hS := hS') q53 q56 hr20)) ?_
 rintro v57 w ⟨m21, hm22, hS, hv23⟩
 exact ⟨_, hm22, (hS.dropT 1), hv23⟩
 }
 {
 refine cplain fun pre_ post_ L_ T_ m' a' w' hl' hp' hm' hq' hS' hE' hT' => ?_
 obtain rfl := len0 hl'
 obtain ⟨v58, e59, q60⟩ : ∃ v, a'.tmps.getD 9 undef = v ∧ (RV (kSl kAp) m' v r12) := ⟨_, rfl, hT' 3 (by decide) 9 rfl⟩
 have hE := hE'.add (e59)
 obtain ⟨v61, e62, q63⟩ : ∃ v, a'.tmps.getD 13 undef = v ∧ (RV (kSl kAp) m' v r19) := ⟨_, rfl, hT' 7 (by decide) 13 rfl⟩
 have hE := hE.add (e62)
 refine Step.imp (st_call (vs := [v58, v61]) hE rfl Try.call21 (c_value_Rows (hS := hS') q60 q63 hr25)) ?_
 rintro v64 w ⟨m26, hm27, hS, hv28⟩
 obtain ⟨rfl, hr65⟩ := RV_int hv28
 exact ⟨_, hm27, hS, ⟨rfl, hr65⟩⟩
 }
 {
 refine cplain fun pre_ post_ L_ T_ m' a' w' hl' hp' hm' hq' hS' hE' hT' => ?_
 obtain rfl := len0 hl'
 refine Step.imp (Run1.pure (r_fieldL hE' fo31_0 rfl)) ?_
 rintro _ _ ⟨rfl, rfl⟩
 exact ⟨_, M.le.refl _, hS', rfl⟩
 }
 {
 refine cplain fun pre_ post_ L_ T_ m' a' w' hl' hp' hm' hq' hS' hE' hT' => ?_
 obtain rfl := len0 hl'
 obtain rfl := len0 (lenz (a := 0) hp')
 obtain ⟨rfl, rfl⟩ := hq'
 obtain ⟨v67, e68, q69⟩ : ∃ v, a'.tmps.getD 15 undef = v ∧ (v = (.pointer (some ⟨b1, 0, none⟩))) := ⟨_, rfl, hT' 9 (by decide) 15 rfl⟩
 have hE := hE'.add (e68.trans q69)
 refine Step.imp (st_loadL hE hS' ty28 rfl (i := 1) rfl (fl31_0.R_drop (R_whole (kApi_Version.mono hm' hc3)))) ?_
 rintro v70 _ ⟨rfl, hv30⟩
 exact ⟨_, M.le.refl _, hS', hv30⟩
 }
 {
 refine cplain fun pre_ post_ L_ T_ m' a' w' hl' hp' hm' hq' hS' hE' hT' => ?_
 obtain rfl := len0 hl'
 refine Step.imp (Run1.pure (r_fieldL hE' fo31_0 rfl)) ?_
 rintro _ _ ⟨rfl, rfl⟩
 exact ⟨_, M.le.refl _, hS', rfl⟩
 }
 {
 refine cplain fun pre_ post_ L_ T_ m' a' w' hl' hp' hm' hq' hS' hE' hT' => ?_
 obtain rfl := len0 hl'
 obtain rfl := len0 (lenz (a := 0) hp')
 obtain ⟨rfl, rfl⟩ := hq'
 obtain ⟨v72, e73, q74⟩ : ∃ v, a'.tmps.getD 17 undef = v ∧ (v = (.pointer (some ⟨b5, 0, none⟩))) := ⟨_, rfl, hT' 11 (by decide) 17 rfl⟩
 have hE := hE'.add (e73.trans q74)
 refine Step.imp (st_loadL hE hS' ty28 rfl (i := 0) rfl (fl31_0.R_drop (R_whole (kApi_Version.mono hm' hc7)))) ?_
 rintro v75 _ ⟨rfl, hv31⟩
 exact ⟨_, M.le.refl _, hS', hv31⟩
 }
 }
 {
 intro ws_ L_ T_ m76 a w hl77 hm78 hq79 hS hd80 hn81 ho82 hT83
 obtain rfl := len0 hl77
 obtain ⟨rfl, rfl⟩ := hq79
 have hE := EnvD.of (k := 13) (l' := [(0, v0), (1, v1), (2, v2), (3, (.pointer (some ⟨b1, 0, none⟩))), (4, (.pointer (some ⟨b5, 0, none⟩))), (5, (.int .i64 0))]) hd80 hn81 ho82 ⟨rfl, rfl, rfl, rfl, rfl, rfl, trivial⟩ rfl
 obtain ⟨v84, e85, q86⟩ : ∃ v, a.tmps.getD 14 undef = v ∧ (v = (.int .i64 r24) ∧ inR .i64 r24) := ⟨_, rfl, hT83 8 (by decide) 14 rfl⟩
 obtain ⟨q86, hr87⟩ := q86
 have hE := hE.add (e85.trans q86)
 obtain ⟨v88, e89, q90⟩ : ∃ v, a.tmps.getD 16 undef = v ∧ (RV kApi_RowId m76 v p0.fId) := ⟨_, rfl, hT83 10 (by decide) 16 rfl⟩
 have hE := hE.add (e89)
 obtain ⟨v91, e92, q93⟩ : ∃ v, a.tmps.getD 18 undef = v ∧ (RV kApi_RowId m76 v p1.fId) := ⟨_, rfl, hT83 12 (by decide) 18 rfl⟩
 have hE := hE.add (e92)
 obtain ⟨r94, hr95, h⟩ := ob h
 refine st hE (st_call (vs := [v88, v91]) hE rfl Try.call23 (c_rosfile_order (hS := hS) q90 q93 hr95)) rfl ?_
 rintro v99 a w ⟨m96, hm97, hS, hv98⟩ hE
 obtain ⟨rfl, hr100⟩ := RV_int hv98
 refine st hE (st_lit (k := (kInt .i64)) (xs := [r24, r94]) (vs := [(.int .i64 r24), (.int .i64 r94)]) hE hS rfl Try.underlying22 Try.sizeOf3 Try.zeroValue3 ⟨(RV_of_int hr87), (RV_of_int hr100), trivial⟩ rfl (by decide)) rfl ?_
 rintro v104 a w ⟨m102, hm103, hS, hv101⟩ hE
 obtain ⟨r105, hr106, h⟩ := ob h
 refine st hE (st_call (vs := [v104]) hE rfl Try.call20 (c_cmp_Or_int (hS := hS) hv101 hr106)) rfl ?_
 rintro v110 a w ⟨m107, hm108, hS, hv109⟩ hE
 obtain ⟨rfl, hr111⟩ := RV_int hv109
 refine qa hE rfl rfl fun a hE => ?_
 refine knil (kret ?_)
 obtain rfl := oi h
 try dsimp only
 refine Fin.mk hE (rs := [.tmp 5]) rfl (ResL.tmp hE rfl ResL.nil) ?_
 exact ⟨_, (M.le.trans hm78 (M.le.trans hm97 (M.le.trans hm103 hm108))), ((hS.dropL 2).dropT 1), (RV_of_int hr111)⟩
 }
theorem c_slices_insertionSortCmpFunc_Version  {W0 : Bse} {m : M} {w : World} {L : List (Nat × List Value)} {TL : List (Nat × Value)} {b0_ : Nat} {c0_ : List Value} (hS : S W0 m w ((b0_, c0_) :: L) (TL)) {v0 : Value} {p0 : (List Api_Version)} (ha0 : GS kApi_Version m b0_ c0_ v0 p0) {p1 : Int} (ha1 : inR .i64 p1) {p2 : Int} (ha2 : inR .i64 p2) {v3 : Value} {p3 : (Api_Version → Api_Version → Option Int)} (ha3 : Fn2 Try.prog kApi_Version kApi_Version (kInt .i64) m v3 p3) {r : (List Api_Version)} (h : slices_insertionSortCmpFunc_Version p0 p1 p2 p3 = some r) :
    Calls Try.prog 35 [v0, (.int .i64 p1), (.int .i64 p2), v3].toArray w (Ret fun v w' => ∃ m', M.le m m' ∧ ∃ q0_ : List Value, S W0 m' w' ((b0_, q0_) :: L) (TL) ∧ GS kApi_Version m' b0_ q0_ v0 r) := by
 refine kcall Try.func35 rfl Try.ntmps35 (Nat.le_of_ble_eq_true rfl) fun a hE => ?_
 have hE : Env 53 a [(0, v0), (1, (.int .i64 p1)), (2, (.int .i64 p2)), (3, v3)] := hE
 unfold slices_insertionSortCmpFunc_Version at h
 refine kseq (kreg ?_)
 refine qm hE rfl rfl fun a hE => ?_
 refine sp hE (r_bin hE rfl rfl (b_add rfl)) rfl fun a hE => ?_
 refine qa hE rfl rfl fun a hE => ?_
 refine knil (kblock ?_)
 refine kloop h (fun (s : (Int × (List Api_Version))) a w => ∃ m', M.le m m' ∧ ∃ (cs9 : List Value), inR .i64 s.1 ∧ GS kApi_Version m' b0_ cs9 v0 s.2 ∧ S W0 m' w ((b0_, cs9) :: L) (TL) ∧ Env 53 a [(0, v0), (1, (.int .i64 p1)), (2, (.int .i64 p2)), (3, v3), (8, (.int .i64 s.1))]) ?_ ?_
 {
 exact ⟨_, (M.le.refl _), c0_, (inR_wrap _ _), ha0, hS, hE.cut ⟨rfl, rfl, rfl, rfl, rfl, trivial⟩⟩
 }
 {
 rintro ⟨x6, x8⟩ a w ⟨m4, hm5, cs9, hr7, hc10, hS, hE⟩ r11 h hb12
 have h : slices_insertionSortCmpFunc_Version_b1 p1 p2 p3 x6 x8 = some r11 := h
 unfold slices_insertionSortCmpFunc_Version_b1 at h
 refine kseq (kseq (kreg ?_))
 refine qm hE rfl rfl fun a hE => ?_
 refine qm hE rfl rfl fun a hE => ?_
 refine sp hE (r_bin hE rfl rfl b_lss) rfl fun a hE => ?_
 refine knil ?_
 refine kif hE rfl (fun hd16 => ?_) (fun hd16 => ?_)
 {
 have h := ite_T hd16 h
 refine kskip (kseq ?_)
 refine kcut (fun a w => ∃ x19 : (List Api_Version), slices_insertionSortCmpFunc_Version_j1 x6 x19 = some r11 ∧ ∃ m', M.le m4 m' ∧ ∃ (cs20 : List Value), GS kApi_Version m' b0_ cs20 v0 x19 ∧ S W0 m' w ((b0_, cs20) :: L) (TL) ∧ Env 53 a [(0, v0), (1, (.int .i64 p1)), (2, (.int .i64 p2)), (3, v3), (8, (.int .i64 x6))]) ?_ ?_
 {
 refine kblock (kseq (kreg ?_))
 refine qm hE rfl rfl fun a hE => ?_
 refine qa hE rfl rfl fun a hE => ?_
 refine knil (kblock ?_)
 refine kloop h (fun (s : (Int × (List Api_Version))) a w => ∃ m', M.le m4 m' ∧ ∃ (cs33 : List Value), inR .i64 s.1 ∧ GS kApi_Version m' b0_ cs33 v0 s.2 ∧ S W0 m' w ((b0_, cs33) :: L) (TL) ∧ Env 53 a [(0, v0), (1, (.int .i64 p1)), (2, (.int .i64 p2)), (3, v3), (8, (.int .i64 x6)), (9, (.int .i64 s.1))]) ?_ ?_
 {
 exact ⟨_, (M.le.refl _), cs9, hr7, hc10, hS, hE.cut ⟨rfl, rfl, rfl, rfl, rfl, rfl, trivial⟩⟩
 }
 {
 rintro ⟨x30, x32⟩ a w ⟨m28, hm29, cs33, hr31, hc34, hS, hE⟩ r35 h hb36
 have h : slices_insertionSortCmpFunc_Version_b2 p1 p3 x6 x30 x32 = some r35 := h
 unfold slices_insertionSortCmpFunc_Version_b2 at h
 refine kseq (kseq ?_)
 refine kcut (fun a w => ∃ x39 : Bool, slices_insertionSortCmpFunc_Version_j2 x6 x30 x32 x39 = some r35 ∧ ∃ m', M.le m28 m' ∧ S W0 m' w ((b0_, cs33) :: L) (TL) ∧ Env 53 a [(0, v0), (1, (.int .i64 p1)), (2, (.int .i64 p2)), (3, v3), (8, (.int .i64 x6)), (9, (.int .i64 x30)), (34, (.bool x39))]) ?_ ?_
 {
 rcases Bool.eq_false_or_eq_true (decide (p1 < x30)) with hd145 | hd145
 {
 have h := ite_T hd145 h
 obtain ⟨j146, hj147, h⟩ := ob h
 obtain ⟨x149, hx150, h⟩ := ob h
 obtain ⟨j151, hj152, h⟩ := ob h
 obtain ⟨x154, hx155, h⟩ := ob h
 refine kchain (k := 14) (m := m28) (es := []) (Φ := (fun i m ws v => match i with | 0 => v = (.int .i64 x30) ∧ inR .i64 x30 | 1 => v = (.int .i64 p1) ∧ inR .i64 p1 | 2 => v = (.bool (decide (p1 < x30))) | 3 => v = (.bool (decide (p1 < x30))) | 4 => v = v3 | 5 => v = v0 | 6 => v = (.int .i64 x30) ∧ inR .i64 x30 | 7 => v = (.pointer (some ⟨b0_, j146 * 4, none⟩)) | 8 => RV kApi_Version m v x149 | 9 => v = v0 | 10 => v = (.int .i64 x30) ∧ inR .i64 x30 | 11 => v = (.int .i64 (IntKind.i64.wrap (x30 - 1))) ∧ inR .i64 (IntKind.i64.wrap (x30 - 1)) | 12 => v = (.pointer (some ⟨b0_, j151 * 4, none⟩)) | 13 => RV kApi_Version m v x154 | _ => True)) (Q := (fun c m ws L' TL' => match c with | 0 => (b0_, cs33) :: L = L' ∧ TL = TL' | _ => False)) (cs := [⟨0, 0, false, [(9, (.int .i64 x30))]⟩, ⟨0, 0, false, [(1, (.int .i64 p1))]⟩, ⟨0, 0, false, []⟩, ⟨0, 0, false, []⟩, ⟨0, 0, false, [(3, v3)]⟩, ⟨0, 0, false, [(0, v0)]⟩, ⟨0, 0, false, [(9, (.int .i64 x30))]⟩, ⟨0, 0, false, []⟩, ⟨0, 0, false, []⟩, ⟨0, 0, false, [(0, v0)]⟩, ⟨0, 0, false, [(9, (.int .i64 x30))]⟩, ⟨0, 0, false, []⟩, ⟨0, 0, false, []⟩, ⟨0, 0, false, []⟩]) mixed hE hS ⟨rfl, rfl⟩ rfl rfl ⟨⟨rfl, trivial⟩, ⟨rfl, trivial⟩, trivial, trivial, ⟨rfl, trivial⟩, ⟨rfl, trivial⟩, ⟨rfl, trivial⟩, trivial, trivial, ⟨rfl, trivial⟩, ⟨rfl, trivial⟩, trivial, trivial, trivial, trivial⟩ (by kernel_rfl) ?_ ?_ ?_ ?_
 {
 intro i m_ m2_ ws v hm_ hp_
 match i, hp_ with
 | 0, hp_ => exact hp_
 | 1, hp_ => exact hp_
 | 2, hp_ => exact hp_
 | 3, hp_ => exact hp_
 | 4, hp_ => exact hp_
 | 5, hp_ => exact hp_
 | 6, hp_ => exact hp_
 | 7, hp_ => exact hp_
 | 8, hp_ => exact RV.mono hp_ hm_
 | 9, hp_ => exact hp_
 | 10, hp_ => exact hp_
 | 11, hp_ => exact hp_
 | 12, hp_ => exact hp_
 | 13, hp_ => exact RV.mono hp_ hm_
 | _ + 14, hp_ => exact trivial
 }
 {
 intro c m_ m2_ ws L_ T_ hm_ hq_
 match c, hq_ with
 | 0, ⟨e1_, e2_⟩ => exact ⟨e1_, e2_⟩
 | _ + 1, hq_ => exact hq_.elim
 }
 {
 refine ⟨?_, ?_, ?_, ?_, ?_, ?_, ?_, ?_, ?_, ?_, ?_, ?_, ?_, ?_, trivial⟩
 {
 refine cplain fun pre_ post_ L_ T_ m' a' w' hl' hp' hm' hq' hS' hE' hT' => ?_
 obtain rfl := len0 hl'
 refine Step.imp (Run1.pure (r_move hE' rfl)) ?_
 rintro _ _ ⟨rfl, rfl⟩
 exact ⟨_, M.le.refl _, hS', ⟨rfl, hr31⟩⟩
 }
 {
 refine cplain fun pre_ post_ L_ T_ m' a' w' hl' hp' hm' hq' hS' hE' hT' => ?_
 obtain rfl := len0 hl'
 refine Step.imp (Run1.pure (r_move hE' rfl)) ?_
 rintro _ _ ⟨rfl, rfl⟩
 exact ⟨_, M.le.refl _, hS', ⟨rfl, ha1⟩⟩
 }
 {
 refine cplain fun pre_ post_ L_ T_ m' a' w' hl' hp' hm' hq' hS' hE' hT' => ?_
 obtain rfl := len0 hl'
 obtain ⟨v158, e159, q160⟩ : ∃ v, a'.tmps.getD 18 undef = v ∧ (v = (.int .i64 x30) ∧ inR .i64 x30) := ⟨_, rfl, hT' 0 (by decide) 18 rfl⟩
 obtain ⟨q160, hr161⟩ := q160
 have hE := hE'.add (e159.trans q160)
 obtain ⟨v162, e163, q164⟩ : ∃ v, a'.tmps.getD 19 undef = v ∧ (v = (.int .i64 p1) ∧ inR .i64 p1) := ⟨_, rfl, hT' 1 (by decide) 19 rfl⟩
 obtain ⟨q164, hr165⟩ := q164
 have hE := hE.add (e163.trans q164)
 refine Step.imp (Run1.pure (r_bin hE rfl rfl b_gtr)) ?_
 rintro _ _ ⟨rfl, rfl⟩
 exact ⟨_, M.le.refl _, hS', rfl⟩
 }
 {
 refine cplain fun pre_ post_ L_ T_ m' a' w' hl' hp' hm' hq' hS' hE' hT' => ?_
 obtain rfl := len0 hl'
 obtain ⟨v167, e168, q169⟩ : ∃ v, a'.tmps.getD 20 undef = v ∧ (v = (.bool (decide (p1 < x30)))) := ⟨_, rfl, hT' 2 (by decide) 20 rfl⟩
 have hE := hE'.add (e168.trans q169)
 refine Step.imp (Run1.pure (r_move hE rfl)) ?_
 rintro _ _ ⟨rfl, rfl⟩
 exact ⟨_, M.le.refl _, hS', rfl⟩
 }
 {
 refine cguard rfl rfl (by decide) (fun _ _ _ h_ => Eq.trans h_ (cb hd145)) fun pre_ post_ L_ T_ m' a' w' hl' hp' hm' hq' hS' hE' hT' => ?_
 obtain rfl := len0 hl'
 refine Step.imp (Run1.pure (r_move hE' rfl)) ?_
 rintro _ _ ⟨rfl, rfl⟩
 exact ⟨_, M.le.refl _, hS', rfl⟩
 }
 {
 refine cguard rfl rfl (by decide) (fun _ _ _ h_ => Eq.trans h_ (cb hd145)) fun pre_ post_ L_ T_ m' a' w' hl' hp' hm' hq' hS' hE' hT' => ?_
 obtain rfl := len0 hl'
 refine Step.imp (Run1.pure (r_move hE' rfl)) ?_
 rintro _ _ ⟨rfl, rfl⟩
 exact ⟨_, M.le.refl _, hS', rfl⟩
 }
 {
 refine cguard rfl rfl (by decide) (fun _ _ _ h_ => Eq.trans h_ (cb hd145)) fun pre_ post_ L_ T_ m' a' w' hl' hp' hm' hq' hS' hE' hT' => ?_
 obtain rfl := len0 hl'
 refine Step.imp (Run1.pure (r_move hE' rfl)) ?_
 rintro _ _ ⟨rfl, rfl⟩
 exact ⟨_, M.le.refl _, hS', ⟨rfl, hr31⟩⟩
 }
 {
 refine cguard rfl rfl (by decide) (fun _ _ _ h_ => Eq.trans h_ (cb hd145)) fun pre_ post_ L_ T_ m' a' w' hl' hp' hm' hq' hS' hE' hT' => ?_
 obtain rfl := len0 hl'
 obtain rfl := len0 (lenz (a := 0) hp')
 obtain ⟨rfl, rfl⟩ := hq'
 obtain ⟨v174, e175, q176⟩ : ∃ v, a'.tmps.getD 23 undef = v ∧ (v = v0) := ⟨_, rfl, hT' 5 (by decide) 23 rfl⟩
 have hE := hE'.add (e175.trans q176)
 obtain ⟨v177, e178, q179⟩ : ∃ v, a'.tmps.getD 24 undef = v ∧ (v = (.int .i64 x30) ∧ inR .i64 x30) := ⟨_, rfl, hT' 6 (by decide) 24 rfl⟩
 obtain ⟨q179, hr180⟩ := q179
 have hE := hE.add (e178.trans q179)
 refine Step.imp (Run1.pure (r_indexG (k := kApi_Version) hE rfl rfl Try.underlying25 Try.sizeOf31 (hc34.mono hm') hj147 rfl)) ?_
 rintro _ _ ⟨rfl, rfl⟩
 exact ⟨_, M.le.refl _, hS', rfl⟩
 }
 {
 refine cguard rfl rfl (by decide) (fun _ _ _ h_ => Eq.trans h_ (cb hd145)) fun pre_ post_ L_ T_ m' a' w' hl' hp' hm' hq' hS' hE' hT' => ?_
 obtain rfl := len0 hl'
 obtain rfl := len0 (lenz (a := 0) hp')
 obtain ⟨rfl, rfl⟩ := hq'
 obtain ⟨v182, e183, q184⟩ : ∃ v, a'.tmps.getD 25 undef = v ∧ (v = (.pointer (some ⟨b0_, j146 * 4, none⟩))) := ⟨_, rfl, hT' 7 (by decide) 25 rfl⟩
 have hE := hE'.add (e183.trans q184)
 refine Step.imp (st_loadL hE hS' ty31 rfl (i := 0) rfl (GS.elem (hc34.mono hm') hx150)) ?_
 rintro v185 _ ⟨rfl, hv148⟩
 exact ⟨_, M.le.refl _, hS', hv148⟩
 }
 {
 refine cguard rfl rfl (by decide) (fun _ _ _ h_ => Eq.trans h_ (cb hd145)) fun pre_ post_ L_ T_ m' a' w' hl' hp' hm' hq' hS' hE' hT' => ?_
 obtain rfl := len0 hl'
 refine Step.imp (Run1.pure (r_move hE' rfl)) ?_
 rintro _ _ ⟨rfl, rfl⟩
 exact ⟨_, M.le.refl _, hS', rfl⟩
 }
 {
 refine cguard rfl rfl (by decide) (fun _ _ _ h_ => Eq.trans h_ (cb hd145)) fun pre_ post_ L_ T_ m' a' w' hl' hp' hm' hq' hS' hE' hT' => ?_
 obtain rfl := len0 hl'
 refine Step.imp (Run1.pure (r_move hE' rfl)) ?_
 rintro _ _ ⟨rfl, rfl⟩
 exact ⟨_, M.le.refl _, hS', ⟨rfl, hr31⟩⟩
 }
 {
 refine cguard rfl rfl (by decide) (fun _ _ _ h_ => Eq.trans h_ (cb hd145)) fun pre_ post_ L_ T_ m' a' w' hl' hp' hm' hq' hS' hE' hT' => ?_
 obtain rfl := len0 hl'
 obtain ⟨v188, e189, q190⟩ : ∃ v, a'.tmps.getD 28 undef = v ∧ (v = (.int .i64 x30) ∧ inR .i64 x30) := ⟨_, rfl, hT' 10 (by decide) 28 rfl⟩
 obtain ⟨q190, hr191⟩ := q190
 have hE := hE'.add (e189.trans q190)
 refine Step.imp (Run1.pure (r_bin hE rfl rfl (b_sub rfl))) ?_
 rintro _ _ ⟨rfl, rfl⟩
 exact ⟨_, M.le.refl _, hS', ⟨rfl, (inR_wrap _ _)⟩⟩
 }
 {
 refine cguard rfl rfl (by decide) (fun _ _ _ h_ => Eq.trans h_ (cb hd145)) fun pre_ post_ L_ T_ m' a' w' hl' hp' hm' hq' hS' hE' hT' => ?_
 obtain rfl := len0 hl'
 obtain rfl := len0 (lenz (a := 0) hp')
 obtain ⟨rfl, rfl⟩ := hq'
 obtain ⟨v193, e194, q195⟩ : ∃ v, a'.tmps.getD 27 undef = v ∧ (v = v0) := ⟨_, rfl, hT' 9 (by decide) 27 rfl⟩
 have hE := hE'.add (e194.trans q195)
 obtain ⟨v196, e197, q198⟩ : ∃ v, a'.tmps.getD 29 undef = v ∧ (v = (.int .i64 (IntKind.i64.wrap (x30 - 1))) ∧ inR .i64 (IntKind.i64.wrap (x30 - 1))) := ⟨_, rfl, hT' 11 (by decide) 29 rfl⟩
 obtain ⟨q198, hr199⟩ := q198
 have hE := hE.add (e197.trans q198)
 refine Step.imp (Run1.pure (r_indexG (k := kApi_Version) hE rfl rfl Try.underlying25 Try.sizeOf31 (hc34.mono hm') hj152 rfl)) ?_
 rintro _ _ ⟨rfl, rfl⟩
 exact ⟨_, M.le.refl _, hS', rfl⟩
 }
 {
 refine cguard rfl rfl (by decide) (fun _ _ _ h_ => Eq.trans h_ (cb hd145)) fun pre_ post_ L_ T_ m' a' w' hl' hp' hm' hq' hS' hE' hT' => ?_
 obtain rfl := len0 hl'
 obtain rfl := len0 (lenz (a := 0) hp')
 obtain ⟨rfl, rfl⟩ := hq'
 obtain ⟨v201, e202, q203⟩ : ∃ v, a'.tmps.getD 30 undef = v ∧ (v = (.pointer (some ⟨b0_, j151 * 4, none⟩))) := ⟨_, rfl, hT' 12 (by decide) 30 rfl⟩
 have hE := hE'.add (e202.trans q203)
 refine Step.imp (st_loadL hE hS' ty31 rfl (i := 0) rfl (GS.elem (hc34.mono hm') hx155)) ?_
 rintro v204 _ ⟨rfl, hv153⟩
 exact ⟨_, M.le.refl _, hS', hv153⟩
 }
 }
 {
 intro ws_ L_ T_ m205 a w hl206 hm207 hq208 hS hd209 hn210 ho211 hT212
 obtain rfl := len0 hl206
 obtain ⟨rfl, rfl⟩ := hq208
 have hE := EnvD.of (k := 14) (l' := [(0, v0), (1, (.int .i64 p1)), (2, (.int .i64 p2)), (3, v3), (8, (.int .i64 x6)), (9, (.int .i64 x30))]) hd209 hn210 ho211 ⟨rfl, rfl, rfl, rfl, rfl, rfl, trivial⟩ rfl
 obtain ⟨v213, e214, q215⟩ : ∃ v, a.tmps.getD 21 undef = v ∧ (v = (.bool (decide (p1 < x30)))) := ⟨_, rfl, hT212 3 (by decide) 21 rfl⟩
 have hE := hE.add (e214.trans q215)
 obtain ⟨v216, e217, q218⟩ : ∃ v, a.tmps.getD 22 undef = v ∧ (v = v3) := ⟨_, rfl, hT212 4 (by decide) 22 rfl⟩
 have hE := hE.add (e217.trans q218)
 obtain ⟨v219, e220, q221⟩ : ∃ v, a.tmps.getD 23 undef = v ∧ (v = v0) := ⟨_, rfl, hT212 5 (by decide) 23 rfl⟩
 have hE := hE.add (e220.trans q221)
 obtain ⟨v222, e223, q224⟩ : ∃ v, a.tmps.getD 24 undef = v ∧ (v = (.int .i64 x30) ∧ inR .i64 x30) := ⟨_, rfl, hT212 6 (by decide) 24 rfl⟩
 obtain ⟨q224, hr225⟩ := q224
 have hE := hE.add (e223.trans q224)
 obtain ⟨v226, e227, q228⟩ : ∃ v, a.tmps.getD 25 undef = v ∧ (v = (.pointer (some ⟨b0_, j146 * 4, none⟩))) := ⟨_, rfl, hT212 7 (by decide) 25 rfl⟩
 have hE := hE.add (e227.trans q228)
 obtain ⟨v229, e230, q231⟩ : ∃ v, a.tmps.getD 26 undef = v ∧ (RV kApi_Version m205 v x149) := ⟨_, rfl, hT212 8 (by decide) 26 rfl⟩
 have hE := hE.add (e230)
 obtain ⟨v232, e233, q234⟩ : ∃ v, a.tmps.getD 27 undef = v ∧ (v = v0) := ⟨_, rfl, hT212 9 (by decide) 27 rfl⟩
 have hE := hE.add (e233.trans q234)
 obtain ⟨v235, e236, q237⟩ : ∃ v, a.tmps.getD 28 undef = v ∧ (v = (.int .i64 x30) ∧ inR .i64 x30) := ⟨_, rfl, hT212 10 (by decide) 28 rfl⟩
 obtain ⟨q237, hr238⟩ := q237
 have hE := hE.add (e236.trans q237)
 obtain ⟨v239, e240, q241⟩ : ∃ v, a.tmps.getD 29 undef = v ∧ (v = (.int .i64 (IntKind.i64.wrap (x30 - 1))) ∧ inR .i64 (IntKind.i64.wrap (x30 - 1))) := ⟨_, rfl, hT212 11 (by decide) 29 rfl⟩
 obtain ⟨q241, hr242⟩ := q241
 have hE := hE.add (e240.trans q241)
 obtain ⟨v243, e244, q245⟩ : ∃ v, a.tmps.getD 30 undef = v ∧ (v = (.pointer (some ⟨b0_, j151 * 4, none⟩))) := ⟨_, rfl, hT212 12 (by decide) 30 rfl⟩
 have hE := hE.add (e244.trans q245)
 obtain ⟨v246, e247, q248⟩ : ∃ v, a.tmps.getD 31 undef = v ∧ (RV kApi_Version m205 v x154) := ⟨_, rfl, hT212 13 (by decide) 31 rfl⟩
 have hE := hE.add (e247)
 obtain ⟨r249, hr250, h⟩ := ob h
 refine stg hE rfl rfl rfl rfl hd145 (st_callF2 hE hS rfl rfl (ha3.mono (M.le.trans hm5 (M.le.trans hm29 hm207))) q231 q248 hr250) rfl ?_
 rintro v254 a w ⟨m251, hm252, hS, hv253⟩ hE
 obtain ⟨rfl, hr255⟩ := RV_int hv253
 refine spg hE rfl rfl rfl rfl hd145 (r_bin hE rfl rfl b_lss) rfl fun a hE => ?_
 refine sp hE (r_pickT hE rfl hd145 rfl) rfl fun a hE => ?_
 refine knil ?_
 exact ⟨(decide (r249 < 0)), h, _, (M.le.trans hm207 hm252), hS, hE.cut ⟨rfl, rfl, rfl, rfl, rfl, rfl, rfl, trivial⟩⟩
 }
 }
 {
 have h := ite_F hd145 h
 refine kchain (k := 14) (m := m28) (es := []) (Φ := (fun i m ws v => match i with | 0 => v = (.int .i64 x30) ∧ inR .i64 x30 | 1 => v = (.int .i64 p1) ∧ inR .i64 p1 | 2 => v = (.bool (decide (p1 < x30))) | 3 => v = (.bool (decide (p1 < x30))) | 4 => v = undef | 5 => v = undef | 6 => v = undef | 7 => v = undef | 8 => v = undef | 9 => v = undef | 10 => v = undef | 11 => v = undef | 12 => v = undef | 13 => v = undef | _ => True)) (Q := (fun c m ws L' TL' => match c with | 0 => (b0_, cs33) :: L = L' ∧ TL = TL' | _ => False)) (cs := [⟨0, 0, false, [(9, (.int .i64 x30))]⟩, ⟨0, 0, false, [(1, (.int .i64 p1))]⟩, ⟨0, 0, false, []⟩, ⟨0, 0, false, []⟩, ⟨0, 0, false, [(3, v3)]⟩, ⟨0, 0, false, [(0, v0)]⟩, ⟨0, 0, false, [(9, (.int .i64 x30))]⟩, ⟨0, 0, false, []⟩, ⟨0, 0, false, []⟩, ⟨0, 0, false, [(0, v0)]⟩, ⟨0, 0, false, [(9, (.int .i64 x30))]⟩, ⟨0, 0, false, []⟩, ⟨0, 0, false, []⟩, ⟨0, 0, false, []⟩]) mixed hE hS ⟨rfl, rfl⟩ rfl rfl ⟨⟨rfl, trivial⟩, ⟨rfl, trivial⟩, trivial, trivial, ⟨rfl, trivial⟩, ⟨rfl, trivial⟩, ⟨rfl, trivial⟩, trivial, trivial, ⟨rfl, trivial⟩, ⟨rfl, trivial⟩, trivial, trivial, trivial, trivial⟩ (by kernel_rfl) ?_ ?_ ?_ ?_
 {
 intro i m_ m2_ ws v hm_ hp_
 match i, hp_ with
 | 0, hp_ => exact hp_
 | 1, hp_ => exact hp_
 | 2, hp_ => exact hp_
 | 3, hp_ => exact hp_
 | 4, hp_ => exact hp_
 | 5, hp_ => exact hp_
 | 6, hp_ => exact hp_
 | 7, hp_ => exact hp_
 | 8, hp_ => exact hp_
 | 9, hp_ => exact hp_
 | 10, hp_ => exact hp_
 | 11, hp_ => exact hp_
 | 12, hp_ => exact hp_
 | 13, hp_ => exact hp_
 | _ + 14, hp_ => exact trivial
 }
 {
 intro c m_ m2_ ws L_ T_ hm_ hq_
 match c, hq_ with
 | 0, ⟨e1_, e2_⟩ => exact ⟨e1_, e2_⟩
 | _ + 1, hq_ => exact hq_.elim
 }
 {
 refine ⟨?_, ?_, ?_, ?_, ?_, ?_, ?_, ?_, ?_, ?_, ?_, ?_, ?_, ?_, trivial⟩
 {
 refine cplain fun pre_ post_ L_ T_ m' a' w' hl' hp' hm' hq' hS' hE' hT' => ?_
 obtain rfl := len0 hl'
 refine Step.imp (Run1.pure (r_move hE' rfl)) ?_
 rintro _ _ ⟨rfl, rfl⟩
 exact ⟨_, M.le.refl _, hS', ⟨rfl, hr31⟩⟩
 }
 {
 refine cplain fun pre_ post_ L_ T_ m' a' w' hl' hp' hm' hq' hS' hE' hT' => ?_
 obtain rfl := len0 hl'
 refine Step.imp (Run1.pure (r_move hE' rfl)) ?_
 rintro _ _ ⟨rfl, rfl⟩
 exact ⟨_, M.le.refl _, hS', ⟨rfl, ha1⟩⟩
 }
 {
 refine cplain fun pre_ post_ L_ T_ m' a' w' hl' hp' hm' hq' hS' hE' hT' => ?_
 obtain rfl := len0 hl'
 obtain ⟨v260, e261, q262⟩ : ∃ v, a'.tmps.getD 18 undef = v ∧ (v = (.int .i64 x30) ∧ inR .i64 x30) := ⟨_, rfl, hT' 0 (by decide) 18 rfl⟩
 obtain ⟨q262, hr263⟩ := q262
 have hE := hE'.add (e261.trans q262)
 obtain ⟨v264, e265, q266⟩ : ∃ v, a'.tmps.getD 19 undef = v ∧ (v = (.int .i64 p1) ∧ inR .i64 p1) := ⟨_, rfl, hT' 1 (by decide) 19 rfl⟩
 obtain ⟨q266, hr267⟩ := q266
 have hE := hE.add (e265.trans q266)
 refine Step.imp (Run1.pure (r_bin hE rfl rfl b_gtr)) ?_
 rintro _ _ ⟨rfl, rfl⟩
 exact ⟨_, M.le.refl _, hS', rfl⟩
 }
 {
 refine cplain fun pre_ post_ L_ T_ m' a' w' hl' hp' hm' hq' hS' hE' hT' => ?_
 obtain rfl := len0 hl'
 obtain ⟨v269, e270, q271⟩ : ∃ v, a'.tmps.getD 20 undef = v ∧ (v = (.bool (decide (p1 < x30)))) := ⟨_, rfl, hT' 2 (by decide) 20 rfl⟩
 have hE := hE'.add (e270.trans q271)
 refine Step.imp (Run1.pure (r_move hE rfl)) ?_
 rintro _ _ ⟨rfl, rfl⟩
 exact ⟨_, M.le.refl _, hS', rfl⟩
 }
 {
 exact cskip (b := false) rfl rfl (by decide) (fun _ _ _ h_ => Eq.trans h_ (cb hd145)) (by decide) (fun _ _ => rfl)
 }
 {
 exact cskip (b := false) rfl rfl (by decide) (fun _ _ _ h_ => Eq.trans h_ (cb hd145)) (by decide) (fun _ _ => rfl)
 }
 {
 exact cskip (b := false) rfl rfl (by decide) (fun _ _ _ h_ => Eq.trans h_ (cb hd145)) (by decide) (fun _ _ => rfl)
 }
 {
 exact cskip (b := false) rfl rfl (by decide) (fun _ _ _ h_ => Eq.trans h_ (cb hd145)) (by decide) (fun _ _ => rfl)
 }
 {
 exact cskip (b := false) rfl rfl (by decide) (fun _ _ _ h_ => Eq.trans h_ (cb hd145)) (by decide) (fun _ _ => rfl)
 }
 {
 exact cskip (b := false) rfl rfl (by decide) (fun _ _ _ h_ => Eq.trans h_ (cb hd145)) (by decide) (fun _ _ => rfl)
 }
 {
 exact cskip (b := false) rfl rfl (by decide) (fun _ _ _ h_ => Eq.trans h_ (cb hd145)) (by decide) (fun _ _ => rfl)
 }
 {
 exact cskip (b := false) rfl rfl (by decide) (fun _ _ _ h_ => Eq.trans h_ (cb hd145)) (by decide) (fun _ _ => rfl)
 }
 {
 exact cskip (b := false) rfl rfl (by decide) (fun _ _ _ h_ => Eq.trans h_ (cb hd145)) (by decide) (fun _ _ => rfl)
 }
 {
 exact cskip (b := false) rfl rfl (by decide) (fun _ _ _ h_ => Eq.trans h_ (cb hd145)) (by decide) (fun _ _ => rfl)
 }
 }
 {
 intro ws_ L_ T_ m273 a w hl274 hm275 hq276 hS hd277 hn278 ho279 hT280
 obtain rfl := len0 hl274
 obtain ⟨rfl, rfl⟩ := hq276
 have hE := EnvD.of (k := 14) (l' := [(0, v0), (1, (.int .i64 p1)), (2, (.int .i64 p2)), (3, v3), (8, (.int .i64 x6)), (9, (.int .i64 x30))]) hd277 hn278 ho279 ⟨rfl, rfl, rfl, rfl, rfl, rfl, trivial⟩ rfl
 obtain ⟨v281, e282, q283⟩ : ∃ v, a.tmps.getD 21 undef = v ∧ (v = (.bool (decide (p1 < x30)))) := ⟨_, rfl, hT280 3 (by decide) 21 rfl⟩
 have hE := hE.add (e282.trans q283)
 obtain ⟨v284, e285, q286⟩ : ∃ v, a.tmps.getD 22 undef = v ∧ (v = undef) := ⟨_, rfl, hT280 4 (by decide) 22 rfl⟩
 have hE := hE.add (e285.trans q286)
 obtain ⟨v287, e288, q289⟩ : ∃ v, a.tmps.getD 23 undef = v ∧ (v = undef) := ⟨_, rfl, hT280 5 (by decide) 23 rfl⟩
 have hE := hE.add (e288.trans q289)
 obtain ⟨v290, e291, q292⟩ : ∃ v, a.tmps.getD 24 undef = v ∧ (v = undef) := ⟨_, rfl, hT280 6 (by decide) 24 rfl⟩
 have hE := hE.add (e291.trans q292)
 obtain ⟨v293, e294, q295⟩ : ∃ v, a.tmps.getD 25 undef = v ∧ (v = undef) := ⟨_, rfl, hT280 7 (by decide) 25 rfl⟩
 have hE := hE.add (e294.trans q295)
 obtain ⟨v296, e297, q298⟩ : ∃ v, a.tmps.getD 26 undef = v ∧ (v = undef) := ⟨_, rfl, hT280 8 (by decide) 26 rfl⟩
 have hE := hE.add (e297.trans q298)
 obtain ⟨v299, e300, q301⟩ : ∃ v, a.tmps.getD 27 undef = v ∧ (v = undef) := ⟨_, rfl, hT280 9 (by decide) 27 rfl⟩
 have hE := hE.add (e300.trans q301)
 obtain ⟨v302, e303, q304⟩ : ∃ v, a.tmps.getD 28 undef = v ∧ (v = undef) := ⟨_, rfl, hT280 10 (by decide) 28 rfl⟩
 have hE := hE.add (e303.trans q304)
 obtain ⟨v305, e306, q307⟩ : ∃ v, a.tmps.getD 29 undef = v ∧ (v = undef) := ⟨_, rfl, hT280 11 (by decide) 29 rfl⟩
 have hE := hE.add (e306.trans q307)
 obtain ⟨v308, e309, q310⟩ : ∃ v, a.tmps.getD 30 undef = v ∧ (v = undef) := ⟨_, rfl, hT280 12 (by decide) 30 rfl⟩
 have hE := hE.add (e309.trans q310)
 obtain ⟨v311, e312, q313⟩ : ∃ v, a.tmps.getD 31 undef = v ∧ (v = undef) := ⟨_, rfl, hT280 13 (by decide) 31 rfl⟩
 have hE := hE.add (e312.trans q313)
 refine sx hE rfl rfl rfl rfl hd145 rfl fun a hE => ?_
 refine sx hE rfl rfl rfl rfl hd145 rfl fun a hE => ?_
 refine sp hE (r_pickF hE rfl hd145 rfl) rfl fun a hE => ?_
 refine knil ?_
 exact ⟨false, h, _, hm275, hS, hE.cut ⟨rfl, rfl, rfl, rfl, rfl, rfl, rfl, trivial⟩⟩
 }
 }
 }
 {
 rintro a w ⟨x39, h, m37, hm38, hS, hE⟩
 unfold slices_insertionSortCmpFunc_Version_j2 at h
 refine kif hE rfl (fun hd41 => ?_) (fun hd41 => ?_)
 {
 have h := ite_T hd41 h
 refine kskip (kseq (kblock ?_))
 obtain ⟨j42, hj43, h⟩ := ob h
 obtain ⟨x45, hx46, h⟩ := ob h
 obtain ⟨j47, hj48, h⟩ := ob h
 obtain ⟨x50, hx51, h⟩ := ob h
 obtain ⟨j52, hj53, h⟩ := ob h
 obtain ⟨x56, hx57, h⟩ := ob h
 refine kchain (k := 16) (m := m37) (es := [15]) (Φ := (fun i m ws v => match i with | 0 => v = v0 | 1 => v = (.int .i64 x30) ∧ inR .i64 x30 | 2 => v = v0 | 3 => v = (.int .i64 x30) ∧ inR .i64 x30 | 4 => v = (.int .i64 (IntKind.i64.wrap (x30 - 1))) ∧ inR .i64 (IntKind.i64.wrap (x30 - 1)) | 5 => v = v0 | 6 => v = (.int .i64 x30) ∧ inR .i64 x30 | 7 => v = (.int .i64 (IntKind.i64.wrap (x30 - 1))) ∧ inR .i64 (IntKind.i64.wrap (x30 - 1)) | 8 => v = (.pointer (some ⟨b0_, j42 * 4, none⟩)) | 9 => RV kApi_Version m v x45 | 10 => v = v0 | 11 => v = (.int .i64 x30) ∧ inR .i64 x30 | 12 => v = (.pointer (some ⟨b0_, j47 * 4, none⟩)) | 13 => RV kApi_Version m v x50 | 14 => v = (.pointer (some ⟨b0_, j52 * 4, none⟩)) | 15 => True | _ => True)) (Q := (fun c m ws L' TL' => match c with | 0 => (b0_, cs33) :: L = L' ∧ TL = TL' | 1 => (b0_, (wi ws 0).c) :: L = L' ∧ TL = TL' ∧ GS kApi_Version m b0_ (wi ws 0).c v0 (x32.set j52 x45) | _ => False)) (cs := [⟨0, 0, false, [(0, v0)]⟩, ⟨0, 0, false, [(9, (.int .i64 x30))]⟩, ⟨0, 1, false, [(0, v0)]⟩, ⟨0, 1, false, [(9, (.int .i64 x30))]⟩, ⟨0, 1, false, []⟩, ⟨0, 0, false, [(0, v0)]⟩, ⟨0, 0, false, [(9, (.int .i64 x30))]⟩, ⟨0, 0, false, []⟩, ⟨0, 0, false, []⟩, ⟨0, 0, false, []⟩, ⟨0, 0, false, [(0, v0)]⟩, ⟨0, 0, false, [(9, (.int .i64 x30))]⟩, ⟨0, 0, false, []⟩, ⟨0, 0, false, []⟩, ⟨0, 0, false, []⟩, ⟨0, 0, true, []⟩]) mixed hE hS ⟨rfl, rfl⟩ rfl rfl ⟨⟨rfl, trivial⟩, ⟨rfl, trivial⟩, ⟨rfl, trivial⟩, ⟨rfl, trivial⟩, trivial, ⟨rfl, trivial⟩, ⟨rfl, trivial⟩, trivial, trivial, trivial, ⟨rfl, trivial⟩, ⟨rfl, trivial⟩, trivial, trivial, trivial, trivial, trivial⟩ (by kernel_rfl) ?_ ?_ ?_ ?_
 {
 intro i m_ m2_ ws v hm_ hp_
 match i, hp_ with
 | 0, hp_ => exact hp_
 | 1, hp_ => exact hp_
 | 2, hp_ => exact hp_
 | 3, hp_ => exact hp_
 | 4, hp_ => exact hp_
 | 5, hp_ => exact hp_
 | 6, hp_ => exact hp_
 | 7, hp_ => exact hp_
 | 8, hp_ => exact hp_
 | 9, hp_ => exact RV.mono hp_ hm_
 | 10, hp_ => exact hp_
 | 11, hp_ => exact hp_
 | 12, hp_ => exact hp_
 | 13, hp_ => exact RV.mono hp_ hm_
 | 14, hp_ => exact hp_
 | 15, hp_ => exact hp_
 | _ + 16, hp_ => exact trivial
 }
 {
 intro c m_ m2_ ws L_ T_ hm_ hq_
 match c, hq_ with
 | 0, ⟨e1_, e2_⟩ => exact ⟨e1_, e2_⟩
 | 1, ⟨e1_, e2_, f0_⟩ => exact ⟨e1_, e2_, (GS.mono f0_ hm_)⟩
 | _ + 2, hq_ => exact hq_.elim
 }
 {
 refine ⟨?_, ?_, ?_, ?_, ?_, ?_, ?_, ?_, ?_, ?_, ?_, ?_, ?_, ?_, ?_, ?_, trivial⟩
 {
 refine cplain fun pre_ post_ L_ T_ m' a' w' hl' hp' hm' hq' hS' hE' hT' => ?_
 obtain rfl := len0 hl'
 refine Step.imp (Run1.pure (r_move hE' rfl)) ?_
 rintro _ _ ⟨rfl, rfl⟩
 exact ⟨_, M.le.refl _, hS', rfl⟩
 }
 {
 refine cplain fun pre_ post_ L_ T_ m' a' w' hl' hp' hm' hq' hS' hE' hT' => ?_
 obtain rfl := len0 hl'
 refine Step.imp (Run1.pure (r_move hE' rfl)) ?_
 rintro _ _ ⟨rfl, rfl⟩
 exact ⟨_, M.le.refl _, hS', ⟨rfl, hr31⟩⟩
 }
 {
 refine cplain fun pre_ post_ L_ T_ m' a' w' hl' hp' hm' hq' hS' hE' hT' => ?_
 obtain rfl := len0 hl'
 refine Step.imp (Run1.pure (r_move hE' rfl)) ?_
 rintro _ _ ⟨rfl, rfl⟩
 exact ⟨_, M.le.refl _, hS', rfl⟩
 }
 {
 refine cplain fun pre_ post_ L_ T_ m' a' w' hl' hp' hm' hq' hS' hE' hT' => ?_
 obtain rfl := len0 hl'
 refine Step.imp (Run1.pure (r_move hE' rfl)) ?_
 rintro _ _ ⟨rfl, rfl⟩
 exact ⟨_, M.le.refl _, hS', ⟨rfl, hr31⟩⟩
 }
 {
 refine cplain fun pre_ post_ L_ T_ m' a' w' hl' hp' hm' hq' hS' hE' hT' => ?_
 obtain rfl := len0 hl'
 obtain ⟨v63, e64, q65⟩ : ∃ v, a'.tmps.getD 40 undef = v ∧ (v = (.int .i64 x30) ∧ inR .i64 x30) := ⟨_, rfl, hT' 3 (by decide) 40 rfl⟩
 obtain ⟨q65, hr66⟩ := q65
 have hE := hE'.add (e64.trans q65)
 refine Step.imp (Run1.pure (r_bin hE rfl rfl (b_sub rfl))) ?_
 rintro _ _ ⟨rfl, rfl⟩
 exact ⟨_, M.le.refl _, hS', ⟨rfl, (inR_wrap _ _)⟩⟩
 }
 {
 refine cplain fun pre_ post_ L_ T_ m' a' w' hl' hp' hm' hq' hS' hE' hT' => ?_
 obtain rfl := len0 hl'
 refine Step.imp (Run1.pure (r_move hE' rfl)) ?_
 rintro _ _ ⟨rfl, rfl⟩
 exact ⟨_, M.le.refl _, hS', rfl⟩
 }
 {
 refine cplain fun pre_ post_ L_ T_ m' a' w' hl' hp' hm' hq' hS' hE' hT' => ?_
 obtain rfl := len0 hl'
 refine Step.imp (Run1.pure (r_move hE' rfl)) ?_
 rintro _ _ ⟨rfl, rfl⟩
 exact ⟨_, M.le.refl _, hS', ⟨rfl, hr31⟩⟩
 }
 {
 refine cplain fun pre_ post_ L_ T_ m' a' w' hl' hp' hm' hq' hS' hE' hT' => ?_
 obtain rfl := len0 hl'
 obtain ⟨v70, e71, q72⟩ : ∃ v, a'.tmps.getD 43 undef = v ∧ (v = (.int .i64 x30) ∧ inR .i64 x30) := ⟨_, rfl, hT' 6 (by decide) 43 rfl⟩
 obtain ⟨q72, hr73⟩ := q72
 have hE := hE'.add (e71.trans q72)
 refine Step.imp (Run1.pure (r_bin hE rfl rfl (b_sub rfl))) ?_
 rintro _ _ ⟨rfl, rfl⟩
 exact ⟨_, M.le.refl _, hS', ⟨rfl, (inR_wrap _ _)⟩⟩
 }
 {
 refine cplain fun pre_ post_ L_ T_ m' a' w' hl' hp' hm' hq' hS' hE' hT' => ?_
 obtain rfl := len0 hl'
 obtain rfl := len0 (lenz (a := 0) hp')
 obtain ⟨rfl, rfl⟩ := hq'
 obtain ⟨v75, e76, q77⟩ : ∃ v, a'.tmps.getD 42 undef = v ∧ (v = v0) := ⟨_, rfl, hT' 5 (by decide) 42 rfl⟩
 have hE := hE'.add (e76.trans q77)
 obtain ⟨v78, e79, q80⟩ : ∃ v, a'.tmps.getD 44 undef = v ∧ (v = (.int .i64 (IntKind.i64.wrap (x30 - 1))) ∧ inR .i64 (IntKind.i64.wrap (x30 - 1))) := ⟨_, rfl, hT' 7 (by decide) 44 rfl⟩
 obtain ⟨q80, hr81⟩ := q80
 have hE := hE.add (e79.trans q80)
 refine Step.imp (Run1.pure (r_indexG (k := kApi_Version) hE rfl rfl Try.underlying25 Try.sizeOf31 (hc34.mono (M.le.trans hm38 hm')) hj43 rfl)) ?_
 rintro _ _ ⟨rfl, rfl⟩
 exact ⟨_, M.le.refl _, hS', rfl⟩
 }
 {
 refine cplain fun pre_ post_ L_ T_ m' a' w' hl' hp' hm' hq' hS' hE' hT' => ?_
 obtain rfl := len0 hl'
 obtain rfl := len0 (lenz (a := 0) hp')
 obtain ⟨rfl, rfl⟩ := hq'
 obtain ⟨v83, e84, q85⟩ : ∃ v, a'.tmps.getD 45 undef = v ∧ (v = (.pointer (some ⟨b0_, j42 * 4, none⟩))) := ⟨_, rfl, hT' 8 (by decide) 45 rfl⟩
 have hE := hE'.add (e84.trans q85)
 refine Step.imp (st_loadL hE hS' ty31 rfl (i := 0) rfl (GS.elem (hc34.mono (M.le.trans hm38 hm')) hx46)) ?_
 rintro v86 _ ⟨rfl, hv44⟩
 exact ⟨_, M.le.refl _, hS', hv44⟩
 }
 {
 refine cplain fun pre_ post_ L_ T_ m' a' w' hl' hp' hm' hq' hS' hE' hT' => ?_
 obtain rfl := len0 hl'
 refine Step.imp (Run1.pure (r_move hE' rfl)) ?_
 rintro _ _ ⟨rfl, rfl⟩
 exact ⟨_, M.le.refl _, hS', rfl⟩
 }
 {
 refine cplain fun pre_ post_ L_ T_ m' a' w' hl' hp' hm' hq' hS' hE' hT' => ?_
 obtain rfl := len0 hl'
 refine Step.imp (Run1.pure (r_move hE' rfl)) ?_
 rintro _ _ ⟨rfl, rfl⟩
 exact ⟨_, M.le.refl _, hS', ⟨rfl, hr31⟩⟩
 }
 {
 refine cplain fun pre_ post_ L_ T_ m' a' w' hl' hp' hm' hq' hS' hE' hT' => ?_
 obtain rfl := len0 hl'
 obtain rfl := len0 (lenz (a := 0) hp')
 obtain ⟨rfl, rfl⟩ := hq'
 obtain ⟨v89, e90, q91⟩ : ∃ v, a'.tmps.getD 47 undef = v ∧ (v = v0) := ⟨_, rfl, hT' 10 (by decide) 47 rfl⟩
 have hE := hE'.add (e90.trans q91)
 obtain ⟨v92, e93, q94⟩ : ∃ v, a'.tmps.getD 48 undef = v ∧ (v = (.int .i64 x30) ∧ inR .i64 x30) := ⟨_, rfl, hT' 11 (by decide) 48 rfl⟩
 obtain ⟨q94, hr95⟩ := q94
 have hE := hE.add (e93.trans q94)
 refine Step.imp (Run1.pure (r_indexG (k := kApi_Version) hE rfl rfl Try.underlying25 Try.sizeOf31 (hc34.mono (M.le.trans hm38 hm')) hj48 rfl)) ?_
 rintro _ _ ⟨rfl, rfl⟩
 exact ⟨_, M.le.refl _, hS', rfl⟩
 }
 {
 refine cplain fun pre_ post_ L_ T_ m' a' w' hl' hp' hm' hq' hS' hE' hT' => ?_
 obtain rfl := len0 hl'
 obtain rfl := len0 (lenz (a := 0) hp')
 obtain ⟨rfl, rfl⟩ := hq'
 obtain ⟨v97, e98, q99⟩ : ∃ v, a'.tmps.getD 49 undef = v ∧ (v = (.pointer (some ⟨b0_, j47 * 4, none⟩))) := ⟨_, rfl, hT' 12 (by decide) 49 rfl⟩
 have hE := hE'.add (e98.trans q99)
 refine Step.imp (st_loadL hE hS' ty31 rfl (i := 0) rfl (GS.elem (hc34.mono (M.le.trans hm38 hm')) hx51)) ?_
 rintro v100 _ ⟨rfl, hv49⟩
 exact ⟨_, M.le.refl _, hS', hv49⟩
 }
 {
 refine cplain fun pre_ post_ L_ T_ m' a' w' hl' hp' hm' hq' hS' hE' hT' => ?_
 obtain rfl := len0 hl'
 obtain rfl := len0 (lenz (a := 0) hp')
 obtain ⟨rfl, rfl⟩ := hq'
 obtain ⟨v101, e102, q103⟩ : ∃ v, a'.tmps.getD 37 undef = v ∧ (v = v0) := ⟨_, rfl, hT' 0 (by decide) 37 rfl⟩
 have hE := hE'.add (e102.trans q103)
 obtain ⟨v104, e105, q106⟩ : ∃ v, a'.tmps.getD 38 undef = v ∧ (v = (.int .i64 x30) ∧ inR .i64 x30) := ⟨_, rfl, hT' 1 (by decide) 38 rfl⟩
 obtain ⟨q106, hr107⟩ := q106
 have hE := hE.add (e105.trans q106)
 refine Step.imp (Run1.pure (r_indexG (k := kApi_Version) hE rfl rfl Try.underlying25 Try.sizeOf31 (hc34.mono (M.le.trans hm38 hm')) hj53 rfl)) ?_
 rintro _ _ ⟨rfl, rfl⟩
 exact ⟨_, M.le.refl _, hS', rfl⟩
 }
 {
 refine cturn fun pre_ L_ T_ m' a' w' hl' hm' hq' hS' hE' hT' => ?_
 obtain rfl := len0 hl'
 obtain ⟨rfl, rfl⟩ := hq'
 obtain ⟨v109, e110, q111⟩ : ∃ v, a'.tmps.getD 46 undef = v ∧ (RV kApi_Version m' v x45) := ⟨_, rfl, hT' 9 (by decide) 46 rfl⟩
 have hE := hE'.add (e110)
 obtain ⟨v112, e113, q114⟩ : ∃ v, a'.tmps.getD 51 undef = v ∧ (v = (.pointer (some ⟨b0_, j52 * 4, none⟩))) := ⟨_, rfl, hT' 14 (by decide) 51 rfl⟩
 have hE := hE.add (e113.trans q114)
 refine Step.imp (st_storeG (k := kApi_Version) hE hS' ty31 StF_self (hc34.mono (M.le.trans hm38 hm')) hx57 rfl rfl q111 (i := 0) rfl) ?_
 rintro vv58 w ⟨cs54, hc55, hS⟩
 exact ⟨_, ⟨0, undef, cs54, [], []⟩, _, _, M.le.refl _, hS, ⟨rfl, rfl, hc55⟩, trivial⟩
 }
 }
 {
 intro ws_ L_ T_ m115 a w hl116 hm117 hq118 hS hd119 hn120 ho121 hT122
 obtain ⟨⟨_, _, cs54, _, _⟩, rfl⟩ := len1 hl116
 obtain ⟨rfl, rfl, hc123⟩ := hq118
 have hE := EnvD.of (k := 16) (l' := [(0, v0), (1, (.int .i64 p1)), (2, (.int .i64 p2)), (3, v3), (8, (.int .i64 x6)), (9, (.int .i64 x30)), (34, (.bool x39))]) hd119 hn120 ho121 ⟨rfl, rfl, rfl, rfl, rfl, rfl, rfl, trivial⟩ rfl
 obtain ⟨v124, e125, q126⟩ : ∃ v, a.tmps.getD 39 undef = v ∧ (v = v0) := ⟨_, rfl, hT122 2 (by decide) 39 rfl⟩
 have hE := hE.add (e125.trans q126)
 obtain ⟨v127, e128, q129⟩ : ∃ v, a.tmps.getD 41 undef = v ∧ (v = (.int .i64 (IntKind.i64.wrap (x30 - 1))) ∧ inR .i64 (IntKind.i64.wrap (x30 - 1))) := ⟨_, rfl, hT122 4 (by decide) 41 rfl⟩
 obtain ⟨q129, hr130⟩ := q129
 have hE := hE.add (e128.trans q129)
 obtain ⟨v131, e132, q133⟩ : ∃ v, a.tmps.getD 50 undef = v ∧ (RV kApi_Version m115 v x50) := ⟨_, rfl, hT122 13 (by decide) 50 rfl⟩
 have hE := hE.add (e132)
 obtain ⟨j134, hj135, h⟩ := ob h
 refine sp hE (r_indexG (k := kApi_Version) hE rfl rfl Try.underlying25 Try.sizeOf31 hc123 hj135 rfl) rfl fun a hE => ?_
 obtain ⟨x139, hx140, h⟩ := ob h
 refine st0 hE (st_storeG (k := kApi_Version) hE hS ty31 StF_self hc123 hx140 rfl rfl q133 (i := 0) rfl) ?_
 rintro _ w ⟨cs137, hc138, hS⟩ hE
 refine knil (kreg ?_)
 refine qm hE rfl rfl fun a hE => ?_
 refine sp hE (r_bin hE rfl rfl (b_sub rfl)) rfl fun a hE => ?_
 refine qa hE rfl rfl fun a hE => ?_
 refine knil ?_
 exact ⟨(IntKind.i64.wrap (x30 - 1), ((x32.set j52 x45).set j134 x50)), (Option.some.inj h).symm, _, (M.le.trans hm29 (M.le.trans hm38 hm117)), cs137, (inR_wrap _ _), hc138, hS, hE.cut ⟨rfl, rfl, rfl, rfl, rfl, rfl, trivial⟩⟩
 }
 }
 {
 have h := ite_F hd41 h
 refine kexit rfl rfl ?_
 have h := unwrap h hb36
 exact ⟨x32, h, _, (M.le.trans hm29 hm38), cs33, (hc34.mono hm38), hS, hE.cut ⟨rfl, rfl, rfl, rfl, rfl, trivial⟩⟩
 }
 }
 }
 }
 {
 rintro a w ⟨x19, h, m17, hm18, cs20, hc21, hS, hE⟩
 unfold slices_insertionSortCmpFunc_Version_j1 at h
 refine kreg ?_
 refine qm hE rfl rfl fun a hE => ?_
 refine sp hE (r_bin hE rfl rfl (b_add rfl)) rfl fun a hE => ?_
 refine qa hE rfl rfl fun a hE => ?_
 refine knil ?_
 exact ⟨(IntKind.i64.wrap (x6 + 1), x19), (Option.some.inj h).symm, _, (M.le.trans hm5 hm18), cs20, (inR_wrap _ _), hc21, hS, hE.cut ⟨rfl, rfl, rfl, rfl, rfl, trivial⟩⟩
 }
 }
 {
 have h := ite_F hd16 h
 refine kexit rfl rfl ?_
 have h := unwrap h hb12
 obtain rfl := oi h
 try dsimp only
 refine Fin.mk hE (rs := []) rfl ResL.nil ?_
 exact ⟨_, hm5, cs9, hS, hc10⟩
 }
 }
theorem c_slices_swapRangeCmpFunc_Version  {W0 : Bse} {m : M} {w : World} {L : List (Nat × List Value)} {TL : List (Nat × Value)} {b0_ : Nat} {c0_ : List Value} (hS : S W0 m w ((b0_, c0_) :: L) (TL)) {v0 : Value} {p0 : (List Api_Version)} (ha0 : GS kApi_Version m b0_ c0_ v0 p0) {p1 : Int} (ha1 : inR .i64 p1) {p2 : Int} (ha2 : inR .i64 p2) {p3 : Int} (ha3 : inR .i64 p3) {v4 : Value} {p4 : (Api_Version → Api_Version → Option Int)} (ha4 : Fn2 Try.prog kApi_Version kApi_Version (kInt .i64) m v4 p4) {r : (List Api_Version)} (h : slices_swapRangeCmpFunc_Version p0 p1 p2 p3 p4 = some r) :
    Calls Try.prog 47 [v0, (.int .i64 p1), (.int .i64 p2), (.int .i64 p3), v4].toArray w (Ret fun v w' => ∃ m', M.le m m' ∧ ∃ q0_ : List Value, S W0 m' w' ((b0_, q0_) :: L) (TL) ∧ GS kApi_Version m' b0_ q0_ v0 r) := by
 refine kcall Try.func47 rfl Try.ntmps47 (Nat.le_of_ble_eq_true rfl) fun a hE => ?_
 have hE : Env 38 a [(0, v0), (1, (.int .i64 p1)), (2, (.int .i64 p2)), (3, (.int .i64 p3)), (4, v4)] := hE
 unfold slices_swapRangeCmpFunc_Version at h
 refine kseq (kreg ?_)
 refine qa hE rfl rfl fun a hE => ?_
 refine knil (kblock ?_)
 refine kloop h (fun (s : (Int × (List Api_Version))) a w => ∃ m', M.le m m' ∧ ∃ (cs7 : List Value), inR .i64 s.1 ∧ GS kApi_Version m' b0_ cs7 v0 s.2 ∧ S W0 m' w ((b0_, cs7) :: L) (TL) ∧ Env 38 a [(0, v0), (1, (.int .i64 p1)), (2, (.int .i64 p2)), (3, (.int .i64 p3)), (10, (.int .i64 s.1))]) ?_ ?_
 {
 exact ⟨_, (M.le.refl _), c0_, (show inR .i64 0 from inR_lit (by decide)), ha0, hS, hE.cut ⟨rfl, rfl, rfl, rfl, rfl, trivial⟩⟩
 }
 {
 rintro ⟨x4, x6⟩ a w ⟨m2, hm3, cs7, hr5, hc8, hS, hE⟩ r9 h hb10
 have h : slices_swapRangeCmpFunc_Version_b1 p1 p2 p3 x4 x6 = some r9 := h
 unfold slices_swapRangeCmpFunc_Version_b1 at h
 refine kseq (kseq (kreg ?_))
 refine qm hE rfl rfl fun a hE => ?_
 refine qm hE rfl rfl fun a hE => ?_
 refine sp hE (r_bin hE rfl rfl b_lss) rfl fun a hE => ?_
 refine knil ?_
 refine kif hE rfl (fun hd14 => ?_) (fun hd14 => ?_)
 {
 have h := ite_T hd14 h
 refine kskip (kseq (kblock ?_))
 obtain ⟨j15, hj16, h⟩ := ob h
 obtain ⟨x18, hx19, h⟩ := ob h
 obtain ⟨j20, hj21, h⟩ := ob h
 obtain ⟨x23, hx24, h⟩ := ob h
 obtain ⟨j25, hj26, h⟩ := ob h
 obtain ⟨x29, hx30, h⟩ := ob h
 refine kchain (k := 22) (m := m2) (es := [21]) (Φ := (fun i m ws v => match i with | 0 => v = v0 | 1 => v = (.int .i64 p1) ∧ inR .i64 p1 | 2 => v = (.int .i64 x4) ∧ inR .i64 x4 | 3 => v = (.int .i64 (IntKind.i64.wrap (p1 + x4))) ∧ inR .i64 (IntKind.i64.wrap (p1 + x4)) | 4 => v = v0 | 5 => v = (.int .i64 p2) ∧ inR .i64 p2 | 6 => v = (.int .i64 x4) ∧ inR .i64 x4 | 7 => v = (.int .i64 (IntKind.i64.wrap (p2 + x4))) ∧ inR .i64 (IntKind.i64.wrap (p2 + x4)) | 8 => v = v0 | 9 => v = (.int .i64 p2) ∧ inR .i64 p2 | 10 => v = (.int .i64 x4) ∧ inR .i64 x4 | 11 => v = (.int .i64 (IntKind.i64.wrap (p2 + x4))) ∧ inR .i64 (IntKind.i64.wrap (p2 + x4)) | 12 => v = (.pointer (some ⟨b0_, j15 * 4, none⟩)) | 13 => RV kApi_Version m v x18 | 14 => v = v0 | 15 => v = (.int .i64 p1) ∧ inR .i64 p1 | 16 => v = (.int .i64 x4) ∧ inR .i64 x4 | 17 => v = (.int .i64 (IntKind.i64.wrap (p1 + x4))) ∧ inR .i64 (IntKind.i64.wrap (p1 + x4)) | 18 => v = (.pointer (some ⟨b0_, j20 * 4, none⟩)) | 19 => RV kApi_Version m v x23 | 20 => v = (.pointer (some ⟨b0_, j25 * 4, none⟩)) | 21 => True | _ => True)) (Q := (fun c m ws L' TL' => match c with | 0 => (b0_, cs7) :: L = L' ∧ TL = TL' | 1 => (b0_, (wi ws 0).c) :: L = L' ∧ TL = TL' ∧ GS kApi_Version m b0_ (wi ws 0).c v0 (x6.set j25 x18) | _ => False)) (cs := [⟨0, 0, false, [(0, v0)]⟩, ⟨0, 0, false, [(1, (.int .i64 p1))]⟩, ⟨0, 0, false, [(10, (.int .i64 x4))]⟩, ⟨0, 0, false, []⟩, ⟨0, 1, false, [(0, v0)]⟩, ⟨0, 1, false, [(2, (.int .i64 p2))]⟩, ⟨0, 1, false, [(10, (.int .i64 x4))]⟩, ⟨0, 1, false, []⟩, ⟨0, 0, false, [(0, v0)]⟩, ⟨0, 0, false, [(2, (.int .i64 p2))]⟩, ⟨0, 0, false, [(10, (.int .i64 x4))]⟩, ⟨0, 0, false, []⟩, ⟨0, 0, false, []⟩, ⟨0, 0, false, []⟩, ⟨0, 0, false, [(0, v0)]⟩, ⟨0, 0, false, [(1, (.int .i64 p1))]⟩, ⟨0, 0, false, [(10, (.int .i64 x4))]⟩, ⟨0, 0, false, []⟩, ⟨0, 0, false, []⟩, ⟨0, 0, false, []⟩, ⟨0, 0, false, []⟩, ⟨0, 0, true, []⟩]) mixed hE hS ⟨rfl, rfl⟩ rfl rfl ⟨⟨rfl, trivial⟩, ⟨rfl, trivial⟩, ⟨rfl, trivial⟩, trivial, ⟨rfl, trivial⟩, ⟨rfl, trivial⟩, ⟨rfl, trivial⟩, trivial, ⟨rfl, trivial⟩, ⟨rfl, trivial⟩, ⟨rfl, trivial⟩, trivial, trivial, trivial, ⟨rfl, trivial⟩, ⟨rfl, trivial⟩, ⟨rfl, trivial⟩, trivial, trivial, trivial, trivial, trivial, trivial⟩ (by kernel_rfl) ?_ ?_ ?_ ?_
 {
 intro i m_ m2_ ws v hm_ hp_
 match i, hp_ with
 | 0, hp_ => exact hp_
 | 1, hp_ => exact hp_
 | 2, hp_ => exact hp_
 | 3, hp_ => exact hp_
 | 4, hp_ => exact hp_
 | 5, hp_ => exact hp_
 | 6, hp_ => exact hp_
 | 7, hp_ => exact hp_
 | 8, hp_ => exact hp_
 | 9, hp_ => exact hp_
 | 10, hp_ => exact hp_
 | 11, hp_ => exact hp_
 | 12, hp_ => exact hp_
 | 13, hp_ => exact RV.mono hp_ hm_
 | 14, hp_ => exact hp_
 | 15, hp_ => exact hp_
 | 16, hp_ => exact hp_
 | 17, hp_ => exact hp_
 | 18, hp_ => exact hp_
 | 19, hp_ => exact RV.mono hp_ hm_
 | 20, hp_ => exact hp_
 | 21, hp_ => exact hp_
 | _ + 22, hp_ => exact trivial
 }
 {
 intro c m_ m2_ ws L_ T_ hm_ hq_
 match c, hq_ with
 | 0, ⟨e1_, e2_⟩ => exact ⟨e1_, e2_⟩
 | 1, ⟨e1_, e2_, f0_⟩ => exact ⟨e1_, e2_, (GS.mono f0_ hm_)⟩
 | _ + 2, hq_ => exact hq_.elim
 }
 {
 refine ⟨?_, ?_, ?_, ?_, ?_, ?_, ?_, ?_, ?_, ?_, ?_, ?_, ?_, ?_, ?_, ?_, ?_, ?_, ?_, ?_, ?_, ?_, trivial⟩
 {
 refine cplain fun pre_ post_ L_ T_ m' a' w' hl' hp' hm' hq' hS' hE' hT' => ?_
 obtain rfl := len0 hl'
 refine Step.imp (Run1.pure (r_move hE' rfl)) ?_
 rintro _ _ ⟨rfl, rfl⟩
 exact ⟨_, M.le.refl _, hS', rfl⟩
 }
 {
 refine cplain fun pre_ post_ L_ T_ m' a' w' hl' hp' hm' hq' hS' hE' hT' => ?_
 obtain rfl := len0 hl'
 refine Step.imp (Run1.pure (r_move hE' rfl)) ?_
 rintro _ _ ⟨rfl, rfl⟩
 exact ⟨_, M.le.refl _, hS', ⟨rfl, ha1⟩⟩
 }
 {
 refine cplain fun pre_ post_ L_ T_ m' a' w' hl' hp' hm' hq' hS' hE' hT' => ?_
 obtain rfl := len0 hl'
 refine Step.imp (Run1.pure (r_move hE' rfl)) ?_
 rintro _ _ ⟨rfl, rfl⟩
 exact ⟨_, M.le.refl _, hS', ⟨rfl, hr5⟩⟩
 }
 {
 refine cplain fun pre_ post_ L_ T_ m' a' w' hl' hp' hm' hq' hS' hE' hT' => ?_
 obtain rfl := len0 hl'
 obtain ⟨v35, e36, q37⟩ : ∃ v, a'.tmps.getD 17 undef = v ∧ (v = (.int .i64 p1) ∧ inR .i64 p1) := ⟨_, rfl, hT' 1 (by decide) 17 rfl⟩
 obtain ⟨q37, hr38⟩ := q37
 have hE := hE'.add (e36.trans q37)
 obtain ⟨v39, e40, q41⟩ : ∃ v, a'.tmps.getD 18 undef = v ∧ (v = (.int .i64 x4) ∧ inR .i64 x4) := ⟨_, rfl, hT' 2 (by decide) 18 rfl⟩
 obtain ⟨q41, hr42⟩ := q41
 have hE := hE.add (e40.trans q41)
 refine Step.imp (Run1.pure (r_bin hE rfl rfl (b_add rfl))) ?_
 rintro _ _ ⟨rfl, rfl⟩
 exact ⟨_, M.le.refl _, hS', ⟨rfl, (inR_wrap _ _)⟩⟩
 }
 {
 refine cplain fun pre_ post_ L_ T_ m' a' w' hl' hp' hm' hq' hS' hE' hT' => ?_
 obtain rfl := len0 hl'
 refine Step.imp (Run1.pure (r_move hE' rfl)) ?_
 rintro _ _ ⟨rfl, rfl⟩
 exact ⟨_, M.le.refl _, hS', rfl⟩
 }
 {
 refine cplain fun pre_ post_ L_ T_ m' a' w' hl' hp' hm' hq' hS' hE' hT' => ?_
 obtain rfl := len0 hl'
 refine Step.imp (Run1.pure (r_move hE' rfl)) ?_
 rintro _ _ ⟨rfl, rfl⟩
 exact ⟨_, M.le.refl _, hS', ⟨rfl, ha2⟩⟩
 }
 {
 refine cplain fun pre_ post_ L_ T_ m' a' w' hl' hp' hm' hq' hS' hE' hT' => ?_
 obtain rfl := len0 hl'
 refine Step.imp (Run1.pure (r_move hE' rfl)) ?_
 rintro _ _ ⟨rfl, rfl⟩
 exact ⟨_, M.le.refl _, hS', ⟨rfl, hr5⟩⟩
 }
 {
 refine cplain fun pre_ post_ L_ T_ m' a' w' hl' hp' hm' hq' hS' hE' hT' => ?_
 obtain rfl := len0 hl'
 obtain ⟨v47, e48, q49⟩ : ∃ v, a'.tmps.getD 21 undef = v ∧ (v = (.int .i64 p2) ∧ inR .i64 p2) := ⟨_, rfl, hT' 5 (by decide) 21 rfl⟩
 obtain ⟨q49, hr50⟩ := q49
 have hE := hE'.add (e48.trans q49)
 obtain ⟨v51, e52, q53⟩ : ∃ v, a'.tmps.getD 22 undef = v ∧ (v = (.int .i64 x4) ∧ inR .i64 x4) := ⟨_, rfl, hT' 6 (by decide) 22 rfl⟩
 obtain ⟨q53, hr54⟩ := q53
 have hE := hE.add (e52.trans q53)
 refine Step.imp (Run1.pure (r_bin hE rfl rfl (b_add rfl))) ?_
 rintro _ _ ⟨rfl, rfl⟩
 exact ⟨_, M.le.refl _, hS', ⟨rfl, (inR_wrap _ _)⟩⟩
 }
 {
 refine cplain fun pre_ post_ L_ T_ m' a' w' hl' hp' hm' hq' hS' hE' hT' => ?_
 obtain rfl := len0 hl'
 refine Step.imp (Run1.pure (r_move hE' rfl)) ?_
 rintro _ _ ⟨rfl, rfl⟩
 exact ⟨_, M.le.refl _, hS', rfl⟩
 }
 {
 refine cplain fun pre_ post_ L_ T_ m' a' w' hl' hp' hm' hq' hS' hE' hT' => ?_
 obtain rfl := len0 hl'
 refine Step.imp (Run1.pure (r_move hE' rfl)) ?_
 rintro _ _ ⟨rfl, rfl⟩
 exact ⟨_, M.le.refl _, hS', ⟨rfl, ha2⟩⟩
 }
 {
 refine cplain fun pre_ post_ L_ T_ m' a' w' hl' hp' hm' hq' hS' hE' hT' => ?_
 obtain rfl := len0 hl'
 refine Step.imp (Run1.pure (r_move hE' rfl)) ?_
 rintro _ _ ⟨rfl, rfl⟩
 exact ⟨_, M.le.refl _, hS', ⟨rfl, hr5⟩⟩
 }
 {
 refine cplain fun pre_ post_ L_ T_ m' a' w' hl' hp' hm' hq' hS' hE' hT' => ?_
 obtain rfl := len0 hl'
 obtain ⟨v59, e60, q61⟩ : ∃ v, a'.tmps.getD 25 undef = v ∧ (v = (.int .i64 p2) ∧ inR .i64 p2) := ⟨_, rfl, hT' 9 (by decide) 25 rfl⟩
 obtain ⟨q61, hr62⟩ := q61
 have hE := hE'.add (e60.trans q61)
 obtain ⟨v63, e64, q65⟩ : ∃ v, a'.tmps.getD 26 undef = v ∧ (v = (.int .i64 x4) ∧ inR .i64 x4) := ⟨_, rfl, hT' 10 (by decide) 26 rfl⟩
 obtain ⟨q65, hr66⟩ := q65
 have hE := hE.add (e64.trans q65)
 refine Step.imp (Run1.pure (r_bin hE rfl rfl (b_add rfl))) ?_
 rintro _ _ ⟨rfl, rfl⟩
 exact ⟨_, M.le.refl _, hS', ⟨rfl, (inR_wrap _ _)⟩⟩
 }
 {
 refine cplain fun pre_ post_ L_ T_ m' a' w' hl' hp' hm' hq' hS' hE' hT' => ?_
 obtain rfl := len0 hl'
 obtain rfl := len0 (lenz (a := 0) hp')
 obtain ⟨rfl, rfl⟩ := hq'
 obtain ⟨v68, e69, q70⟩ : ∃ v, a'.tmps.getD 24 undef = v ∧ (v = v0) := ⟨_, rfl, hT' 8 (by decide) 24 rfl⟩
 have hE := hE'.add (e69.trans q70)
 obtain ⟨v71, e72, q73⟩ : ∃ v, a'.tmps.getD 27 undef = v ∧ (v = (.int .i64 (IntKind.i64.wrap (p2 + x4))) ∧ inR .i64 (IntKind.i64.wrap (p2 + x4))) := ⟨_, rfl, hT' 11 (by decide) 27 rfl⟩
 obtain ⟨q73, hr74⟩ := q73
 have hE := hE.add (e72.trans q73)
 refine Step.imp (Run1.pure (r_indexG (k := kApi_Version) hE rfl rfl Try.underlying25 Try.sizeOf31 (hc8.mono hm') hj16 rfl)) ?_
 rintro _ _ ⟨rfl, rfl⟩
 exact ⟨_, M.le.refl _, hS', rfl⟩
 }
 {
 refine cplain fun pre_ post_ L_ T_ m' a' w' hl' hp' hm' hq' hS' hE' hT' => ?_
 obtain rfl := len0 hl'
 obtain rfl := len0 (lenz (a := 0) hp')
 obtain ⟨rfl, rfl⟩ := hq'
 obtain ⟨v76, e77, q78⟩ : ∃ v, a'.tmps.getD 28 undef = v ∧ (v = (.pointer (some ⟨b0_, j15 * 4, none⟩))) := ⟨_, rfl, hT' 12 (by decide) 28 rfl⟩
 have hE := hE'.add (e77.trans q78)
 refine Step.imp (st_loadL hE hS' ty31 rfl (i := 0) rfl (GS.elem (hc8.mono hm') hx19)) ?_
 rintro v79 _ ⟨rfl, hv17⟩
 exact ⟨_, M.le.refl _, hS', hv17⟩
 }
 {
 refine cplain fun pre_ post_ L_ T_ m' a' w' hl' hp' hm' hq' hS' hE' hT' => ?_
 obtain rfl := len0 hl'
 refine Step.imp (Run1.pure (r_move hE' rfl)) ?_
 rintro _ _ ⟨rfl, rfl⟩
 exact ⟨_, M.le.refl _, hS', rfl⟩
 }
 {
 refine cplain fun pre_ post_ L_ T_ m' a' w' hl' hp' hm' hq' hS' hE' hT' => ?_
 obtain rfl := len0 hl'
 refine Step.imp (Run1.pure (r_move hE' rfl)) ?_
 rintro _ _ ⟨rfl, rfl⟩
 exact ⟨_, M.le.refl _, hS', ⟨rfl, ha1⟩⟩
 }
 {
 refine cplain fun pre_ post_ L_ T_ m' a' w' hl' hp' hm' hq' hS' hE' hT' => ?_
 obtain rfl := len0 hl'
 refine Step.imp (Run1.pure (r_move hE' rfl)) ?_
 rintro _ _ ⟨rfl, rfl⟩
 exact ⟨_, M.le.refl _, hS', ⟨rfl, hr5⟩⟩
 }
 {
 refine cplain fun pre_ post_ L_ T_ m' a' w' hl' hp' hm' hq' hS' hE' hT' => ?_
 obtain rfl := len0 hl'
 obtain ⟨v83, e84, q85⟩ : ∃ v, a'.tmps.getD 31 undef = v ∧ (v = (.int .i64 p1) ∧ inR .i64 p1) := ⟨_, rfl, hT' 15 (by decide) 31 rfl⟩
 obtain ⟨q85, hr86⟩ := q85
 have hE := hE'.add (e84.trans q85)
 obtain ⟨v87, e88, q89⟩ : ∃ v, a'.tmps.getD 32 undef = v ∧ (v = (.int .i64 x4) ∧ inR .i64 x4) := ⟨_, rfl, hT' 16 (by decide) 32 rfl⟩
 obtain ⟨q89, hr90⟩ := q89
 have hE := hE.add (e88.trans q89)
 refine Step.imp (Run1.pure (r_bin hE rfl rfl (b_add rfl))) ?_
 rintro _ _ ⟨rfl, rfl⟩
 exact ⟨_, M.le.refl _, hS', ⟨rfl, (inR_wrap _ _)⟩⟩
 }
 {
 refine cplain fun pre_ post_ L_ T_ m' a' w' hl' hp' hm' hq' hS' hE' hT' => ?_
 obtain rfl := len0 hl'
 obtain rfl := len0 (lenz (a := 0) hp')
 obtain ⟨rfl, rfl⟩ := hq'
 obtain ⟨v92, e93, q94⟩ : ∃ v, a'.tmps.getD 30 undef = v ∧ (v = v0) := ⟨_, rfl, hT' 14 (by decide) 30 rfl⟩
 have hE := hE'.add (e93.trans q94)
 obtain ⟨v95, e96, q97⟩ : ∃ v, a'.tmps.getD 33 undef = v ∧ (v = (.int .i64 (IntKind.i64.wrap (p1 + x4))) ∧ inR .i64 (IntKind.i64.wrap (p1 + x4))) := ⟨_, rfl, hT' 17 (by decide) 33 rfl⟩
 obtain ⟨q97, hr98⟩ := q97
 have hE := hE.add (e96.trans q97)
 refine Step.imp (Run1.pure (r_indexG (k := kApi_Version) hE rfl rfl Try.underlying25 Try.sizeOf31 (hc8.mono hm') hj21 rfl)) ?_
 rintro _ _ ⟨rfl, rfl⟩
 exact ⟨_, M.le.refl _, hS', rfl⟩
 }
 {
 refine cplain fun pre_ post_ L_ T_ m' a' w' hl' hp' hm' hq' hS' hE' hT' => ?_
 obtain rfl := len0 hl'
 obtain rfl := len0 (lenz (a := 0) hp')
 obtain ⟨rfl, rfl⟩ := hq'
 obtain ⟨v100, e101, q102⟩ : ∃ v, a'.tmps.getD 34 undef = v ∧ (v = (.pointer (some ⟨b0_, j20 * 4, none⟩))) := ⟨_, rfl, hT' 18 (by decide) 34 rfl⟩
 have hE := hE'.add (e101.trans q102)
 refine Step.imp (st_loadL hE hS' ty31 rfl (i := 0) rfl (GS.elem (hc8.mono hm') hx24)) ?_
 rintro v103 _ ⟨rfl, hv22⟩
 exact ⟨_, M.le.refl _, hS', hv22⟩
 }
 {
 refine cplain fun pre_ post_ L_ T_ m' a' w' hl' hp' hm' hq' hS' hE' hT' => ?_
 obtain rfl := len0 hl'
 obtain rfl := len0 (lenz (a := 0) hp')
 obtain ⟨rfl, rfl⟩ := hq'
 obtain ⟨v104, e105, q106⟩ : ∃ v, a'.tmps.getD 16 undef = v ∧ (v = v0) := ⟨_, rfl, hT' 0 (by decide) 16 rfl⟩
 have hE := hE'.add (e105.trans q106)
 obtain ⟨v107, e108, q109⟩ : ∃ v, a'.tmps.getD 19 undef = v ∧ (v = (.int .i64 (IntKind.i64.wrap (p1 + x4))) ∧ inR .i64 (IntKind.i64.wrap (p1 + x4))) := ⟨_, rfl, hT' 3 (by decide) 19 rfl⟩
 obtain ⟨q109, hr110⟩ := q109
 have hE := hE.add (e108.trans q109)
 refine Step.imp (Run1.pure (r_indexG (k := kApi_Version) hE rfl rfl Try.underlying25 Try.sizeOf31 (hc8.mono hm') hj26 rfl)) ?_
 rintro _ _ ⟨rfl, rfl⟩
 exact ⟨_, M.le.refl _, hS', rfl⟩
 }
 {
 refine cturn fun pre_ L_ T_ m' a' w' hl' hm' hq' hS' hE' hT' => ?_
 obtain rfl := len0 hl'
 obtain ⟨rfl, rfl⟩ := hq'
 obtain ⟨v112, e113, q114⟩ : ∃ v, a'.tmps.getD 29 undef = v ∧ (RV kApi_Version m' v x18) := ⟨_, rfl, hT' 13 (by decide) 29 rfl⟩
 have hE := hE'.add (e113)
 obtain ⟨v115, e116, q117⟩ : ∃ v, a'.tmps.getD 36 undef = v ∧ (v = (.pointer (some ⟨b0_, j25 * 4, none⟩))) := ⟨_, rfl, hT' 20 (by decide) 36 rfl⟩
 have hE := hE.add (e116.trans q117)
 refine Step.imp (st_storeG (k := kApi_Version) hE hS' ty31 StF_self (hc8.mono hm') hx30 rfl rfl q114 (i := 0) rfl) ?_
 rintro vv31 w ⟨cs27, hc28, hS⟩
 exact ⟨_, ⟨0, undef, cs27, [], []⟩, _, _, M.le.refl _, hS, ⟨rfl, rfl, hc28⟩, trivial⟩
 }
 }
 {
 intro ws_ L_ T_ m118 a w hl119 hm120 hq121 hS hd122 hn123 ho124 hT125
 obtain ⟨⟨_, _, cs27, _, _⟩, rfl⟩ := len1 hl119
 obtain ⟨rfl, rfl, hc126⟩ := hq121
 have hE := EnvD.of (k := 22) (l' := [(0, v0), (1, (.int .i64 p1)), (2, (.int .i64 p2)), (3, (.int .i64 p3)), (10, (.int .i64 x4)), (11, (.int .i64 x4)), (12, (.int .i64 p3)), (13, (.bool (decide (x4 < p3))))]) hd122 hn123 ho124 ⟨rfl, rfl, rfl, rfl, rfl, rfl, rfl, rfl, trivial⟩ rfl
 obtain ⟨v127, e128, q129⟩ : ∃ v, a.tmps.getD 20 undef = v ∧ (v = v0) := ⟨_, rfl, hT125 4 (by decide) 20 rfl⟩
 have hE := hE.add (e128.trans q129)
 obtain ⟨v130, e131, q132⟩ : ∃ v, a.tmps.getD 23 undef = v ∧ (v = (.int .i64 (IntKind.i64.wrap (p2 + x4))) ∧ inR .i64 (IntKind.i64.wrap (p2 + x4))) := ⟨_, rfl, hT125 7 (by decide) 23 rfl⟩
 obtain ⟨q132, hr133⟩ := q132
 have hE := hE.add (e131.trans q132)
 obtain ⟨v134, e135, q136⟩ : ∃ v, a.tmps.getD 35 undef = v ∧ (RV kApi_Version m118 v x23) := ⟨_, rfl, hT125 19 (by decide) 35 rfl⟩
 have hE := hE.add (e135)
 obtain ⟨j137, hj138, h⟩ := ob h
 refine sp hE (r_indexG (k := kApi_Version) hE rfl rfl Try.underlying25 Try.sizeOf31 hc126 hj138 rfl) rfl fun a hE => ?_
 obtain ⟨x142, hx143, h⟩ := ob h
 refine st0 hE (st_storeG (k := kApi_Version) hE hS ty31 StF_self hc126 hx143 rfl rfl q136 (i := 0) rfl) ?_
 rintro _ w ⟨cs140, hc141, hS⟩ hE
 refine knil (kreg ?_)
 refine qm hE rfl rfl fun a hE => ?_
 refine sp hE (r_bin hE rfl rfl (b_add rfl)) rfl fun a hE => ?_
 refine qa hE rfl rfl fun a hE => ?_
 refine knil ?_
 exact ⟨(IntKind.i64.wrap (x4 + 1), ((x6.set j25 x18).set j137 x23)), (Option.some.inj h).symm, _, (M.le.trans hm3 hm120), cs140, (inR_wrap _ _), hc141, hS, hE.cut ⟨rfl, rfl, rfl, rfl, rfl, trivial⟩⟩
 }
 }
 {
 have h := ite_F hd14 h
 refine kexit rfl rfl ?_
 have h := unwrap h hb10
 obtain rfl := oi h
 try dsimp only
 refine Fin.mk hE (rs := []) rfl ResL.nil ?_
 exact ⟨_, hm3, cs7, hS, hc8⟩
 }
 }
theorem c_slices_rotateCmpFunc_Version  {W0 : Bse} {m : M} {w : World} {L : List (Nat × List Value)} {TL : List (Nat × Value)} {b0_ : Nat} {c0_ : List Value} (hS : S W0 m w ((b0_, c0_) :: L) (TL)) {v0 : Value} {p0 : (List Api_Version)} (ha0 : GS kApi_Version m b0_ c0_ v0 p0) {p1 : Int} (ha1 : inR .i64 p1) {p2 : Int} (ha2 : inR .i64 p2) {p3 : Int} (ha3 : inR .i64 p3) {v4 : Value} {p4 : (Api_Version → Api_Version → Option Int)} (ha4 : Fn2 Try.prog kApi_Version kApi_Version (kInt .i64) m v4 p4) {r : (List Api_Version)} (h : slices_rotateCmpFunc_Version p0 p1 p2 p3 p4 = some r) :
    Calls Try.prog 43 [v0, (.int .i64 p1), (.int .i64 p2), (.int .i64 p3), v4].toArray w (Ret fun v w' => ∃ m', M.le m m' ∧ ∃ q0_ : List Value, S W0 m' w' ((b0_, q0_) :: L) (TL) ∧ GS kApi_Version m' b0_ q0_ v0 r) := by
 refine kcall Try.func43 rfl Try.ntmps43 (Nat.le_of_ble_eq_true rfl) fun a hE => ?_
 have hE : Env 58 a [(0, v0), (1, (.int .i64 p1)), (2, (.int .i64 p2)), (3, (.int .i64 p3)), (4, v4)] := hE
 unfold slices_rotateCmpFunc_Version at h
 refine kseq (kreg ?_)
 refine qm hE rfl rfl fun a hE => ?_
 refine qm hE rfl rfl fun a hE => ?_
 refine sp hE (r_bin hE rfl rfl (b_sub rfl)) rfl fun a hE => ?_
 refine qa hE rfl rfl fun a hE => ?_
 refine knil (kseq (kreg ?_))
 refine qm hE rfl rfl fun a hE => ?_
 refine qm hE rfl rfl fun a hE => ?_
 refine sp hE (r_bin hE rfl rfl (b_sub rfl)) rfl fun a hE => ?_
 refine qa hE rfl rfl fun a hE => ?_
 refine knil (kseq ?_)
 refine kcut (fun a w => ∃ x11 : Int, ∃ x13 : (List Api_Version), slices_rotateCmpFunc_Version_j1 p2 p4 x11 x13 = some r ∧ ∃ m', M.le m m' ∧ ∃ (cs14 : List Value), inR .i64 x11 ∧ GS kApi_Version m' b0_ cs14 v0 x13 ∧ S W0 m' w ((b0_, cs14) :: L) (TL) ∧ Env 58 a [(0, v0), (2, (.int .i64 p2)), (4, v4), (10, (.int .i64 x11))]) ?_ ?_
 {
 refine kblock ?_
 refine kloop h (fun (s : (Int × Int × (List Api_Version))) a w => ∃ m', M.le m m' ∧ ∃ (cs38 : List Value), inR .i64 s.1 ∧ inR .i64 s.2.1 ∧ GS kApi_Version m' b0_ cs38 v0 s.2.2 ∧ S W0 m' w ((b0_, cs38) :: L) (TL) ∧ Env 58 a [(0, v0), (2, (.int .i64 p2)), (4, v4), (10, (.int .i64 s.1)), (11, (.int .i64 s.2.1))]) ?_ ?_
 {
 exact ⟨_, (M.le.refl _), c0_, (inR_wrap _ _), (inR_wrap _ _), ha0, hS, hE.cut ⟨rfl, rfl, rfl, rfl, rfl, trivial⟩⟩
 }
 {
 rintro ⟨x33, x35, x37⟩ a w ⟨m31, hm32, cs38, hr34, hr36, hc39, hS, hE⟩ r40 h hb41
 have h : slices_rotateCmpFunc_Version_b1 p2 p4 x33 x35 x37 = some r40 := h
 unfold slices_rotateCmpFunc_Version_b1 at h
 refine kseq (kseq (kreg ?_))
 refine qm hE rfl rfl fun a hE => ?_
 refine qm hE rfl rfl fun a hE => ?_
 refine sp hE (r_bin hE rfl rfl b_neq) rfl fun a hE => ?_
 refine knil ?_
 refine kif hE rfl (fun hd45 => ?_) (fun hd45 => ?_)
 {
 have h := ite_T hd45 h
 refine kskip (kblock (kseq (kreg ?_)))
 refine qm hE rfl rfl fun a hE => ?_
 refine qm hE rfl rfl fun a hE => ?_
 refine sp hE (r_bin hE rfl rfl b_gtr) rfl fun a hE => ?_
 refine knil ?_
 refine kif hE rfl (fun hd49 => ?_) (fun hd49 => ?_)
 {
 have h := ite_T hd49 h
 refine kseq (kreg ?_)
 refine qm hE rfl rfl fun a hE => ?_
 refine qm hE rfl rfl fun a hE => ?_
 refine qm hE rfl rfl fun a hE => ?_
 refine sp hE (r_bin hE rfl rfl (b_sub rfl)) rfl fun a hE => ?_
 refine qm hE rfl rfl fun a hE => ?_
 refine qm hE rfl rfl fun a hE => ?_
 refine qm hE rfl rfl fun a hE => ?_
 obtain ⟨r57, hr58, h⟩ := ob h
 refine st hE (st_call (vs := [v0, (.int .i64 (IntKind.i64.wrap (p2 - x33))), (.int .i64 p2), (.int .i64 x35), v4]) hE rfl Try.call47 (c_slices_swapRangeCmpFunc_Version (hS := hS) hc39 (inR_wrap _ _) ha2 hr36 (ha4.mono hm32) hr58)) rfl ?_
 rintro v63 a w ⟨m59, hm60, c0_61, hS, hc0_62⟩ hE
 refine knil (kreg ?_)
 refine qm hE rfl rfl fun a hE => ?_
 refine qm hE rfl rfl fun a hE => ?_
 refine sp hE (r_bin hE rfl rfl (b_sub rfl)) rfl fun a hE => ?_
 refine qa hE rfl rfl fun a hE => ?_
 refine knil ?_
 exact ⟨(IntKind.i64.wrap (x33 - x35), x35, r57), (Option.some.inj h).symm, _, (M.le.trans hm32 hm60), c0_61, (inR_wrap _ _), hr36, hc0_62, hS, hE.cut ⟨rfl, rfl, rfl, rfl, rfl, trivial⟩⟩
 }
 {
 have h := ite_F hd49 h
 refine kseq (kreg ?_)
 refine qm hE rfl rfl fun a hE => ?_
 refine qm hE rfl rfl fun a hE => ?_
 refine qm hE rfl rfl fun a hE => ?_
 refine sp hE (r_bin hE rfl rfl (b_sub rfl)) rfl fun a hE => ?_
 refine qm hE rfl rfl fun a hE => ?_
 refine qm hE rfl rfl fun a hE => ?_
 refine sp hE (r_bin hE rfl rfl (b_add rfl)) rfl fun a hE => ?_
 refine qm hE rfl rfl fun a hE => ?_
 refine sp hE (r_bin hE rfl rfl (b_sub rfl)) rfl fun a hE => ?_
 refine qm hE rfl rfl fun a hE => ?_
 refine qm hE rfl rfl fun a hE => ?_
 obtain ⟨r79, hr80, h⟩ := ob h
 refine st hE (st_call (vs := [v0, (.int .i64 (IntKind.i64.wrap (p2 - x33))), (.int .i64 (IntKind.i64.wrap ((IntKind.i64.wrap (p2 + x35)) - x33))), (.int .i64 x33), v4]) hE rfl Try.call47 (c_slices_swapRangeCmpFunc_Version (hS := hS) hc39 (inR_wrap _ _) (inR_wrap _ _) hr34 (ha4.mono hm32) hr80)) rfl ?_
 rintro v85 a w ⟨m81, hm82, c0_83, hS, hc0_84⟩ hE
 refine knil (kreg ?_)
 refine qm hE rfl rfl fun a hE => ?_
 refine qm hE rfl rfl fun a hE => ?_
 refine sp hE (r_bin hE rfl rfl (b_sub rfl)) rfl fun a hE => ?_
 refine qa hE rfl rfl fun a hE => ?_
 refine knil ?_
 exact ⟨(x33, IntKind.i64.wrap (x35 - x33), r79), (Option.some.inj h).symm, _, (M.le.trans hm32 hm82), c0_83, hr34, (inR_wrap _ _), hc0_84, hS, hE.cut ⟨rfl, rfl, rfl, rfl, rfl, trivial⟩⟩
 }
 }
 {
 have h := ite_F hd45 h
 refine kexit rfl rfl ?_
 have h := unwrap h hb41
 exact ⟨x33, x37, h, _, hm32, cs38, hr34, hc39, hS, hE.cut ⟨rfl, rfl, rfl, rfl, trivial⟩⟩
 }
 }
 }
 {
 rintro a w ⟨x11, x13, h, m9, hm10, cs14, hr12, hc15, hS, hE⟩
 unfold slices_rotateCmpFunc_Version_j1 at h
 refine kreg ?_
 refine qm hE rfl rfl fun a hE => ?_
 refine qm hE rfl rfl fun a hE => ?_
 refine qm hE rfl rfl fun a hE => ?_
 refine sp hE (r_bin hE rfl rfl (b_sub rfl)) rfl fun a hE => ?_
 refine qm hE rfl rfl fun a hE => ?_
 refine qm hE rfl rfl fun a hE => ?_
 refine qm hE rfl rfl fun a hE => ?_
 obtain ⟨r24, hr25, h⟩ := ob h
 refine st hE (st_call (vs := [v0, (.int .i64 (IntKind.i64.wrap (p2 - x11))), (.int .i64 p2), (.int .i64 x11), v4]) hE rfl Try.call47 (c_slices_swapRangeCmpFunc_Version (hS := hS) hc15 (inR_wrap _ _) ha2 hr12 (ha4.mono hm10) hr25)) rfl ?_
 rintro v30 a w ⟨m26, hm27, c0_28, hS, hc0_29⟩ hE
 refine knil ?_
 obtain rfl := oi h
 try dsimp only
 refine Fin.mk hE (rs := []) rfl ResL.nil ?_
 exact ⟨_, (M.le.trans hm10 hm27), c0_28, hS, hc0_29⟩
 }
theorem cF_slices_symMergeCmpFunc_Version {self_ : ((List Api_Version) → Int → Int → Int → (Api_Version → Api_Version → Option Int) → Option (List Api_Version))} (cself_ : ∀ {W0 : Bse} {m : M} {w : World} {L : List (Nat × List Value)} {TL : List (Nat × Value)} {b0_ : Nat} {c0_ : List Value} (hS : S W0 m w ((b0_, c0_) :: L) (TL)) {v0 : Value} {p0 : (List Api_Version)} (ha0 : GS kApi_Version m b0_ c0_ v0 p0) {p1 : Int} (ha1 : inR .i64 p1) {p2 : Int} (ha2 : inR .i64 p2) {p3 : Int} (ha3 : inR .i64 p3) {v4 : Value} {p4 : (Api_Version → Api_Version → Option Int)} (ha4 : Fn2 Try.prog kApi_Version kApi_Version (kInt .i64) m v4 p4) {r : (List Api_Version)} (h : self_ p0 p1 p2 p3 p4 = some r), Calls Try.prog 36 [v0, (.int .i64 p1), (.int .i64 p2), (.int .i64 p3), v4].toArray w (Ret fun v w' => ∃ m', M.le m m' ∧ ∃ q0_ : List Value, S W0 m' w' ((b0_, q0_) :: L) (TL) ∧ GS kApi_Version m' b0_ q0_ v0 r))  {W0 : Bse} {m : M} {w : World} {L : List (Nat × List Value)} {TL : List (Nat × Value)} {b0_ : Nat} {c0_ : List Value} (hS : S W0 m w ((b0_, c0_) :: L) (TL)) {v0 : Value} {p0 : (List Api_Version)} (ha0 : GS kApi_Version m b0_ c0_ v0 p0) {p1 : Int} (ha1 : inR .i64 p1) {p2 : Int} (ha2 : inR .i64 p2) {p3 : Int} (ha3 : inR .i64 p3) {v4 : Value} {p4 : (Api_Version → Api_Version → Option Int)} (ha4 : Fn2 Try.prog kApi_Version kApi_Version (kInt .i64) m v4 p4) {r : (List Api_Version)} (h : slices_symMergeCmpFunc_Version_F self_ p0 p1 p2 p3 p4 = some r) :
    Calls Try.prog 36 [v0, (.int .i64 p1), (.int .i64 p2), (.int .i64 p3), v4].toArray w (Ret fun v w' => ∃ m', M.le m m' ∧ ∃ q0_ : List Value, S W0 m' w' ((b0_, q0_) :: L) (TL) ∧ GS kApi_Version m' b0_ q0_ v0 r) := by
 refine kcall Try.func36 rfl Try.ntmps36 (Nat.le_of_ble_eq_true rfl) fun a hE => ?_
 have hE : Env 220 a [(0, v0), (1, (.int .i64 p1)), (2, (.int .i64 p2)), (3, (.int .i64 p3)), (4, v4)] := hE
 unfold slices_symMergeCmpFunc_Version_F at h
 refine kseq (kseq (kreg ?_))
 refine qm hE rfl rfl fun a hE => ?_
 refine qm hE rfl rfl fun a hE => ?_
 refine sp hE (r_bin hE rfl rfl (b_sub rfl)) rfl fun a hE => ?_
 refine sp hE (r_bin hE rfl rfl b_eql) rfl fun a hE => ?_
 refine knil ?_
 refine kif hE rfl (fun hd5 => ?_) (fun hd5 => ?_)
 {
 have h := ite_T hd5 h
 refine kseq (kreg ?_)
 refine qm hE rfl rfl fun a hE => ?_
 refine qa hE rfl rfl fun a hE => ?_
 refine knil (kseq (kreg ?_))
 refine qm hE rfl rfl fun a hE => ?_
 refine qa hE rfl rfl fun a hE => ?_
 refine knil (kseq ?_)
 refine kcut (fun a w => ∃ x12 : Int, slices_symMergeCmpFunc_Version_j1 p0 p1 x12 = some r ∧ ∃ m', M.le m m' ∧ inR .i64 x12 ∧ S W0 m' w ((b0_, c0_) :: L) (TL) ∧ Env 220 a [(0, v0), (1, (.int .i64 p1)), (10, (.int .i64 x12))]) ?_ ?_
 {
 refine kblock ?_
 refine kloop h (fun (s : (Int × Int)) a w => ∃ m', M.le m m' ∧ inR .i64 s.1 ∧ inR .i64 s.2 ∧ S W0 m' w ((b0_, c0_) :: L) (TL) ∧ Env 220 a [(0, v0), (1, (.int .i64 p1)), (4, v4), (10, (.int .i64 s.1)), (11, (.int .i64 s.2))]) ?_ ?_
 {
 exact ⟨_, (M.le.refl _), ha2, ha3, hS, hE.cut ⟨rfl, rfl, rfl, rfl, rfl, trivial⟩⟩
 }
 {
 rintro ⟨x142, x144⟩ a w ⟨m140, hm141, hr143, hr145, hS, hE⟩ r146 h hb147
 have h : slices_symMergeCmpFunc_Version_b2 p0 p1 p4 x142 x144 = some r146 := h
 unfold slices_symMergeCmpFunc_Version_b2 at h
 refine kseq (kseq (kreg ?_))
 refine qm hE rfl rfl fun a hE => ?_
 refine qm hE rfl rfl fun a hE => ?_
 refine sp hE (r_bin hE rfl rfl b_lss) rfl fun a hE => ?_
 refine knil ?_
 refine kif hE rfl (fun hd151 => ?_) (fun hd151 => ?_)
 {
 have h := ite_T hd151 h
 refine kskip (kblock (kseq (kreg ?_)))
 refine qm hE rfl rfl fun a hE => ?_
 refine qm hE rfl rfl fun a hE => ?_
 refine sp hE (r_bin hE rfl rfl (b_add rfl)) rfl fun a hE => ?_
 refine sp hE (r_conv hE rfl Try.underlying3 Try.underlying70 rfl) rfl fun a hE => ?_
 refine sp hE (r_bin hE rfl rfl (b_shr rfl (by decide))) rfl fun a hE => ?_
 refine sp hE (r_conv hE rfl Try.underlying70 Try.underlying3 rfl) rfl fun a hE => ?_
 refine qa hE rfl rfl fun a hE => ?_
 refine knil (kseq ?_)
 obtain ⟨j159, hj160, h⟩ := ob h
 obtain ⟨x162, hx163, h⟩ := ob h
 obtain ⟨j164, hj165, h⟩ := ob h
 obtain ⟨x167, hx168, h⟩ := ob h
 refine kchain (k := 9) (m := m140) (es := []) (Φ := (fun i m ws v => match i with | 0 => v = v4 | 1 => v = v0 | 2 => v = (.int .i64 (IntKind.i64.wrap (iShr .u64 (IntKind.u64.wrap (IntKind.i64.wrap (x142 + x144))) 1))) ∧ inR .i64 (IntKind.i64.wrap (iShr .u64 (IntKind.u64.wrap (IntKind.i64.wrap (x142 + x144))) 1)) | 3 => v = (.pointer (some ⟨b0_, j159 * 4, none⟩)) | 4 => RV kApi_Version m v x162 | 5 => v = v0 | 6 => v = (.int .i64 p1) ∧ inR .i64 p1 | 7 => v = (.pointer (some ⟨b0_, j164 * 4, none⟩)) | 8 => RV kApi_Version m v x167 | _ => True)) (Q := (fun c m ws L' TL' => match c with | 0 => (b0_, c0_) :: L = L' ∧ TL = TL' | _ => False)) (cs := [⟨0, 0, false, [(4, v4)]⟩, ⟨0, 0, false, [(0, v0)]⟩, ⟨0, 0, false, [(12, (.int .i64 (IntKind.i64.wrap (iShr .u64 (IntKind.u64.wrap (IntKind.i64.wrap (x142 + x144))) 1))))]⟩, ⟨0, 0, false, []⟩, ⟨0, 0, false, []⟩, ⟨0, 0, false, [(0, v0)]⟩, ⟨0, 0, false, [(1, (.int .i64 p1))]⟩, ⟨0, 0, false, []⟩, ⟨0, 0, false, []⟩]) mixed hE hS ⟨rfl, rfl⟩ rfl rfl ⟨⟨rfl, trivial⟩, ⟨rfl, trivial⟩, ⟨rfl, trivial⟩, trivial, trivial, ⟨rfl, trivial⟩, ⟨rfl, trivial⟩, trivial, trivial, trivial⟩ (by kernel_rfl) ?_ ?_ ?_ ?_
 {
 intro i m_ m2_ ws v hm_ hp_
 match i, hp_ with
 | 0, hp_ => exact hp_
 | 1, hp_ => exact hp_
 | 2, hp_ => exact hp_
 | 3, hp_ => exact hp_
 | 4, hp_ => exact RV.mono hp_ hm_
 | 5, hp_ => exact hp_
 | 6, hp_ => exact hp_
 | 7, hp_ => exact hp_
 | 8, hp_ => exact RV.mono hp_ hm_
 | _ + 9, hp_ => exact trivial
 }
 {
 intro c m_ m2_ ws L_ T_ hm_ hq_
 match c, hq_ with
 | 0, ⟨e1_, e2_⟩ => exact ⟨e1_, e2_⟩
 | _ + 1, hq_ => exact hq_.elim
 }
 {
 refine ⟨?_, ?_, ?_, ?_, ?_, ?_, ?_, ?_, ?_, trivial⟩
 {
 refine cplain fun pre_ post_ L_ T_ m' a' w' hl' hp' hm' hq' hS' hE' hT' => ?_
 obtain rfl := len0 hl'
 refine Step.imp (Run1.pure (r_move hE' rfl)) ?_
 rintro _ _ ⟨rfl, rfl⟩
 exact ⟨_, M.le.refl _, hS', rfl⟩
 }
 {
 refine cplain fun pre_ post_ L_ T_ m' a' w' hl' hp' hm' hq' hS' hE' hT' => ?_
 obtain rfl := len0 hl'
 refine Step.imp (Run1.pure (r_move hE' rfl)) ?_
 rintro _ _ ⟨rfl, rfl⟩
 exact ⟨_, M.le.refl _, hS', rfl⟩
 }
 {
 refine cplain fun pre_ post_ L_ T_ m' a' w' hl' hp' hm' hq' hS' hE' hT' => ?_
 obtain rfl := len0 hl'
 refine Step.imp (Run1.pure (r_move hE' rfl)) ?_
 rintro _ _ ⟨rfl, rfl⟩
 exact ⟨_, M.le.refl _, hS', ⟨rfl, (inR_wrap _ _)⟩⟩
 }
 {
 refine cplain fun pre_ post_ L_ T_ m' a' w' hl' hp' hm' hq' hS' hE' hT' => ?_
 obtain rfl := len0 hl'
 obtain rfl := len0 (lenz (a := 0) hp')
 obtain ⟨rfl, rfl⟩ := hq'
 obtain ⟨v172, e173, q174⟩ : ∃ v, a'.tmps.getD 41 undef = v ∧ (v = v0) := ⟨_, rfl, hT' 1 (by decide) 41 rfl⟩
 have hE := hE'.add (e173.trans q174)
 obtain ⟨v175, e176, q177⟩ : ∃ v, a'.tmps.getD 42 undef = v ∧ (v = (.int .i64 (IntKind.i64.wrap (iShr .u64 (IntKind.u64.wrap (IntKind.i64.wrap (x142 + x144))) 1))) ∧ inR .i64 (IntKind.i64.wrap (iShr .u64 (IntKind.u64.wrap (IntKind.i64.wrap (x142 + x144))) 1))) := ⟨_, rfl, hT' 2 (by decide) 42 rfl⟩
 obtain ⟨q177, hr178⟩ := q177
 have hE := hE.add (e176.trans q177)
 refine Step.imp (Run1.pure (r_indexG (k := kApi_Version) hE rfl rfl Try.underlying25 Try.sizeOf31 (ha0.mono (M.le.trans hm141 hm')) hj160 rfl)) ?_
 rintro _ _ ⟨rfl, rfl⟩
 exact ⟨_, M.le.refl _, hS', rfl⟩
 }
 {
 refine cplain fun pre_ post_ L_ T_ m' a' w' hl' hp' hm' hq' hS' hE' hT' => ?_
 obtain rfl := len0 hl'
 obtain rfl := len0 (lenz (a := 0) hp')
 obtain ⟨rfl, rfl⟩ := hq'
 obtain ⟨v180, e181, q182⟩ : ∃ v, a'.tmps.getD 43 undef = v ∧ (v = (.pointer (some ⟨b0_, j159 * 4, none⟩))) := ⟨_, rfl, hT' 3 (by decide) 43 rfl⟩
 have hE := hE'.add (e181.trans q182)
 refine Step.imp (st_loadL hE hS' ty31 rfl (i := 0) rfl (GS.elem (ha0.mono (M.le.trans hm141 hm')) hx163)) ?_
 rintro v183 _ ⟨rfl, hv161⟩
 exact ⟨_, M.le.refl _, hS', hv161⟩
 }
 {
 refine cplain fun pre_ post_ L_ T_ m' a' w' hl' hp' hm' hq' hS' hE' hT' => ?_
 obtain rfl := len0 hl'
 refine Step.imp (Run1.pure (r_move hE' rfl)) ?_
 rintro _ _ ⟨rfl, rfl⟩
 exact ⟨_, M.le.refl _, hS', rfl⟩
 }
 {
 refine cplain fun pre_ post_ L_ T_ m' a' w' hl' hp' hm' hq' hS' hE' hT' => ?_
 obtain rfl := len0 hl'
 refine Step.imp (Run1.pure (r_move hE' rfl)) ?_
 rintro _ _ ⟨rfl, rfl⟩
 exact ⟨_, M.le.refl _, hS', ⟨rfl, ha1⟩⟩
 }
 {
 refine cplain fun pre_ post_ L_ T_ m' a' w' hl' hp' hm' hq' hS' hE' hT' => ?_
 obtain rfl := len0 hl'
 obtain rfl := len0 (lenz (a := 0) hp')
 obtain ⟨rfl, rfl⟩ := hq'
 obtain ⟨v186, e187, q188⟩ : ∃ v, a'.tmps.getD 45 undef = v ∧ (v = v0) := ⟨_, rfl, hT' 5 (by decide) 45 rfl⟩
 have hE := hE'.add (e187.trans q188)
 obtain ⟨v189, e190, q191⟩ : ∃ v, a'.tmps.getD 46 undef = v ∧ (v = (.int .i64 p1) ∧ inR .i64 p1) := ⟨_, rfl, hT' 6 (by decide) 46 rfl⟩
 obtain ⟨q191, hr192⟩ := q191
 have hE := hE.add (e190.trans q191)
 refine Step.imp (Run1.pure (r_indexG (k := kApi_Version) hE rfl rfl Try.underlying25 Try.sizeOf31 (ha0.mono (M.le.trans hm141 hm')) hj165 rfl)) ?_
 rintro _ _ ⟨rfl, rfl⟩
 exact ⟨_, M.le.refl _, hS', rfl⟩
 }
 {
 refine cplain fun pre_ post_ L_ T_ m' a' w' hl' hp' hm' hq' hS' hE' hT' => ?_
 obtain rfl := len0 hl'
 obtain rfl := len0 (lenz (a := 0) hp')
 obtain ⟨rfl, rfl⟩ := hq'
 obtain ⟨v194, e195, q196⟩ : ∃ v, a'.tmps.getD 47 undef = v ∧ (v = (.pointer (some ⟨b0_, j164 * 4, none⟩))) := ⟨_, rfl, hT' 7 (by decide) 47 rfl⟩
 have hE := hE'.add (e195.trans q196)
 refine Step.imp (st_loadL hE hS' ty31 rfl (i := 0) rfl (GS.elem (ha0.mono (M.le.trans hm141 hm')) hx168)) ?_
 rintro v197 _ ⟨rfl, hv166⟩
 exact ⟨_, M.le.refl _, hS', hv166⟩
 }
 }
 {
 intro ws_ L_ T_ m198 a w hl199 hm200 hq201 hS hd202 hn203 ho204 hT205
 obtain rfl := len0 hl199
 obtain ⟨rfl, rfl⟩ := hq201
 have hE := EnvD.of (k := 9) (l' := [(0, v0), (1, (.int .i64 p1)), (4, v4), (10, (.int .i64 x142)), (11, (.int .i64 x144)), (12, (.int .i64 (IntKind.i64.wrap (iShr .u64 (IntKind.u64.wrap (IntKind.i64.wrap (x142 + x144))) 1)))), (31, (.int .i64 x142)), (32, (.int .i64 x144)), (33, (.bool (decide (x142 < x144)))), (34, (.int .i64 x142)), (35, (.int .i64 x144)), (36, (.int .i64 (IntKind.i64.wrap (x142 + x144)))), (37, (.int .u64 (IntKind.u64.wrap (IntKind.i64.wrap (x142 + x144))))), (38, (.int .u64 (iShr .u64 (IntKind.u64.wrap (IntKind.i64.wrap (x142 + x144))) 1))), (39, (.int .i64 (IntKind.i64.wrap (iShr .u64 (IntKind.u64.wrap (IntKind.i64.wrap (x142 + x144))) 1))))]) hd202 hn203 ho204 ⟨rfl, rfl, rfl, rfl, rfl, rfl, rfl, rfl, rfl, rfl, rfl, rfl, rfl, rfl, rfl, trivial⟩ rfl
 obtain ⟨v206, e207, q208⟩ : ∃ v, a.tmps.getD 40 undef = v ∧ (v = v4) := ⟨_, rfl, hT205 0 (by decide) 40 rfl⟩
 have hE := hE.add (e207.trans q208)
 obtain ⟨v209, e210, q211⟩ : ∃ v, a.tmps.getD 44 undef = v ∧ (RV kApi_Version m198 v x162) := ⟨_, rfl, hT205 4 (by decide) 44 rfl⟩
 have hE := hE.add (e210)
 obtain ⟨v212, e213, q214⟩ : ∃ v, a.tmps.getD 48 undef = v ∧ (RV kApi_Version m198 v x167) := ⟨_, rfl, hT205 8 (by decide) 48 rfl⟩
 have hE := hE.add (e213)
 obtain ⟨r215, hr216, h⟩ := ob h
 refine st hE (st_callF2 hE hS rfl rfl (ha4.mono (M.le.trans hm141 hm200)) q211 q214 hr216) rfl ?_
 rintro v220 a w ⟨m217, hm218, hS, hv219⟩ hE
 obtain ⟨rfl, hr221⟩ := RV_int hv219
 refine sp hE (r_bin hE rfl rfl b_lss) rfl fun a hE => ?_
 refine knil ?_
 refine kif hE rfl (fun hd223 => ?_) (fun hd223 => ?_)
 {
 have h := ite_T hd223 h
 refine kreg ?_
 refine qm hE rfl rfl fun a hE => ?_
 refine sp hE (r_bin hE rfl rfl (b_add rfl)) rfl fun a hE => ?_
 refine qa hE rfl rfl fun a hE => ?_
 refine knil ?_
 exact ⟨(IntKind.i64.wrap ((IntKind.i64.wrap (iShr .u64 (IntKind.u64.wrap (IntKind.i64.wrap (x142 + x144))) 1)) + 1), x144), (Option.some.inj h).symm, _, (M.le.trans hm141 (M.le.trans hm200 hm218)), (inR_wrap _ _), hr145, hS, hE.cut ⟨rfl, rfl, rfl, rfl, rfl, trivial⟩⟩
 }
 {
 have h := ite_F hd223 h
 refine kreg ?_
 refine qm hE rfl rfl fun a hE => ?_
 refine qa hE rfl rfl fun a hE => ?_
 refine knil ?_
 exact ⟨(x142, IntKind.i64.wrap (iShr .u64 (IntKind.u64.wrap (IntKind.i64.wrap (x142 + x144))) 1)), (Option.some.inj h).symm, _, (M.le.trans hm141 (M.le.trans hm200 hm218)), hr143, (inR_wrap _ _), hS, hE.cut ⟨rfl, rfl, rfl, rfl, rfl, trivial⟩⟩
 }
 }
 }
 {
 have h := ite_F hd151 h
 refine kexit rfl rfl ?_
 have h := unwrap h hb147
 exact ⟨x142, h, _, hm141, hr143, hS, hE.cut ⟨rfl, rfl, rfl, trivial⟩⟩
 }
 }
 }
 {
 rintro a w ⟨x12, h, m10, hm11, hr13, hS, hE⟩
 unfold slices_symMergeCmpFunc_Version_j1 at h
 refine kseq (kseq (kreg ?_))
 refine qm hE rfl rfl fun a hE => ?_
 refine qa hE rfl rfl fun a hE => ?_
 refine knil ?_
 refine kcut (fun a w => ∃ x19 : (List Api_Version), slices_symMergeCmpFunc_Version_j2 x19 = some r ∧ ∃ m', M.le m10 m' ∧ ∃ (cs20 : List Value), GS kApi_Version m' b0_ cs20 v0 x19 ∧ S W0 m' w ((b0_, cs20) :: L) (TL) ∧ Env 220 a []) ?_ ?_
 {
 refine kblock ?_
 refine kloop h (fun (s : (Int × (List Api_Version))) a w => ∃ m', M.le m10 m' ∧ ∃ (cs28 : List Value), inR .i64 s.1 ∧ GS kApi_Version m' b0_ cs28 v0 s.2 ∧ S W0 m' w ((b0_, cs28) :: L) (TL) ∧ Env 220 a [(0, v0), (10, (.int .i64 x12)), (13, (.int .i64 s.1))]) ?_ ?_
 {
 exact ⟨_, (M.le.refl _), c0_, ha1, (ha0.mono hm11), hS, hE.cut ⟨rfl, rfl, rfl, trivial⟩⟩
 }
 {
 rintro ⟨x25, x27⟩ a w ⟨m23, hm24, cs28, hr26, hc29, hS, hE⟩ r30 h hb31
 have h : slices_symMergeCmpFunc_Version_b1 x12 x25 x27 = some r30 := h
 unfold slices_symMergeCmpFunc_Version_b1 at h
 refine kseq (kseq (kreg ?_))
 refine qm hE rfl rfl fun a hE => ?_
 refine qm hE rfl rfl fun a hE => ?_
 refine sp hE (r_bin hE rfl rfl (b_sub rfl)) rfl fun a hE => ?_
 refine sp hE (r_bin hE rfl rfl b_lss) rfl fun a hE => ?_
 refine knil ?_
 refine kif hE rfl (fun hd36 => ?_) (fun hd36 => ?_)
 {
 have h := ite_T hd36 h
 refine kskip (kseq (kblock ?_))
 obtain ⟨j37, hj38, h⟩ := ob h
 obtain ⟨x40, hx41, h⟩ := ob h
 obtain ⟨j42, hj43, h⟩ := ob h
 obtain ⟨x45, hx46, h⟩ := ob h
 obtain ⟨j47, hj48, h⟩ := ob h
 obtain ⟨x51, hx52, h⟩ := ob h
 refine kchain (k := 16) (m := m23) (es := [15]) (Φ := (fun i m ws v => match i with | 0 => v = v0 | 1 => v = (.int .i64 x25) ∧ inR .i64 x25 | 2 => v = v0 | 3 => v = (.int .i64 x25) ∧ inR .i64 x25 | 4 => v = (.int .i64 (IntKind.i64.wrap (x25 + 1))) ∧ inR .i64 (IntKind.i64.wrap (x25 + 1)) | 5 => v = v0 | 6 => v = (.int .i64 x25) ∧ inR .i64 x25 | 7 => v = (.int .i64 (IntKind.i64.wrap (x25 + 1))) ∧ inR .i64 (IntKind.i64.wrap (x25 + 1)) | 8 => v = (.pointer (some ⟨b0_, j37 * 4, none⟩)) | 9 => RV kApi_Version m v x40 | 10 => v = v0 | 11 => v = (.int .i64 x25) ∧ inR .i64 x25 | 12 => v = (.pointer (some ⟨b0_, j42 * 4, none⟩)) | 13 => RV kApi_Version m v x45 | 14 => v = (.pointer (some ⟨b0_, j47 * 4, none⟩)) | 15 => True | _ => True)) (Q := (fun c m ws L' TL' => match c with | 0 => (b0_, cs28) :: L = L' ∧ TL = TL' | 1 => (b0_, (wi ws 0).c) :: L = L' ∧ TL = TL' ∧ GS kApi_Version m b0_ (wi ws 0).c v0 (x27.set j47 x40) | _ => False)) (cs := [⟨0, 0, false, [(0, v0)]⟩, ⟨0, 0, false, [(13, (.int .i64 x25))]⟩, ⟨0, 1, false, [(0, v0)]⟩, ⟨0, 1, false, [(13, (.int .i64 x25))]⟩, ⟨0, 1, false, []⟩, ⟨0, 0, false, [(0, v0)]⟩, ⟨0, 0, false, [(13, (.int .i64 x25))]⟩, ⟨0, 0, false, []⟩, ⟨0, 0, false, []⟩, ⟨0, 0, false, []⟩, ⟨0, 0, false, [(0, v0)]⟩, ⟨0, 0, false, [(13, (.int .i64 x25))]⟩, ⟨0, 0, false, []⟩, ⟨0, 0, false, []⟩, ⟨0, 0, false, []⟩, ⟨0, 0, true, []⟩]) mixed hE hS ⟨rfl, rfl⟩ rfl rfl ⟨⟨rfl, trivial⟩, ⟨rfl, trivial⟩, ⟨rfl, trivial⟩, ⟨rfl, trivial⟩, trivial, ⟨rfl, trivial⟩, ⟨rfl, trivial⟩, trivial, trivial, trivial, ⟨rfl, trivial⟩, ⟨rfl, trivial⟩, trivial, trivial, trivial, trivial, trivial⟩ (by kernel_rfl) ?_ ?_ ?_ ?_
 {
 intro i m_ m2_ ws v hm_ hp_
 match i, hp_ with
 | 0, hp_ => exact hp_
 | 1, hp_ => exact hp_
 | 2, hp_ => exact hp_
 | 3, hp_ => exact hp_
 | 4, hp_ => exact hp_
 | 5, hp_ => exact hp_
 | 6, hp_ => exact hp_
 | 7, hp_ => exact hp_
 | 8, hp_ => exact hp_
 | 9, hp_ => exact RV.mono hp_ hm_
 | 10, hp_ => exact hp_
 | 11, hp_ => exact hp_
 | 12, hp_ => exact hp_
 | 13, hp_ => exact RV.mono hp_ hm_
 | 14, hp_ => exact hp_
 | 15, hp_ => exact hp_
 | _ + 16, hp_ => exact trivial
 }
 {
 intro c m_ m2_ ws L_ T_ hm_ hq_
 match c, hq_ with
 | 0, ⟨e1_, e2_⟩ => exact ⟨e1_, e2_⟩
 | 1, ⟨e1_, e2_, f0_⟩ => exact ⟨e1_, e2_, (GS.mono f0_ hm_)⟩
 | _ + 2, hq_ => exact hq_.elim
 }
 {
 refine ⟨?_, ?_, ?_, ?_, ?_, ?_, ?_, ?_, ?_, ?_, ?_, ?_, ?_, ?_, ?_, ?_, trivial⟩
 {
 refine cplain fun pre_ post_ L_ T_ m' a' w' hl' hp' hm' hq' hS' hE' hT' => ?_
 obtain rfl := len0 hl'
 refine Step.imp (Run1.pure (r_move hE' rfl)) ?_
 rintro _ _ ⟨rfl, rfl⟩
 exact ⟨_, M.le.refl _, hS', rfl⟩
 }
 {
 refine cplain fun pre_ post_ L_ T_ m' a' w' hl' hp' hm' hq' hS' hE' hT' => ?_
 obtain rfl := len0 hl'
 refine Step.imp (Run1.pure (r_move hE' rfl)) ?_
 rintro _ _ ⟨rfl, rfl⟩
 exact ⟨_, M.le.refl _, hS', ⟨rfl, hr26⟩⟩
 }
 {
 refine cplain fun pre_ post_ L_ T_ m' a' w' hl' hp' hm' hq' hS' hE' hT' => ?_
 obtain rfl := len0 hl'
 refine Step.imp (Run1.pure (r_move hE' rfl)) ?_
 rintro _ _ ⟨rfl, rfl⟩
 exact ⟨_, M.le.refl _, hS', rfl⟩
 }
 {
 refine cplain fun pre_ post_ L_ T_ m' a' w' hl' hp' hm' hq' hS' hE' hT' => ?_
 obtain rfl := len0 hl'
 refine Step.imp (Run1.pure (r_move hE' rfl)) ?_
 rintro _ _ ⟨rfl, rfl⟩
 exact ⟨_, M.le.refl _, hS', ⟨rfl, hr26⟩⟩
 }
 {
 refine cplain fun pre_ post_ L_ T_ m' a' w' hl' hp' hm' hq' hS' hE' hT' => ?_
 obtain rfl := len0 hl'
 obtain ⟨v58, e59, q60⟩ : ∃ v, a'.tmps.getD 64 undef = v ∧ (v = (.int .i64 x25) ∧ inR .i64 x25) := ⟨_, rfl, hT' 3 (by decide) 64 rfl⟩
 obtain ⟨q60, hr61⟩ := q60
 have hE := hE'.add (e59.trans q60)
 refine Step.imp (Run1.pure (r_bin hE rfl rfl (b_add rfl))) ?_
 rintro _ _ ⟨rfl, rfl⟩
 exact ⟨_, M.le.refl _, hS', ⟨rfl, (inR_wrap _ _)⟩⟩
 }
 {
 refine cplain fun pre_ post_ L_ T_ m' a' w' hl' hp' hm' hq' hS' hE' hT' => ?_
 obtain rfl := len0 hl'
 refine Step.imp (Run1.pure (r_move hE' rfl)) ?_
 rintro _ _ ⟨rfl, rfl⟩
 exact ⟨_, M.le.refl _, hS', rfl⟩
 }
 {
 refine cplain fun pre_ post_ L_ T_ m' a' w' hl' hp' hm' hq' hS' hE' hT' => ?_
 obtain rfl := len0 hl'
 refine Step.imp (Run1.pure (r_move hE' rfl)) ?_
 rintro _ _ ⟨rfl, rfl⟩
 exact ⟨_, M.le.refl _, hS', ⟨rfl, hr26⟩⟩
 }
 {
 refine cplain fun pre_ post_ L_ T_ m' a' w' hl' hp' hm' hq' hS' hE' hT' => ?_
 obtain rfl := len0 hl'
 obtain ⟨v65, e66, q67⟩ : ∃ v, a'.tmps.getD 67 undef = v ∧ (v = (.int .i64 x25) ∧ inR .i64 x25) := ⟨_, rfl, hT' 6 (by decide) 67 rfl⟩
 obtain ⟨q67, hr68⟩ := q67
 have hE := hE'.add (e66.trans q67)
 refine Step.imp (Run1.pure (r_bin hE rfl rfl (b_add rfl))) ?_
 rintro _ _ ⟨rfl, rfl⟩
 exact ⟨_, M.le.refl _, hS', ⟨rfl, (inR_wrap _ _)⟩⟩
 }
 {
 refine cplain fun pre_ post_ L_ T_ m' a' w' hl' hp' hm' hq' hS' hE' hT' => ?_
 obtain rfl := len0 hl'
 obtain rfl := len0 (lenz (a := 0) hp')
 obtain ⟨rfl, rfl⟩ := hq'
 obtain ⟨v70, e71, q72⟩ : ∃ v, a'.tmps.getD 66 undef = v ∧ (v = v0) := ⟨_, rfl, hT' 5 (by decide) 66 rfl⟩
 have hE := hE'.add (e71.trans q72)
 obtain ⟨v73, e74, q75⟩ : ∃ v, a'.tmps.getD 68 undef = v ∧ (v = (.int .i64 (IntKind.i64.wrap (x25 + 1))) ∧ inR .i64 (IntKind.i64.wrap (x25 + 1))) := ⟨_, rfl, hT' 7 (by decide) 68 rfl⟩
 obtain ⟨q75, hr76⟩ := q75
 have hE := hE.add (e74.trans q75)
 refine Step.imp (Run1.pure (r_indexG (k := kApi_Version) hE rfl rfl Try.underlying25 Try.sizeOf31 (hc29.mono hm') hj38 rfl)) ?_
 rintro _ _ ⟨rfl, rfl⟩
 exact ⟨_, M.le.refl _, hS', rfl⟩
 }
 {
 refine cplain fun pre_ post_ L_ T_ m' a' w' hl' hp' hm' hq' hS' hE' hT' => ?_
 obtain rfl := len0 hl'
 obtain rfl := len0 (lenz (a := 0) hp')
 obtain ⟨rfl, rfl⟩ := hq'
 obtain ⟨v78, e79, q80⟩ : ∃ v, a'.tmps.getD 69 undef = v ∧ (v = (.pointer (some ⟨b0_, j37 * 4, none⟩))) := ⟨_, rfl, hT' 8 (by decide) 69 rfl⟩
 have hE := hE'.add (e79.trans q80)
 refine Step.imp (st_loadL hE hS' ty31 rfl (i := 0) rfl (GS.elem (hc29.mono hm') hx41)) ?_
 rintro v81 _ ⟨rfl, hv39⟩
 exact ⟨_, M.le.refl _, hS', hv39⟩
 }
 {
 refine cplain fun pre_ post_ L_ T_ m' a' w' hl' hp' hm' hq' hS' hE' hT' => ?_
 obtain rfl := len0 hl'
 refine Step.imp (Run1.pure (r_move hE' rfl)) ?_
 rintro _ _ ⟨rfl, rfl⟩
 exact ⟨_, M.le.refl _, hS', rfl⟩
 }
 {
 refine cplain fun pre_ post_ L_ T_ m' a' w' hl' hp' hm' hq' hS' hE' hT' => ?_
 obtain rfl := len0 hl'
 refine Step.imp (Run1.pure (r_move hE' rfl)) ?_
 rintro _ _ ⟨rfl, rfl⟩
 exact ⟨_, M.le.refl _, hS', ⟨rfl, hr26⟩⟩
 }
 {
 refine cplain fun pre_ post_ L_ T_ m' a' w' hl' hp' hm' hq' hS' hE' hT' => ?_
 obtain rfl := len0 hl'
 obtain rfl := len0 (lenz (a := 0) hp')
 obtain ⟨rfl, rfl⟩ := hq'
 obtain ⟨v84, e85, q86⟩ : ∃ v, a'.tmps.getD 71 undef = v ∧ (v = v0) := ⟨_, rfl, hT' 10 (by decide) 71 rfl⟩
 have hE := hE'.add (e85.trans q86)
 obtain ⟨v87, e88, q89⟩ : ∃ v, a'.tmps.getD 72 undef = v ∧ (v = (.int .i64 x25) ∧ inR .i64 x25) := ⟨_, rfl, hT' 11 (by decide) 72 rfl⟩
 obtain ⟨q89, hr90⟩ := q89
 have hE := hE.add (e88.trans q89)
 refine Step.imp (Run1.pure (r_indexG (k := kApi_Version) hE rfl rfl Try.underlying25 Try.sizeOf31 (hc29.mono hm') hj43 rfl)) ?_
 rintro _ _ ⟨rfl, rfl⟩
 exact ⟨_, M.le.refl _, hS', rfl⟩
 }
 {
 refine cplain fun pre_ post_ L_ T_ m' a' w' hl' hp' hm' hq' hS' hE' hT' => ?_
 obtain rfl := len0 hl'
 obtain rfl := len0 (lenz (a := 0) hp')
 obtain ⟨rfl, rfl⟩ := hq'
 obtain ⟨v92, e93, q94⟩ : ∃ v, a'.tmps.getD 73 undef = v ∧ (v = (.pointer (some ⟨b0_, j42 * 4, none⟩))) := ⟨_, rfl, hT' 12 (by decide) 73 rfl⟩
 have hE := hE'.add (e93.trans q94)
 refine Step.imp (st_loadL hE hS' ty31 rfl (i := 0) rfl (GS.elem (hc29.mono hm') hx46)) ?_
 rintro v95 _ ⟨rfl, hv44⟩
 exact ⟨_, M.le.refl _, hS', hv44⟩
 }
 {
 refine cplain fun pre_ post_ L_ T_ m' a' w' hl' hp' hm' hq' hS' hE' hT' => ?_
 obtain rfl := len0 hl'
 obtain rfl := len0 (lenz (a := 0) hp')
 obtain ⟨rfl, rfl⟩ := hq'
 obtain ⟨v96, e97, q98⟩ : ∃ v, a'.tmps.getD 61 undef = v ∧ (v = v0) := ⟨_, rfl, hT' 0 (by decide) 61 rfl⟩
 have hE := hE'.add (e97.trans q98)
 obtain ⟨v99, e100, q101⟩ : ∃ v, a'.tmps.getD 62 undef = v ∧ (v = (.int .i64 x25) ∧ inR .i64 x25) := ⟨_, rfl, hT' 1 (by decide) 62 rfl⟩
 obtain ⟨q101, hr102⟩ := q101
 have hE := hE.add (e100.trans q101)
 refine Step.imp (Run1.pure (r_indexG (k := kApi_Version) hE rfl rfl Try.underlying25 Try.sizeOf31 (hc29.mono hm') hj48 rfl)) ?_
 rintro _ _ ⟨rfl, rfl⟩
 exact ⟨_, M.le.refl _, hS', rfl⟩
 }
 {
 refine cturn fun pre_ L_ T_ m' a' w' hl' hm' hq' hS' hE' hT' => ?_
 obtain rfl := len0 hl'
 obtain ⟨rfl, rfl⟩ := hq'
 obtain ⟨v104, e105, q106⟩ : ∃ v, a'.tmps.getD 70 undef = v ∧ (RV kApi_Version m' v x40) := ⟨_, rfl, hT' 9 (by decide) 70 rfl⟩
 have hE := hE'.add (e105)
 obtain ⟨v107, e108, q109⟩ : ∃ v, a'.tmps.getD 75 undef = v ∧ (v = (.pointer (some ⟨b0_, j47 * 4, none⟩))) := ⟨_, rfl, hT' 14 (by decide) 75 rfl⟩
 have hE := hE.add (e108.trans q109)
 refine Step.imp (st_storeG (k := kApi_Version) hE hS' ty31 StF_self (hc29.mono hm') hx52 rfl rfl q106 (i := 0) rfl) ?_
 rintro vv53 w ⟨cs49, hc50, hS⟩
 exact ⟨_, ⟨0, undef, cs49, [], []⟩, _, _, M.le.refl _, hS, ⟨rfl, rfl, hc50⟩, trivial⟩
 }
 }
 {
 intro ws_ L_ T_ m110 a w hl111 hm112 hq113 hS hd114 hn115 ho116 hT117
 obtain ⟨⟨_, _, cs49, _, _⟩, rfl⟩ := len1 hl111
 obtain ⟨rfl, rfl, hc118⟩ := hq113
 have hE := EnvD.of (k := 16) (l' := [(0, v0), (10, (.int .i64 x12)), (13, (.int .i64 x25)), (55, (.int .i64 x25)), (56, (.int .i64 x12)), (57, (.int .i64 (IntKind.i64.wrap (x12 - 1)))), (58, (.bool (decide (x25 < (IntKind.i64.wrap (x12 - 1))))))]) hd114 hn115 ho116 ⟨rfl, rfl, rfl, rfl, rfl, rfl, rfl, trivial⟩ rfl
 obtain ⟨v119, e120, q121⟩ : ∃ v, a.tmps.getD 63 undef = v ∧ (v = v0) := ⟨_, rfl, hT117 2 (by decide) 63 rfl⟩
 have hE := hE.add (e120.trans q121)
 obtain ⟨v122, e123, q124⟩ : ∃ v, a.tmps.getD 65 undef = v ∧ (v = (.int .i64 (IntKind.i64.wrap (x25 + 1))) ∧ inR .i64 (IntKind.i64.wrap (x25 + 1))) := ⟨_, rfl, hT117 4 (by decide) 65 rfl⟩
 obtain ⟨q124, hr125⟩ := q124
 have hE := hE.add (e123.trans q124)
 obtain ⟨v126, e127, q128⟩ : ∃ v, a.tmps.getD 74 undef = v ∧ (RV kApi_Version m110 v x45) := ⟨_, rfl, hT117 13 (by decide) 74 rfl⟩
 have hE := hE.add (e127)
 obtain ⟨j129, hj130, h⟩ := ob h
 refine sp hE (r_indexG (k := kApi_Version) hE rfl rfl Try.underlying25 Try.sizeOf31 hc118 hj130 rfl) rfl fun a hE => ?_
 obtain ⟨x134, hx135, h⟩ := ob h
 refine st0 hE (st_storeG (k := kApi_Version) hE hS ty31 StF_self hc118 hx135 rfl rfl q128 (i := 0) rfl) ?_
 rintro _ w ⟨cs132, hc133, hS⟩ hE
 refine knil (kreg ?_)
 refine qm hE rfl rfl fun a hE => ?_
 refine sp hE (r_bin hE rfl rfl (b_add rfl)) rfl fun a hE => ?_
 refine qa hE rfl rfl fun a hE => ?_
 refine knil ?_
 exact ⟨(IntKind.i64.wrap (x25 + 1), ((x27.set j47 x40).set j129 x45)), (Option.some.inj h).symm, _, (M.le.trans hm24 hm112), cs132, (inR_wrap _ _), hc133, hS, hE.cut ⟨rfl, rfl, rfl, trivial⟩⟩
 }
 }
 {
 have h := ite_F hd36 h
 refine kexit rfl rfl ?_
 have h := unwrap h hb31
 exact ⟨x27, h, _, hm24, cs28, hc29, hS, hE.cut trivial⟩
 }
 }
 }
 {
 rintro a w ⟨x19, h, m17, hm18, cs20, hc21, hS, hE⟩
 unfold slices_symMergeCmpFunc_Version_j2 at h
 refine kret ?_
 obtain rfl := oi h
 try dsimp only
 refine Fin.mk hE (rs := []) rfl ResL.nil ?_
 exact ⟨_, (M.le.trans hm11 hm18), cs20, hS, hc21⟩
 }
 }
 }
 {
 have h := ite_F hd5 h
 refine kskip (kseq (kseq (kreg ?_)))
 refine qm hE rfl rfl fun a hE => ?_
 refine qm hE rfl rfl fun a hE => ?_
 refine sp hE (r_bin hE rfl rfl (b_sub rfl)) rfl fun a hE => ?_
 refine sp hE (r_bin hE rfl rfl b_eql) rfl fun a hE => ?_
 refine knil ?_
 refine kif hE rfl (fun hd233 => ?_) (fun hd233 => ?_)
 {
 have h := ite_T hd233 h
 refine kseq (kreg ?_)
 refine qm hE rfl rfl fun a hE => ?_
 refine qa hE rfl rfl fun a hE => ?_
 refine knil (kseq (kreg ?_))
 refine qm hE rfl rfl fun a hE => ?_
 refine qa hE rfl rfl fun a hE => ?_
 refine knil (kseq ?_)
 refine kcut (fun a w => ∃ x240 : Int, slices_symMergeCmpFunc_Version_j3 p0 p2 x240 = some r ∧ ∃ m', M.le m m' ∧ inR .i64 x240 ∧ S W0 m' w ((b0_, c0_) :: L) (TL) ∧ Env 220 a [(0, v0), (2, (.int .i64 p2)), (14, (.int .i64 x240))]) ?_ ?_
 {
 refine kblock ?_
 refine kloop h (fun (s : (Int × Int)) a w => ∃ m', M.le m m' ∧ inR .i64 s.1 ∧ inR .i64 s.2 ∧ S W0 m' w ((b0_, c0_) :: L) (TL) ∧ Env 220 a [(0, v0), (2, (.int .i64 p2)), (4, v4), (14, (.int .i64 s.1)), (15, (.int .i64 s.2))]) ?_ ?_
 {
 exact ⟨_, (M.le.refl _), ha1, ha2, hS, hE.cut ⟨rfl, rfl, rfl, rfl, rfl, trivial⟩⟩
 }
 {
 rintro ⟨x369, x371⟩ a w ⟨m367, hm368, hr370, hr372, hS, hE⟩ r373 h hb374
 have h : slices_symMergeCmpFunc_Version_b4 p0 p2 p4 x369 x371 = some r373 := h
 unfold slices_symMergeCmpFunc_Version_b4 at h
 refine kseq (kseq (kreg ?_))
 refine qm hE rfl rfl fun a hE => ?_
 refine qm hE rfl rfl fun a hE => ?_
 refine sp hE (r_bin hE rfl rfl b_lss) rfl fun a hE => ?_
 refine knil ?_
 refine kif hE rfl (fun hd378 => ?_) (fun hd378 => ?_)
 {
 have h := ite_T hd378 h
 refine kskip (kblock (kseq (kreg ?_)))
 refine qm hE rfl rfl fun a hE => ?_
 refine qm hE rfl rfl fun a hE => ?_
 refine sp hE (r_bin hE rfl rfl (b_add rfl)) rfl fun a hE => ?_
 refine sp hE (r_conv hE rfl Try.underlying3 Try.underlying70 rfl) rfl fun a hE => ?_
 refine sp hE (r_bin hE rfl rfl (b_shr rfl (by decide))) rfl fun a hE => ?_
 refine sp hE (r_conv hE rfl Try.underlying70 Try.underlying3 rfl) rfl fun a hE => ?_
 refine qa hE rfl rfl fun a hE => ?_
 refine knil (kseq ?_)
 obtain ⟨j386, hj387, h⟩ := ob h
 obtain ⟨x389, hx390, h⟩ := ob h
 obtain ⟨j391, hj392, h⟩ := ob h
 obtain ⟨x394, hx395, h⟩ := ob h
 refine kchain (k := 9) (m := m367) (es := []) (Φ := (fun i m ws v => match i with | 0 => v = v4 | 1 => v = v0 | 2 => v = (.int .i64 p2) ∧ inR .i64 p2 | 3 => v = (.pointer (some ⟨b0_, j386 * 4, none⟩)) | 4 => RV kApi_Version m v x389 | 5 => v = v0 | 6 => v = (.int .i64 (IntKind.i64.wrap (iShr .u64 (IntKind.u64.wrap (IntKind.i64.wrap (x369 + x371))) 1))) ∧ inR .i64 (IntKind.i64.wrap (iShr .u64 (IntKind.u64.wrap (IntKind.i64.wrap (x369 + x371))) 1)) | 7 => v = (.pointer (some ⟨b0_, j391 * 4, none⟩)) | 8 => RV kApi_Version m v x394 | _ => True)) (Q := (fun c m ws L' TL' => match c with | 0 => (b0_, c0_) :: L = L' ∧ TL = TL' | _ => False)) (cs := [⟨0, 0, false, [(4, v4)]⟩, ⟨0, 0, false, [(0, v0)]⟩, ⟨0, 0, false, [(2, (.int .i64 p2))]⟩, ⟨0, 0, false, []⟩, ⟨0, 0, false, []⟩, ⟨0, 0, false, [(0, v0)]⟩, ⟨0, 0, false, [(16, (.int .i64 (IntKind.i64.wrap (iShr .u64 (IntKind.u64.wrap (IntKind.i64.wrap (x369 + x371))) 1))))]⟩, ⟨0, 0, false, []⟩, ⟨0, 0, false, []⟩]) mixed hE hS ⟨rfl, rfl⟩ rfl rfl ⟨⟨rfl, trivial⟩, ⟨rfl, trivial⟩, ⟨rfl, trivial⟩, trivial, trivial, ⟨rfl, trivial⟩, ⟨rfl, trivial⟩, trivial, trivial, trivial⟩ (by kernel_rfl) ?_ ?_ ?_ ?_
 {
 intro i m_ m2_ ws v hm_ hp_
 match i, hp_ with
 | 0, hp_ => exact hp_
 | 1, hp_ => exact hp_
 | 2, hp_ => exact hp_
 | 3, hp_ => exact hp_
 | 4, hp_ => exact RV.mono hp_ hm_
 | 5, hp_ => exact hp_
 | 6, hp_ => exact hp_
 | 7, hp_ => exact hp_
 | 8, hp_ => exact RV.mono hp_ hm_
 | _ + 9, hp_ => exact trivial
 }
 {
 intro c m_ m2_ ws L_ T_ hm_ hq_
 match c, hq_ with
 | 0, ⟨e1_, e2_⟩ => exact ⟨e1_, e2_⟩
 | _ + 1, hq_ => exact hq_.elim
 }
 {
 refine ⟨?_, ?_, ?_, ?_, ?_, ?_, ?_, ?_, ?_, trivial⟩
 {
 refine cplain fun pre_ post_ L_ T_ m' a' w' hl' hp' hm' hq' hS' hE' hT' => ?_
 obtain rfl := len0 hl'
 refine Step.imp (Run1.pure (r_move hE' rfl)) ?_
 rintro _ _ ⟨rfl, rfl⟩
 exact ⟨_, M.le.refl _, hS', rfl⟩
 }
 {
 refine cplain fun pre_ post_ L_ T_ m' a' w' hl' hp' hm' hq' hS' hE' hT' => ?_
 obtain rfl := len0 hl'
 refine Step.imp (Run1.pure (r_move hE' rfl)) ?_
 rintro _ _ ⟨rfl, rfl⟩
 exact ⟨_, M.le.refl _, hS', rfl⟩
 }
 {
 refine cplain fun pre_ post_ L_ T_ m' a' w' hl' hp' hm' hq' hS' hE' hT' => ?_
 obtain rfl := len0 hl'
 refine Step.imp (Run1.pure (r_move hE' rfl)) ?_
 rintro _ _ ⟨rfl, rfl⟩
 exact ⟨_, M.le.refl _, hS', ⟨rfl, ha2⟩⟩
 }
 {
 refine cplain fun pre_ post_ L_ T_ m' a' w' hl' hp' hm' hq' hS' hE' hT' => ?_
 obtain rfl := len0 hl'
 obtain rfl := len0 (lenz (a := 0) hp')
 obtain ⟨rfl, rfl⟩ := hq'
 obtain ⟨v399, e400, q401⟩ : ∃ v, a'.tmps.getD 93 undef = v ∧ (v = v0) := ⟨_, rfl, hT' 1 (by decide) 93 rfl⟩
 have hE := hE'.add (e400.trans q401)
 obtain ⟨v402, e403, q404⟩ : ∃ v, a'.tmps.getD 94 undef = v ∧ (v = (.int .i64 p2) ∧ inR .i64 p2) := ⟨_, rfl, hT' 2 (by decide) 94 rfl⟩
 obtain ⟨q404, hr405⟩ := q404
 have hE := hE.add (e403.trans q404)
 refine Step.imp (Run1.pure (r_indexG (k := kApi_Version) hE rfl rfl Try.underlying25 Try.sizeOf31 (ha0.mono (M.le.trans hm368 hm')) hj387 rfl)) ?_
 rintro _ _ ⟨rfl, rfl⟩
 exact ⟨_, M.le.refl _, hS', rfl⟩
 }
 {
 refine cplain fun pre_ post_ L_ T_ m' a' w' hl' hp' hm' hq' hS' hE' hT' => ?_
 obtain rfl := len0 hl'
 obtain rfl := len0 (lenz (a := 0) hp')
 obtain ⟨rfl, rfl⟩ := hq'
 obtain ⟨v407, e408, q409⟩ : ∃ v, a'.tmps.getD 95 undef = v ∧ (v = (.pointer (some ⟨b0_, j386 * 4, none⟩))) := ⟨_, rfl, hT' 3 (by decide) 95 rfl⟩
 have hE := hE'.add (e408.trans q409)
 refine Step.imp (st_loadL hE hS' ty31 rfl (i := 0) rfl (GS.elem (ha0.mono (M.le.trans hm368 hm')) hx390)) ?_
 rintro v410 _ ⟨rfl, hv388⟩
 exact ⟨_, M.le.refl _, hS', hv388⟩
 }
 {
 refine cplain fun pre_ post_ L_ T_ m' a' w' hl' hp' hm' hq' hS' hE' hT' => ?_
 obtain rfl := len0 hl'
 refine Step.imp (Run1.pure (r_move hE' rfl)) ?_
 rintro _ _ ⟨rfl, rfl⟩
 exact ⟨_, M.le.refl _, hS', rfl⟩
 }
 {
 refine cplain fun pre_ post_ L_ T_ m' a' w' hl' hp' hm' hq' hS' hE' hT' => ?_
 obtain rfl := len0 hl'
 refine Step.imp (Run1.pure (r_move hE' rfl)) ?_
 rintro _ _ ⟨rfl, rfl⟩
 exact ⟨_, M.le.refl _, hS', ⟨rfl, (inR_wrap _ _)⟩⟩
 }
 {
 refine cplain fun pre_ post_ L_ T_ m' a' w' hl' hp' hm' hq' hS' hE' hT' => ?_
 obtain rfl := len0 hl'
 obtain rfl := len0 (lenz (a := 0) hp')
 obtain ⟨rfl, rfl⟩ := hq'
 obtain ⟨v413, e414, q415⟩ : ∃ v, a'.tmps.getD 97 undef = v ∧ (v = v0) := ⟨_, rfl, hT' 5 (by decide) 97 rfl⟩
 have hE := hE'.add (e414.trans q415)
 obtain ⟨v416, e417, q418⟩ : ∃ v, a'.tmps.getD 98 undef = v ∧ (v = (.int .i64 (IntKind.i64.wrap (iShr .u64 (IntKind.u64.wrap (IntKind.i64.wrap (x369 + x371))) 1))) ∧ inR .i64 (IntKind.i64.wrap (iShr .u64 (IntKind.u64.wrap (IntKind.i64.wrap (x369 + x371))) 1))) := ⟨_, rfl, hT' 6 (by decide) 98 rfl⟩
 obtain ⟨q418, hr419⟩ := q418
 have hE := hE.add (e417.trans q418)
 refine Step.imp (Run1.pure (r_indexG (k := kApi_Version) hE rfl rfl Try.underlying25 Try.sizeOf31 (ha0.mono (M.le.trans hm368 hm')) hj392 rfl)) ?_
 rintro _ _ ⟨rfl, rfl⟩
 exact ⟨_, M.le.refl _, hS', rfl⟩
 }
 {
 refine cplain fun pre_ post_ L_ T_ m' a' w' hl' hp' hm' hq' hS' hE' hT' => ?_
 obtain rfl := len0 hl'
 obtain rfl := len0 (lenz (a := 0) hp')
 obtain ⟨rfl, rfl⟩ := hq'
 obtain ⟨v421, e422, q423⟩ : ∃ v, a'.tmps.getD 99 undef = v ∧ (v = (.pointer (some ⟨b0_, j391 * 4, none⟩))) := ⟨_, rfl, hT' 7 (by decide) 99 rfl⟩
 have hE := hE'.add (e422.trans q423)
 refine Step.imp (st_loadL hE hS' ty31 rfl (i := 0) rfl (GS.elem (ha0.mono (M.le.trans hm368 hm')) hx395)) ?_
 rintro v424 _ ⟨rfl, hv393⟩
 exact ⟨_, M.le.refl _, hS', hv393⟩
 }
 }
 {
 intro ws_ L_ T_ m425 a w hl426 hm427 hq428 hS hd429 hn430 ho431 hT432
 obtain rfl := len0 hl426
 obtain ⟨rfl, rfl⟩ := hq428
 have hE := EnvD.of (k := 9) (l' := [(0, v0), (2, (.int .i64 p2)), (4, v4), (14, (.int .i64 x369)), (15, (.int .i64 x371)), (16, (.int .i64 (IntKind.i64.wrap (iShr .u64 (IntKind.u64.wrap (IntKind.i64.wrap (x369 + x371))) 1)))), (83, (.int .i64 x369)), (84, (.int .i64 x371)), (85, (.bool (decide (x369 < x371)))), (86, (.int .i64 x369)), (87, (.int .i64 x371)), (88, (.int .i64 (IntKind.i64.wrap (x369 + x371)))), (89, (.int .u64 (IntKind.u64.wrap (IntKind.i64.wrap (x369 + x371))))), (90, (.int .u64 (iShr .u64 (IntKind.u64.wrap (IntKind.i64.wrap (x369 + x371))) 1))), (91, (.int .i64 (IntKind.i64.wrap (iShr .u64 (IntKind.u64.wrap (IntKind.i64.wrap (x369 + x371))) 1))))]) hd429 hn430 ho431 ⟨rfl, rfl, rfl, rfl, rfl, rfl, rfl, rfl, rfl, rfl, rfl, rfl, rfl, rfl, rfl, trivial⟩ rfl
 obtain ⟨v433, e434, q435⟩ : ∃ v, a.tmps.getD 92 undef = v ∧ (v = v4) := ⟨_, rfl, hT432 0 (by decide) 92 rfl⟩
 have hE := hE.add (e434.trans q435)
 obtain ⟨v436, e437, q438⟩ : ∃ v, a.tmps.getD 96 undef = v ∧ (RV kApi_Version m425 v x389) := ⟨_, rfl, hT432 4 (by decide) 96 rfl⟩
 have hE := hE.add (e437)
 obtain ⟨v439, e440, q441⟩ : ∃ v, a.tmps.getD 100 undef = v ∧ (RV kApi_Version m425 v x394) := ⟨_, rfl, hT432 8 (by decide) 100 rfl⟩
 have hE := hE.add (e440)
 obtain ⟨r442, hr443, h⟩ := ob h
 refine st hE (st_callF2 hE hS rfl rfl (ha4.mono (M.le.trans hm368 hm427)) q438 q441 hr443) rfl ?_
 rintro v447 a w ⟨m444, hm445, hS, hv446⟩ hE
 obtain ⟨rfl, hr448⟩ := RV_int hv446
 refine sp hE (r_bin hE rfl rfl b_lss) rfl fun a hE => ?_
 refine sp hE (r_not hE rfl) rfl fun a hE => ?_
 refine knil ?_
 refine kif hE rfl (fun hd451 => ?_) (fun hd451 => ?_)
 {
 have h := ite_T hd451 h
 refine kreg ?_
 refine qm hE rfl rfl fun a hE => ?_
 refine sp hE (r_bin hE rfl rfl (b_add rfl)) rfl fun a hE => ?_
 refine qa hE rfl rfl fun a hE => ?_
 refine knil ?_
 exact ⟨(IntKind.i64.wrap ((IntKind.i64.wrap (iShr .u64 (IntKind.u64.wrap (IntKind.i64.wrap (x369 + x371))) 1)) + 1), x371), (Option.some.inj h).symm, _, (M.le.trans hm368 (M.le.trans hm427 hm445)), (inR_wrap _ _), hr372, hS, hE.cut ⟨rfl, rfl, rfl, rfl, rfl, trivial⟩⟩
 }
 {
 have h := ite_F hd451 h
 refine kreg ?_
 refine qm hE rfl rfl fun a hE => ?_
 refine qa hE rfl rfl fun a hE => ?_
 refine knil ?_
 exact ⟨(x369, IntKind.i64.wrap (iShr .u64 (IntKind.u64.wrap (IntKind.i64.wrap (x369 + x371))) 1)), (Option.some.inj h).symm, _, (M.le.trans hm368 (M.le.trans hm427 hm445)), hr370, (inR_wrap _ _), hS, hE.cut ⟨rfl, rfl, rfl, rfl, rfl, trivial⟩⟩
 }
 }
 }
 {
 have h := ite_F hd378 h
 refine kexit rfl rfl ?_
 have h := unwrap h hb374
 exact ⟨x369, h, _, hm368, hr370, hS, hE.cut ⟨rfl, rfl, rfl, trivial⟩⟩
 }
 }
 }
 {
 rintro a w ⟨x240, h, m238, hm239, hr241, hS, hE⟩
 unfold slices_symMergeCmpFunc_Version_j3 at h
 refine kseq (kseq (kreg ?_))
 refine qm hE rfl rfl fun a hE => ?_
 refine qa hE rfl rfl fun a hE => ?_
 refine knil ?_
 refine kcut (fun a w => ∃ x247 : (List Api_Version), slices_symMergeCmpFunc_Version_j4 x247 = some r ∧ ∃ m', M.le m238 m' ∧ ∃ (cs248 : List Value), GS kApi_Version m' b0_ cs248 v0 x247 ∧ S W0 m' w ((b0_, cs248) :: L) (TL) ∧ Env 220 a []) ?_ ?_
 {
 refine kblock ?_
 refine kloop h (fun (s : (Int × (List Api_Version))) a w => ∃ m', M.le m238 m' ∧ ∃ (cs256 : List Value), inR .i64 s.1 ∧ GS kApi_Version m' b0_ cs256 v0 s.2 ∧ S W0 m' w ((b0_, cs256) :: L) (TL) ∧ Env 220 a [(0, v0), (14, (.int .i64 x240)), (17, (.int .i64 s.1))]) ?_ ?_
 {
 exact ⟨_, (M.le.refl _), c0_, ha2, (ha0.mono hm239), hS, hE.cut ⟨rfl, rfl, rfl, trivial⟩⟩
 }
 {
 rintro ⟨x253, x255⟩ a w ⟨m251, hm252, cs256, hr254, hc257, hS, hE⟩ r258 h hb259
 have h : slices_symMergeCmpFunc_Version_b3 x240 x253 x255 = some r258 := h
 unfold slices_symMergeCmpFunc_Version_b3 at h
 refine kseq (kseq (kreg ?_))
 refine qm hE rfl rfl fun a hE => ?_
 refine qm hE rfl rfl fun a hE => ?_
 refine sp hE (r_bin hE rfl rfl b_gtr) rfl fun a hE => ?_
 refine knil ?_
 refine kif hE rfl (fun hd263 => ?_) (fun hd263 => ?_)
 {
 have h := ite_T hd263 h
 refine kskip (kseq (kblock ?_))
 obtain ⟨j264, hj265, h⟩ := ob h
 obtain ⟨x267, hx268, h⟩ := ob h
 obtain ⟨j269, hj270, h⟩ := ob h
 obtain ⟨x272, hx273, h⟩ := ob h
 obtain ⟨j274, hj275, h⟩ := ob h
 obtain ⟨x278, hx279, h⟩ := ob h
 refine kchain (k := 16) (m := m251) (es := [15]) (Φ := (fun i m ws v => match i with | 0 => v = v0 | 1 => v = (.int .i64 x253) ∧ inR .i64 x253 | 2 => v = v0 | 3 => v = (.int .i64 x253) ∧ inR .i64 x253 | 4 => v = (.int .i64 (IntKind.i64.wrap (x253 - 1))) ∧ inR .i64 (IntKind.i64.wrap (x253 - 1)) | 5 => v = v0 | 6 => v = (.int .i64 x253) ∧ inR .i64 x253 | 7 => v = (.int .i64 (IntKind.i64.wrap (x253 - 1))) ∧ inR .i64 (IntKind.i64.wrap (x253 - 1)) | 8 => v = (.pointer (some ⟨b0_, j264 * 4, none⟩)) | 9 => RV kApi_Version m v x267 | 10 => v = v0 | 11 => v = (.int .i64 x253) ∧ inR .i64 x253 | 12 => v = (.pointer (some ⟨b0_, j269 * 4, none⟩)) | 13 => RV kApi_Version m v x272 | 14 => v = (.pointer (some ⟨b0_, j274 * 4, none⟩)) | 15 => True | _ => True)) (Q := (fun c m ws L' TL' => match c with | 0 => (b0_, cs256) :: L = L' ∧ TL = TL' | 1 => (b0_, (wi ws 0).c) :: L = L' ∧ TL = TL' ∧ GS kApi_Version m b0_ (wi ws 0).c v0 (x255.set j274 x267) | _ => False)) (cs := [⟨0, 0, false, [(0, v0)]⟩, ⟨0, 0, false, [(17, (.int .i64 x253))]⟩, ⟨0, 1, false, [(0, v0)]⟩, ⟨0, 1, false, [(17, (.int .i64 x253))]⟩, ⟨0, 1, false, []⟩, ⟨0, 0, false, [(0, v0)]⟩, ⟨0, 0, false, [(17, (.int .i64 x253))]⟩, ⟨0, 0, false, []⟩, ⟨0, 0, false, []⟩, ⟨0, 0, false, []⟩, ⟨0, 0, false, [(0, v0)]⟩, ⟨0, 0, false, [(17, (.int .i64 x253))]⟩, ⟨0, 0, false, []⟩, ⟨0, 0, false, []⟩, ⟨0, 0, false, []⟩, ⟨0, 0, true, []⟩]) mixed hE hS ⟨rfl, rfl⟩ rfl rfl ⟨⟨rfl, trivial⟩, ⟨rfl, trivial⟩, ⟨rfl, trivial⟩, ⟨rfl, trivial⟩, trivial, ⟨rfl, trivial⟩, ⟨rfl, trivial⟩, trivial, trivial, trivial, ⟨rfl, trivial⟩, ⟨rfl, trivial⟩, trivial, trivial, trivial, trivial, trivial⟩ (by kernel_rfl) ?_ ?_ ?_ ?_
 {
 intro i m_ m2_ ws v hm_ hp_
 match i, hp_ with
 | 0, hp_ => exact hp_
 | 1, hp_ => exact hp_
 | 2, hp_ => exact hp_
 | 3, hp_ => exact hp_
 | 4, hp_ => exact hp_
 | 5, hp_ => exact hp_
 | 6, hp_ => exact hp_
 | 7, hp_ => exact hp_
 | 8, hp_ => exact hp_
 | 9, hp_ => exact RV.mono hp_ hm_
 | 10, hp_ => exact hp_
 | 11, hp_ => exact hp_
 | 12, hp_ => exact hp_
 | 13, hp_ => exact RV.mono hp_ hm_
 | 14, hp_ => exact hp_
 | 15, hp_ => exact hp_
 | _ + 16, hp_ => exact trivial
 }
 {
 intro c m_ m2_ ws L_ T_ hm_ hq_
 match c, hq_ with
 | 0, ⟨e1_, e2_⟩ => exact ⟨e1_, e2_⟩
 | 1, ⟨e1_, e2_, f0_⟩ => exact ⟨e1_, e2_, (GS.mono f0_ hm_)⟩
 | _ + 2, hq_ => exact hq_.elim
 }
 {
 refine ⟨?_, ?_, ?_, ?_, ?_, ?_, ?_, ?_, ?_, ?_, ?_, ?_, ?_, ?_, ?_, ?_, trivial⟩
 {
 refine cplain fun pre_ post_ L_ T_ m' a' w' hl' hp' hm' hq' hS' hE' hT' => ?_
 obtain rfl := len0 hl'
 refine Step.imp (Run1.pure (r_move hE' rfl)) ?_
 rintro _ _ ⟨rfl, rfl⟩
 exact ⟨_, M.le.refl _, hS', rfl⟩
 }
 {
 refine cplain fun pre_ post_ L_ T_ m' a' w' hl' hp' hm' hq' hS' hE' hT' => ?_
 obtain rfl := len0 hl'
 refine Step.imp (Run1.pure (r_move hE' rfl)) ?_
 rintro _ _ ⟨rfl, rfl⟩
 exact ⟨_, M.le.refl _, hS', ⟨rfl, hr254⟩⟩
 }
 {
 refine cplain fun pre_ post_ L_ T_ m' a' w' hl' hp' hm' hq' hS' hE' hT' => ?_
 obtain rfl := len0 hl'
 refine Step.imp (Run1.pure (r_move hE' rfl)) ?_
 rintro _ _ ⟨rfl, rfl⟩
 exact ⟨_, M.le.refl _, hS', rfl⟩
 }
 {
 refine cplain fun pre_ post_ L_ T_ m' a' w' hl' hp' hm' hq' hS' hE' hT' => ?_
 obtain rfl := len0 hl'
 refine Step.imp (Run1.pure (r_move hE' rfl)) ?_
 rintro _ _ ⟨rfl, rfl⟩
 exact ⟨_, M.le.refl _, hS', ⟨rfl, hr254⟩⟩
 }
 {
 refine cplain fun pre_ post_ L_ T_ m' a' w' hl' hp' hm' hq' hS' hE' hT' => ?_
 obtain rfl := len0 hl'
 obtain ⟨v285, e286, q287⟩ : ∃ v, a'.tmps.getD 116 undef = v ∧ (v = (.int .i64 x253) ∧ inR .i64 x253) := ⟨_, rfl, hT' 3 (by decide) 116 rfl⟩
 obtain ⟨q287, hr288⟩ := q287
 have hE := hE'.add (e286.trans q287)
 refine Step.imp (Run1.pure (r_bin hE rfl rfl (b_sub rfl))) ?_
 rintro _ _ ⟨rfl, rfl⟩
 exact ⟨_, M.le.refl _, hS', ⟨rfl, (inR_wrap _ _)⟩⟩
 }
 {
 refine cplain fun pre_ post_ L_ T_ m' a' w' hl' hp' hm' hq' hS' hE' hT' => ?_
 obtain rfl := len0 hl'
 refine Step.imp (Run1.pure (r_move hE' rfl)) ?_
 rintro _ _ ⟨rfl, rfl⟩
 exact ⟨_, M.le.refl _, hS', rfl⟩
 }
 {
 refine cplain fun pre_ post_ L_ T_ m' a' w' hl' hp' hm' hq' hS' hE' hT' => ?_
 obtain rfl := len0 hl'
 refine Step.imp (Run1.pure (r_move hE' rfl)) ?_
 rintro _ _ ⟨rfl, rfl⟩
 exact ⟨_, M.le.refl _, hS', ⟨rfl, hr254⟩⟩
 }
 {
 refine cplain fun pre_ post_ L_ T_ m' a' w' hl' hp' hm' hq' hS' hE' hT' => ?_
 obtain rfl := len0 hl'
 obtain ⟨v292, e293, q294⟩ : ∃ v, a'.tmps.getD 119 undef = v ∧ (v = (.int .i64 x253) ∧ inR .i64 x253) := ⟨_, rfl, hT' 6 (by decide) 119 rfl⟩
 obtain ⟨q294, hr295⟩ := q294
 have hE := hE'.add (e293.trans q294)
 refine Step.imp (Run1.pure (r_bin hE rfl rfl (b_sub rfl))) ?_
 rintro _ _ ⟨rfl, rfl⟩
 exact ⟨_, M.le.refl _, hS', ⟨rfl, (inR_wrap _ _)⟩⟩
 }
 {
 refine cplain fun pre_ post_ L_ T_ m' a' w' hl' hp' hm' hq' hS' hE' hT' => ?_
 obtain rfl := len0 hl'
 obtain rfl := len0 (lenz (a := 0) hp')
 obtain ⟨rfl, rfl⟩ := hq'
 obtain ⟨v297, e298, q299⟩ : ∃ v, a'.tmps.getD 118 undef = v ∧ (v = v0) := ⟨_, rfl, hT' 5 (by decide) 118 rfl⟩
 have hE := hE'.add (e298.trans q299)
 obtain ⟨v300, e301, q302⟩ : ∃ v, a'.tmps.getD 120 undef = v ∧ (v = (.int .i64 (IntKind.i64.wrap (x253 - 1))) ∧ inR .i64 (IntKind.i64.wrap (x253 - 1))) := ⟨_, rfl, hT' 7 (by decide) 120 rfl⟩
 obtain ⟨q302, hr303⟩ := q302
 have hE := hE.add (e301.trans q302)
 refine Step.imp (Run1.pure (r_indexG (k := kApi_Version) hE rfl rfl Try.underlying25 Try.sizeOf31 (hc257.mono hm') hj265 rfl)) ?_
 rintro _ _ ⟨rfl, rfl⟩
 exact ⟨_, M.le.refl _, hS', rfl⟩
 }
 {
 refine cplain fun pre_ post_ L_ T_ m' a' w' hl' hp' hm' hq' hS' hE' hT' => ?_
 obtain rfl := len0 hl'
 obtain rfl := len0 (lenz (a := 0) hp')
 obtain ⟨rfl, rfl⟩ := hq'
 obtain ⟨v305, e306, q307⟩ : ∃ v, a'.tmps.getD 121 undef = v ∧ (v = (.pointer (some ⟨b0_, j264 * 4, none⟩))) := ⟨_, rfl, hT' 8 (by decide) 121 rfl⟩
 have hE := hE'.add (e306.trans q307)
 refine Step.imp (st_loadL hE hS' ty31 rfl (i := 0) rfl (GS.elem (hc257.mono hm') hx268)) ?_
 rintro v308 _ ⟨rfl, hv266⟩
 exact ⟨_, M.le.refl _, hS', hv266⟩
 }
 {
 refine cplain fun pre_ post_ L_ T_ m' a' w' hl' hp' hm' hq' hS' hE' hT' => ?_
 obtain rfl := len0 hl'
 refine Step.imp (Run1.pure (r_move hE' rfl)) ?_
 rintro _ _ ⟨rfl, rfl⟩
 exact ⟨_, M.le.refl _, hS', rfl⟩
 }
 {
 refine cplain fun pre_ post_ L_ T_ m' a' w' hl' hp' hm' hq' hS' hE' hT' => ?_
 obtain rfl := len0 hl'
 refine Step.imp (Run1.pure (r_move hE' rfl)) ?_
 rintro _ _ ⟨rfl, rfl⟩
 exact ⟨_, M.le.refl _, hS', ⟨rfl, hr254⟩⟩
 }
 {
 refine cplain fun pre_ post_ L_ T_ m' a' w' hl' hp' hm' hq' hS' hE' hT' => ?_
 obtain rfl := len0 hl'
 obtain rfl := len0 (lenz (a := 0) hp')
 obtain ⟨rfl, rfl⟩ := hq'
 obtain ⟨v311, e312, q313⟩ : ∃ v, a'.tmps.getD 123 undef = v ∧ (v = v0) := ⟨_, rfl, hT' 10 (by decide) 123 rfl⟩
 have hE := hE'.add (e312.trans q313)
 obtain ⟨v314, e315, q316⟩ : ∃ v, a'.tmps.getD 124 undef = v ∧ (v = (.int .i64 x253) ∧ inR .i64 x253) := ⟨_, rfl, hT' 11 (by decide) 124 rfl⟩
 obtain ⟨q316, hr317⟩ := q316
 have hE := hE.add (e315.trans q316)
 refine Step.imp (Run1.pure (r_indexG (k := kApi_Version) hE rfl rfl Try.underlying25 Try.sizeOf31 (hc257.mono hm') hj270 rfl)) ?_
 rintro _ _ ⟨rfl, rfl⟩
 exact ⟨_, M.le.refl _, hS', rfl⟩
 }
 {
 refine cplain fun pre_ post_ L_ T_ m' a' w' hl' hp' hm' hq' hS' hE' hT' => ?_
 obtain rfl := len0 hl'
 obtain rfl := len0 (lenz (a := 0) hp')
 obtain ⟨rfl, rfl⟩ := hq'
 obtain ⟨v319, e320, q321⟩ : ∃ v, a'.tmps.getD 125 undef = v ∧ (v = (.pointer (some ⟨b0_, j269 * 4, none⟩))) := ⟨_, rfl, hT' 12 (by decide) 125 rfl⟩
 have hE := hE'.add (e320.trans q321)
 refine Step.imp (st_loadL hE hS' ty31 rfl (i := 0) rfl (GS.elem (hc257.mono hm') hx273)) ?_
 rintro v322 _ ⟨rfl, hv271⟩
 exact ⟨_, M.le.refl _, hS', hv271⟩
 }
 {
 refine cplain fun pre_ post_ L_ T_ m' a' w' hl' hp' hm' hq' hS' hE' hT' => ?_
 obtain rfl := len0 hl'
 obtain rfl := len0 (lenz (a := 0) hp')
 obtain ⟨rfl, rfl⟩ := hq'
 obtain ⟨v323, e324, q325⟩ : ∃ v, a'.tmps.getD 113 undef = v ∧ (v = v0) := ⟨_, rfl, hT' 0 (by decide) 113 rfl⟩
 have hE := hE'.add (e324.trans q325)
 obtain ⟨v326, e327, q328⟩ : ∃ v, a'.tmps.getD 114 undef = v ∧ (v = (.int .i64 x253) ∧ inR .i64 x253) := ⟨_, rfl, hT' 1 (by decide) 114 rfl⟩
 obtain ⟨q328, hr329⟩ := q328
 have hE := hE.add (e327.trans q328)
 refine Step.imp (Run1.pure (r_indexG (k := kApi_Version) hE rfl rfl Try.underlying25 Try.sizeOf31 (hc257.mono hm') hj275 rfl)) ?_
 rintro _ _ ⟨rfl, rfl⟩
 exact ⟨_, M.le.refl _, hS', rfl⟩
 }
 {
 refine cturn fun pre_ L_ T_ m' a' w' hl' hm' hq' hS' hE' hT' => ?_
 obtain rfl := len0 hl'
 obtain ⟨rfl, rfl⟩ := hq'
 obtain ⟨v331, e332, q333⟩ : ∃ v, a'.tmps.getD 122 undef = v ∧ (RV kApi_Version m' v x267) := ⟨_, rfl, hT' 9 (by decide) 122 rfl⟩
 have hE := hE'.add (e332)
 obtain ⟨v334, e335, q336⟩ : ∃ v, a'.tmps.getD 127 undef = v ∧ (v = (.pointer (some ⟨b0_, j274 * 4, none⟩))) := ⟨_, rfl, hT' 14 (by decide) 127 rfl⟩
 have hE := hE.add (e335.trans q336)
 refine Step.imp (st_storeG (k := kApi_Version) hE hS' ty31 StF_self (hc257.mono hm') hx279 rfl rfl q333 (i := 0) rfl) ?_
 rintro vv280 w ⟨cs276, hc277, hS⟩
 exact ⟨_, ⟨0, undef, cs276, [], []⟩, _, _, M.le.refl _, hS, ⟨rfl, rfl, hc277⟩, trivial⟩
 }
 }
 {
 intro ws_ L_ T_ m337 a w hl338 hm339 hq340 hS hd341 hn342 ho343 hT344
 obtain ⟨⟨_, _, cs276, _, _⟩, rfl⟩ := len1 hl338
 obtain ⟨rfl, rfl, hc345⟩ := hq340
 have hE := EnvD.of (k := 16) (l' := [(0, v0), (14, (.int .i64 x240)), (17, (.int .i64 x253)), (108, (.int .i64 x253)), (109, (.int .i64 x240)), (110, (.bool (decide (x240 < x253))))]) hd341 hn342 ho343 ⟨rfl, rfl, rfl, rfl, rfl, rfl, trivial⟩ rfl
 obtain ⟨v346, e347, q348⟩ : ∃ v, a.tmps.getD 115 undef = v ∧ (v = v0) := ⟨_, rfl, hT344 2 (by decide) 115 rfl⟩
 have hE := hE.add (e347.trans q348)
 obtain ⟨v349, e350, q351⟩ : ∃ v, a.tmps.getD 117 undef = v ∧ (v = (.int .i64 (IntKind.i64.wrap (x253 - 1))) ∧ inR .i64 (IntKind.i64.wrap (x253 - 1))) := ⟨_, rfl, hT344 4 (by decide) 117 rfl⟩
 obtain ⟨q351, hr352⟩ := q351
 have hE := hE.add (e350.trans q351)
 obtain ⟨v353, e354, q355⟩ : ∃ v, a.tmps.getD 126 undef = v ∧ (RV kApi_Version m337 v x272) := ⟨_, rfl, hT344 13 (by decide) 126 rfl⟩
 have hE := hE.add (e354)
 obtain ⟨j356, hj357, h⟩ := ob h
 refine sp hE (r_indexG (k := kApi_Version) hE rfl rfl Try.underlying25 Try.sizeOf31 hc345 hj357 rfl) rfl fun a hE => ?_
 obtain ⟨x361, hx362, h⟩ := ob h
 refine st0 hE (st_storeG (k := kApi_Version) hE hS ty31 StF_self hc345 hx362 rfl rfl q355 (i := 0) rfl) ?_
 rintro _ w ⟨cs359, hc360, hS⟩ hE
 refine knil (kreg ?_)
 refine qm hE rfl rfl fun a hE => ?_
 refine sp hE (r_bin hE rfl rfl (b_sub rfl)) rfl fun a hE => ?_
 refine qa hE rfl rfl fun a hE => ?_
 refine knil ?_
 exact ⟨(IntKind.i64.wrap (x253 - 1), ((x255.set j274 x267).set j356 x272)), (Option.some.inj h).symm, _, (M.le.trans hm252 hm339), cs359, (inR_wrap _ _), hc360, hS, hE.cut ⟨rfl, rfl, rfl, trivial⟩⟩
 }
 }
 {
 have h := ite_F hd263 h
 refine kexit rfl rfl ?_
 have h := unwrap h hb259
 exact ⟨x255, h, _, hm252, cs256, hc257, hS, hE.cut trivial⟩
 }
 }
 }
 {
 rintro a w ⟨x247, h, m245, hm246, cs248, hc249, hS, hE⟩
 unfold slices_symMergeCmpFunc_Version_j4 at h
 refine kret ?_
 obtain rfl := oi h
 try dsimp only
 refine Fin.mk hE (rs := []) rfl ResL.nil ?_
 exact ⟨_, (M.le.trans hm239 hm246), cs248, hS, hc249⟩
 }
 }
 }
 {
 have h := ite_F hd233 h
 refine kskip (kseq (kreg ?_))
 refine qm hE rfl rfl fun a hE => ?_
 refine qm hE rfl rfl fun a hE => ?_
 refine sp hE (r_bin hE rfl rfl (b_add rfl)) rfl fun a hE => ?_
 refine sp hE (r_conv hE rfl Try.underlying3 Try.underlying70 rfl) rfl fun a hE => ?_
 refine sp hE (r_bin hE rfl rfl (b_shr rfl (by decide))) rfl fun a hE => ?_
 refine sp hE (r_conv hE rfl Try.underlying70 Try.underlying3 rfl) rfl fun a hE => ?_
 refine qa hE rfl rfl fun a hE => ?_
 refine knil (kseq (kreg ?_))
 refine qm hE rfl rfl fun a hE => ?_
 refine qm hE rfl rfl fun a hE => ?_
 refine sp hE (r_bin hE rfl rfl (b_add rfl)) rfl fun a hE => ?_
 refine qa hE rfl rfl fun a hE => ?_
 refine knil (kseq (kreg ?_))
 refine qa hE rfl rfl fun a hE => ?_
 refine qa hE rfl rfl fun a hE => ?_
 refine knil (kseq (kseq (kreg ?_)))
 refine qm hE rfl rfl fun a hE => ?_
 refine qm hE rfl rfl fun a hE => ?_
 refine sp hE (r_bin hE rfl rfl b_gtr) rfl fun a hE => ?_
 refine knil ?_
 refine kcut (fun a w => ∃ x475 : Int, ∃ x477 : Int, slices_symMergeCmpFunc_Version_j5 p0 p1 p2 p3 p4 self_ x475 x477 = some r ∧ ∃ m', M.le m m' ∧ inR .i64 x475 ∧ inR .i64 x477 ∧ S W0 m' w ((b0_, c0_) :: L) (TL) ∧ Env 220 a [(0, v0), (1, (.int .i64 p1)), (2, (.int .i64 p2)), (3, (.int .i64 p3)), (4, v4), (18, (.int .i64 (IntKind.i64.wrap (iShr .u64 (IntKind.u64.wrap (IntKind.i64.wrap (p1 + p3))) 1)))), (19, (.int .i64 (IntKind.i64.wrap ((IntKind.i64.wrap (iShr .u64 (IntKind.u64.wrap (IntKind.i64.wrap (p1 + p3))) 1)) + p2)))), (20, (.int .i64 x475)), (21, (.int .i64 x477))]) ?_ ?_
 {
 refine kif hE rfl (fun hd685 => ?_) (fun hd685 => ?_)
 {
 have h := ite_T hd685 h
 refine kseq (kreg ?_)
 refine qm hE rfl rfl fun a hE => ?_
 refine qm hE rfl rfl fun a hE => ?_
 refine sp hE (r_bin hE rfl rfl (b_sub rfl)) rfl fun a hE => ?_
 refine qa hE rfl rfl fun a hE => ?_
 refine knil (kreg ?_)
 refine qm hE rfl rfl fun a hE => ?_
 refine qa hE rfl rfl fun a hE => ?_
 refine knil ?_
 exact ⟨(IntKind.i64.wrap ((IntKind.i64.wrap ((IntKind.i64.wrap (iShr .u64 (IntKind.u64.wrap (IntKind.i64.wrap (p1 + p3))) 1)) + p2)) - p3)), (IntKind.i64.wrap (iShr .u64 (IntKind.u64.wrap (IntKind.i64.wrap (p1 + p3))) 1)), h, _, (M.le.refl _), (inR_wrap _ _), (inR_wrap _ _), hS, hE.cut ⟨rfl, rfl, rfl, rfl, rfl, rfl, rfl, rfl, rfl, trivial⟩⟩
 }
 {
 have h := ite_F hd685 h
 refine kseq (kreg ?_)
 refine qm hE rfl rfl fun a hE => ?_
 refine qa hE rfl rfl fun a hE => ?_
 refine knil (kreg ?_)
 refine qm hE rfl rfl fun a hE => ?_
 refine qa hE rfl rfl fun a hE => ?_
 refine knil ?_
 exact ⟨p1, p2, h, _, (M.le.refl _), ha1, ha2, hS, hE.cut ⟨rfl, rfl, rfl, rfl, rfl, rfl, rfl, rfl, rfl, trivial⟩⟩
 }
 }
 {
 rintro a w ⟨x475, x477, h, m473, hm474, hr476, hr478, hS, hE⟩
 unfold slices_symMergeCmpFunc_Version_j5 at h
 refine kseq (kreg ?_)
 refine qm hE rfl rfl fun a hE => ?_
 refine sp hE (r_bin hE rfl rfl (b_sub rfl)) rfl fun a hE => ?_
 refine qa hE rfl rfl fun a hE => ?_
 refine knil (kseq ?_)
 refine kcut (fun a w => ∃ x485 : Int, slices_symMergeCmpFunc_Version_j6 p0 p1 p2 p3 p4 self_ x485 = some r ∧ ∃ m', M.le m473 m' ∧ inR .i64 x485 ∧ S W0 m' w ((b0_, c0_) :: L) (TL) ∧ Env 220 a [(0, v0), (1, (.int .i64 p1)), (2, (.int .i64 p2)), (3, (.int .i64 p3)), (4, v4), (18, (.int .i64 (IntKind.i64.wrap (iShr .u64 (IntKind.u64.wrap (IntKind.i64.wrap (p1 + p3))) 1)))), (19, (.int .i64 (IntKind.i64.wrap ((IntKind.i64.wrap (iShr .u64 (IntKind.u64.wrap (IntKind.i64.wrap (p1 + p3))) 1)) + p2)))), (20, (.int .i64 x485))]) ?_ ?_
 {
 refine kblock ?_
 refine kloop h (fun (s : (Int × Int)) a w => ∃ m', M.le m473 m' ∧ inR .i64 s.1 ∧ inR .i64 s.2 ∧ S W0 m' w ((b0_, c0_) :: L) (TL) ∧ Env 220 a [(0, v0), (1, (.int .i64 p1)), (2, (.int .i64 p2)), (3, (.int .i64 p3)), (4, v4), (18, (.int .i64 (IntKind.i64.wrap (iShr .u64 (IntKind.u64.wrap (IntKind.i64.wrap (p1 + p3))) 1)))), (19, (.int .i64 (IntKind.i64.wrap ((IntKind.i64.wrap (iShr .u64 (IntKind.u64.wrap (IntKind.i64.wrap (p1 + p3))) 1)) + p2)))), (20, (.int .i64 s.1)), (21, (.int .i64 s.2)), (22, (.int .i64 (IntKind.i64.wrap ((IntKind.i64.wrap ((IntKind.i64.wrap (iShr .u64 (IntKind.u64.wrap (IntKind.i64.wrap (p1 + p3))) 1)) + p2)) - 1))))]) ?_ ?_
 {
 exact ⟨_, (M.le.refl _), hr476, hr478, hS, hE.cut ⟨rfl, rfl, rfl, rfl, rfl, rfl, rfl, rfl, rfl, rfl, trivial⟩⟩
 }
 {
 rintro ⟨x587, x589⟩ a w ⟨m585, hm586, hr588, hr590, hS, hE⟩ r591 h hb592
 have h : slices_symMergeCmpFunc_Version_b5 p0 p1 p2 p3 p4 self_ x587 x589 = some r591 := h
 unfold slices_symMergeCmpFunc_Version_b5 at h
 refine kseq (kseq (kreg ?_))
 refine qm hE rfl rfl fun a hE => ?_
 refine qm hE rfl rfl fun a hE => ?_
 refine sp hE (r_bin hE rfl rfl b_lss) rfl fun a hE => ?_
 refine knil ?_
 refine kif hE rfl (fun hd596 => ?_) (fun hd596 => ?_)
 {
 have h := ite_T hd596 h
 refine kskip (kblock (kseq (kreg ?_)))
 refine qm hE rfl rfl fun a hE => ?_
 refine qm hE rfl rfl fun a hE => ?_
 refine sp hE (r_bin hE rfl rfl (b_add rfl)) rfl fun a hE => ?_
 refine sp hE (r_conv hE rfl Try.underlying3 Try.underlying70 rfl) rfl fun a hE => ?_
 refine sp hE (r_bin hE rfl rfl (b_shr rfl (by decide))) rfl fun a hE => ?_
 refine sp hE (r_conv hE rfl Try.underlying70 Try.underlying3 rfl) rfl fun a hE => ?_
 refine qa hE rfl rfl fun a hE => ?_
 refine knil (kseq ?_)
 obtain ⟨j604, hj605, h⟩ := ob h
 obtain ⟨x607, hx608, h⟩ := ob h
 obtain ⟨j609, hj610, h⟩ := ob h
 obtain ⟨x612, hx613, h⟩ := ob h
 refine kchain (k := 11) (m := m585) (es := []) (Φ := (fun i m ws v => match i with | 0 => v = v4 | 1 => v = v0 | 2 => v = (.int .i64 (IntKind.i64.wrap ((IntKind.i64.wrap ((IntKind.i64.wrap (iShr .u64 (IntKind.u64.wrap (IntKind.i64.wrap (p1 + p3))) 1)) + p2)) - 1))) ∧ inR .i64 (IntKind.i64.wrap ((IntKind.i64.wrap ((IntKind.i64.wrap (iShr .u64 (IntKind.u64.wrap (IntKind.i64.wrap (p1 + p3))) 1)) + p2)) - 1)) | 3 => v = (.int .i64 (IntKind.i64.wrap (iShr .u64 (IntKind.u64.wrap (IntKind.i64.wrap (x587 + x589))) 1))) ∧ inR .i64 (IntKind.i64.wrap (iShr .u64 (IntKind.u64.wrap (IntKind.i64.wrap (x587 + x589))) 1)) | 4 => v = (.int .i64 (IntKind.i64.wrap ((IntKind.i64.wrap ((IntKind.i64.wrap ((IntKind.i64.wrap (iShr .u64 (IntKind.u64.wrap (IntKind.i64.wrap (p1 + p3))) 1)) + p2)) - 1)) - (IntKind.i64.wrap (iShr .u64 (IntKind.u64.wrap (IntKind.i64.wrap (x587 + x589))) 1))))) ∧ inR .i64 (IntKind.i64.wrap ((IntKind.i64.wrap ((IntKind.i64.wrap ((IntKind.i64.wrap (iShr .u64 (IntKind.u64.wrap (IntKind.i64.wrap (p1 + p3))) 1)) + p2)) - 1)) - (IntKind.i64.wrap (iShr .u64 (IntKind.u64.wrap (IntKind.i64.wrap (x587 + x589))) 1)))) | 5 => v = (.pointer (some ⟨b0_, j604 * 4, none⟩)) | 6 => RV kApi_Version m v x607 | 7 => v = v0 | 8 => v = (.int .i64 (IntKind.i64.wrap (iShr .u64 (IntKind.u64.wrap (IntKind.i64.wrap (x587 + x589))) 1))) ∧ inR .i64 (IntKind.i64.wrap (iShr .u64 (IntKind.u64.wrap (IntKind.i64.wrap (x587 + x589))) 1)) | 9 => v = (.pointer (some ⟨b0_, j609 * 4, none⟩)) | 10 => RV kApi_Version m v x612 | _ => True)) (Q := (fun c m ws L' TL' => match c with | 0 => (b0_, c0_) :: L = L' ∧ TL = TL' | _ => False)) (cs := [⟨0, 0, false, [(4, v4)]⟩, ⟨0, 0, false, [(0, v0)]⟩, ⟨0, 0, false, [(22, (.int .i64 (IntKind.i64.wrap ((IntKind.i64.wrap ((IntKind.i64.wrap (iShr .u64 (IntKind.u64.wrap (IntKind.i64.wrap (p1 + p3))) 1)) + p2)) - 1))))]⟩, ⟨0, 0, false, [(23, (.int .i64 (IntKind.i64.wrap (iShr .u64 (IntKind.u64.wrap (IntKind.i64.wrap (x587 + x589))) 1))))]⟩, ⟨0, 0, false, []⟩, ⟨0, 0, false, []⟩, ⟨0, 0, false, []⟩, ⟨0, 0, false, [(0, v0)]⟩, ⟨0, 0, false, [(23, (.int .i64 (IntKind.i64.wrap (iShr .u64 (IntKind.u64.wrap (IntKind.i64.wrap (x587 + x589))) 1))))]⟩, ⟨0, 0, false, []⟩, ⟨0, 0, false, []⟩]) mixed hE hS ⟨rfl, rfl⟩ rfl rfl ⟨⟨rfl, trivial⟩, ⟨rfl, trivial⟩, ⟨rfl, trivial⟩, ⟨rfl, trivial⟩, trivial, trivial, trivial, ⟨rfl, trivial⟩, ⟨rfl, trivial⟩, trivial, trivial, trivial⟩ (by kernel_rfl) ?_ ?_ ?_ ?_
 {
 intro i m_ m2_ ws v hm_ hp_
 match i, hp_ with
 | 0, hp_ => exact hp_
 | 1, hp_ => exact hp_
 | 2, hp_ => exact hp_
 | 3, hp_ => exact hp_
 | 4, hp_ => exact hp_
 | 5, hp_ => exact hp_
 | 6, hp_ => exact RV.mono hp_ hm_
 | 7, hp_ => exact hp_
 | 8, hp_ => exact hp_
 | 9, hp_ => exact hp_
 | 10, hp_ => exact RV.mono hp_ hm_
 | _ + 11, hp_ => exact trivial
 }
 {
 intro c m_ m2_ ws L_ T_ hm_ hq_
 match c, hq_ with
 | 0, ⟨e1_, e2_⟩ => exact ⟨e1_, e2_⟩
 | _ + 1, hq_ => exact hq_.elim
 }
 {
 refine ⟨?_, ?_, ?_, ?_, ?_, ?_, ?_, ?_, ?_, ?_, ?_, trivial⟩
 {
 refine cplain fun pre_ post_ L_ T_ m' a' w' hl' hp' hm' hq' hS' hE' hT' => ?_
 obtain rfl := len0 hl'
 refine Step.imp (Run1.pure (r_move hE' rfl)) ?_
 rintro _ _ ⟨rfl, rfl⟩
 exact ⟨_, M.le.refl _, hS', rfl⟩
 }
 {
 refine cplain fun pre_ post_ L_ T_ m' a' w' hl' hp' hm' hq' hS' hE' hT' => ?_
 obtain rfl := len0 hl'
 refine Step.imp (Run1.pure (r_move hE' rfl)) ?_
 rintro _ _ ⟨rfl, rfl⟩
 exact ⟨_, M.le.refl _, hS', rfl⟩
 }
 {
 refine cplain fun pre_ post_ L_ T_ m' a' w' hl' hp' hm' hq' hS' hE' hT' => ?_
 obtain rfl := len0 hl'
 refine Step.imp (Run1.pure (r_move hE' rfl)) ?_
 rintro _ _ ⟨rfl, rfl⟩
 exact ⟨_, M.le.refl _, hS', ⟨rfl, (inR_wrap _ _)⟩⟩
 }
 {
 refine cplain fun pre_ post_ L_ T_ m' a' w' hl' hp' hm' hq' hS' hE' hT' => ?_
 obtain rfl := len0 hl'
 refine Step.imp (Run1.pure (r_move hE' rfl)) ?_
 rintro _ _ ⟨rfl, rfl⟩
 exact ⟨_, M.le.refl _, hS', ⟨rfl, (inR_wrap _ _)⟩⟩
 }
 {
 refine cplain fun pre_ post_ L_ T_ m' a' w' hl' hp' hm' hq' hS' hE' hT' => ?_
 obtain rfl := len0 hl'
 obtain ⟨v618, e619, q620⟩ : ∃ v, a'.tmps.getD 160 undef = v ∧ (v = (.int .i64 (IntKind.i64.wrap ((IntKind.i64.wrap ((IntKind.i64.wrap (iShr .u64 (IntKind.u64.wrap (IntKind.i64.wrap (p1 + p3))) 1)) + p2)) - 1))) ∧ inR .i64 (IntKind.i64.wrap ((IntKind.i64.wrap ((IntKind.i64.wrap (iShr .u64 (IntKind.u64.wrap (IntKind.i64.wrap (p1 + p3))) 1)) + p2)) - 1))) := ⟨_, rfl, hT' 2 (by decide) 160 rfl⟩
 obtain ⟨q620, hr621⟩ := q620
 have hE := hE'.add (e619.trans q620)
 obtain ⟨v622, e623, q624⟩ : ∃ v, a'.tmps.getD 161 undef = v ∧ (v = (.int .i64 (IntKind.i64.wrap (iShr .u64 (IntKind.u64.wrap (IntKind.i64.wrap (x587 + x589))) 1))) ∧ inR .i64 (IntKind.i64.wrap (iShr .u64 (IntKind.u64.wrap (IntKind.i64.wrap (x587 + x589))) 1))) := ⟨_, rfl, hT' 3 (by decide) 161 rfl⟩
 obtain ⟨q624, hr625⟩ := q624
 have hE := hE.add (e623.trans q624)
 refine Step.imp (Run1.pure (r_bin hE rfl rfl (b_sub rfl))) ?_
 rintro _ _ ⟨rfl, rfl⟩
 exact ⟨_, M.le.refl _, hS', ⟨rfl, (inR_wrap _ _)⟩⟩
 }
 {
 refine cplain fun pre_ post_ L_ T_ m' a' w' hl' hp' hm' hq' hS' hE' hT' => ?_
 obtain rfl := len0 hl'
 obtain rfl := len0 (lenz (a := 0) hp')
 obtain ⟨rfl, rfl⟩ := hq'
 obtain ⟨v627, e628, q629⟩ : ∃ v, a'.tmps.getD 159 undef = v ∧ (v = v0) := ⟨_, rfl, hT' 1 (by decide) 159 rfl⟩
 have hE := hE'.add (e628.trans q629)
 obtain ⟨v630, e631, q632⟩ : ∃ v, a'.tmps.getD 162 undef = v ∧ (v = (.int .i64 (IntKind.i64.wrap ((IntKind.i64.wrap ((IntKind.i64.wrap ((IntKind.i64.wrap (iShr .u64 (IntKind.u64.wrap (IntKind.i64.wrap (p1 + p3))) 1)) + p2)) - 1)) - (IntKind.i64.wrap (iShr .u64 (IntKind.u64.wrap (IntKind.i64.wrap (x587 + x589))) 1))))) ∧ inR .i64 (IntKind.i64.wrap ((IntKind.i64.wrap ((IntKind.i64.wrap ((IntKind.i64.wrap (iShr .u64 (IntKind.u64.wrap (IntKind.i64.wrap (p1 + p3))) 1)) + p2)) - 1)) - (IntKind.i64.wrap (iShr .u64 (IntKind.u64.wrap (IntKind.i64.wrap (x587 + x589))) 1))))) := ⟨_, rfl, hT' 4 (by decide) 162 rfl⟩
 obtain ⟨q632, hr633⟩ := q632
 have hE := hE.add (e631.trans q632)
 refine Step.imp (Run1.pure (r_indexG (k := kApi_Version) hE rfl rfl Try.underlying25 Try.sizeOf31 (ha0.mono (M.le.trans hm474 (M.le.trans hm586 hm'))) hj605 rfl)) ?_
 rintro _ _ ⟨rfl, rfl⟩
 exact ⟨_, M.le.refl _, hS', rfl⟩
 }
 {
 refine cplain fun pre_ post_ L_ T_ m' a' w' hl' hp' hm' hq' hS' hE' hT' => ?_
 obtain rfl := len0 hl'
 obtain rfl := len0 (lenz (a := 0) hp')
 obtain ⟨rfl, rfl⟩ := hq'
 obtain ⟨v635, e636, q637⟩ : ∃ v, a'.tmps.getD 163 undef = v ∧ (v = (.pointer (some ⟨b0_, j604 * 4, none⟩))) := ⟨_, rfl, hT' 5 (by decide) 163 rfl⟩
 have hE := hE'.add (e636.trans q637)
 refine Step.imp (st_loadL hE hS' ty31 rfl (i := 0) rfl (GS.elem (ha0.mono (M.le.trans hm474 (M.le.trans hm586 hm'))) hx608)) ?_
 rintro v638 _ ⟨rfl, hv606⟩
 exact ⟨_, M.le.refl _, hS', hv606⟩
 }
 {
 refine cplain fun pre_ post_ L_ T_ m' a' w' hl' hp' hm' hq' hS' hE' hT' => ?_
 obtain rfl := len0 hl'
 refine Step.imp (Run1.pure (r_move hE' rfl)) ?_
 rintro _ _ ⟨rfl, rfl⟩
 exact ⟨_, M.le.refl _, hS', rfl⟩
 }
 {
 refine cplain fun pre_ post_ L_ T_ m' a' w' hl' hp' hm' hq' hS' hE' hT' => ?_
 obtain rfl := len0 hl'
 refine Step.imp (Run1.pure (r_move hE' rfl)) ?_
 rintro _ _ ⟨rfl, rfl⟩
 exact ⟨_, M.le.refl _, hS', ⟨rfl, (inR_wrap _ _)⟩⟩
 }
 {
 refine cplain fun pre_ post_ L_ T_ m' a' w' hl' hp' hm' hq' hS' hE' hT' => ?_
 obtain rfl := len0 hl'
 obtain rfl := len0 (lenz (a := 0) hp')
 obtain ⟨rfl, rfl⟩ := hq'
 obtain ⟨v641, e642, q643⟩ : ∃ v, a'.tmps.getD 165 undef = v ∧ (v = v0) := ⟨_, rfl, hT' 7 (by decide) 165 rfl⟩
 have hE := hE'.add (e642.trans q643)
 obtain ⟨v644, e645, q646⟩ : ∃ v, a'.tmps.getD 166 undef = v ∧ (v = (.int .i64 (IntKind.i64.wrap (iShr .u64 (IntKind.u64.wrap (IntKind.i64.wrap (x587 + x589))) 1))) ∧ inR .i64 (IntKind.i64.wrap (iShr .u64 (IntKind.u64.wrap (IntKind.i64.wrap (x587 + x589))) 1))) := ⟨_, rfl, hT' 8 (by decide) 166 rfl⟩
 obtain ⟨q646, hr647⟩ := q646
 have hE := hE.add (e645.trans q646)
 refine Step.imp (Run1.pure (r_indexG (k := kApi_Version) hE rfl rfl Try.underlying25 Try.sizeOf31 (ha0.mono (M.le.trans hm474 (M.le.trans hm586 hm'))) hj610 rfl)) ?_
 rintro _ _ ⟨rfl, rfl⟩
 exact ⟨_, M.le.refl _, hS', rfl⟩
 }
 {
 refine cplain fun pre_ post_ L_ T_ m' a' w' hl' hp' hm' hq' hS' hE' hT' => ?_
 obtain rfl := len0 hl'
 obtain rfl := len0 (lenz (a := 0) hp')
 obtain ⟨rfl, rfl⟩ := hq'
 obtain ⟨v649, e650, q651⟩ : ∃ v, a'.tmps.getD 167 undef = v ∧ (v = (.pointer (some ⟨b0_, j609 * 4, none⟩))) := ⟨_, rfl, hT' 9 (by decide) 167 rfl⟩
 have hE := hE'.add (e650.trans q651)
 refine Step.imp (st_loadL hE hS' ty31 rfl (i := 0) rfl (GS.elem (ha0.mono (M.le.trans hm474 (M.le.trans hm586 hm'))) hx613)) ?_
 rintro v652 _ ⟨rfl, hv611⟩
 exact ⟨_, M.le.refl _, hS', hv611⟩
 }
 }
 {
 intro ws_ L_ T_ m653 a w hl654 hm655 hq656 hS hd657 hn658 ho659 hT660
 obtain rfl := len0 hl654
 obtain ⟨rfl, rfl⟩ := hq656
 have hE := EnvD.of (k := 11) (l' := [(0, v0), (1, (.int .i64 p1)), (2, (.int .i64 p2)), (3, (.int .i64 p3)), (4, v4), (18, (.int .i64 (IntKind.i64.wrap (iShr .u64 (IntKind.u64.wrap (IntKind.i64.wrap (p1 + p3))) 1)))), (19, (.int .i64 (IntKind.i64.wrap ((IntKind.i64.wrap (iShr .u64 (IntKind.u64.wrap (IntKind.i64.wrap (p1 + p3))) 1)) + p2)))), (20, (.int .i64 x587)), (21, (.int .i64 x589)), (22, (.int .i64 (IntKind.i64.wrap ((IntKind.i64.wrap ((IntKind.i64.wrap (iShr .u64 (IntKind.u64.wrap (IntKind.i64.wrap (p1 + p3))) 1)) + p2)) - 1)))), (23, (.int .i64 (IntKind.i64.wrap (iShr .u64 (IntKind.u64.wrap (IntKind.i64.wrap (x587 + x589))) 1)))), (149, (.int .i64 x587)), (150, (.int .i64 x589)), (151, (.bool (decide (x587 < x589)))), (152, (.int .i64 x587)), (153, (.int .i64 x589)), (154, (.int .i64 (IntKind.i64.wrap (x587 + x589)))), (155, (.int .u64 (IntKind.u64.wrap (IntKind.i64.wrap (x587 + x589))))), (156, (.int .u64 (iShr .u64 (IntKind.u64.wrap (IntKind.i64.wrap (x587 + x589))) 1))), (157, (.int .i64 (IntKind.i64.wrap (iShr .u64 (IntKind.u64.wrap (IntKind.i64.wrap (x587 + x589))) 1))))]) hd657 hn658 ho659 ⟨rfl, rfl, rfl, rfl, rfl, rfl, rfl, rfl, rfl, rfl, rfl, rfl, rfl, rfl, rfl, rfl, rfl, rfl, rfl, rfl, trivial⟩ rfl
 obtain ⟨v661, e662, q663⟩ : ∃ v, a.tmps.getD 158 undef = v ∧ (v = v4) := ⟨_, rfl, hT660 0 (by decide) 158 rfl⟩
 have hE := hE.add (e662.trans q663)
 obtain ⟨v664, e665, q666⟩ : ∃ v, a.tmps.getD 164 undef = v ∧ (RV kApi_Version m653 v x607) := ⟨_, rfl, hT660 6 (by decide) 164 rfl⟩
 have hE := hE.add (e665)
 obtain ⟨v667, e668, q669⟩ : ∃ v, a.tmps.getD 168 undef = v ∧ (RV kApi_Version m653 v x612) := ⟨_, rfl, hT660 10 (by decide) 168 rfl⟩
 have hE := hE.add (e668)
 obtain ⟨r670, hr671, h⟩ := ob h
 refine st hE (st_callF2 hE hS rfl rfl (ha4.mono (M.le.trans hm474 (M.le.trans hm586 hm655))) q666 q669 hr671) rfl ?_
 rintro v675 a w ⟨m672, hm673, hS, hv674⟩ hE
 obtain ⟨rfl, hr676⟩ := RV_int hv674
 refine sp hE (r_bin hE rfl rfl b_lss) rfl fun a hE => ?_
 refine sp hE (r_not hE rfl) rfl fun a hE => ?_
 refine knil ?_
 refine kif hE rfl (fun hd679 => ?_) (fun hd679 => ?_)
 {
 have h := ite_T hd679 h
 refine kreg ?_
 refine qm hE rfl rfl fun a hE => ?_
 refine sp hE (r_bin hE rfl rfl (b_add rfl)) rfl fun a hE => ?_
 refine qa hE rfl rfl fun a hE => ?_
 refine knil ?_
 exact ⟨(IntKind.i64.wrap ((IntKind.i64.wrap (iShr .u64 (IntKind.u64.wrap (IntKind.i64.wrap (x587 + x589))) 1)) + 1), x589), (Option.some.inj h).symm, _, (M.le.trans hm586 (M.le.trans hm655 hm673)), (inR_wrap _ _), hr590, hS, hE.cut ⟨rfl, rfl, rfl, rfl, rfl, rfl, rfl, rfl, rfl, rfl, trivial⟩⟩
 }
 {
 have h := ite_F hd679 h
 refine kreg ?_
 refine qm hE rfl rfl fun a hE => ?_
 refine qa hE rfl rfl fun a hE => ?_
 refine knil ?_
 exact ⟨(x587, IntKind.i64.wrap (iShr .u64 (IntKind.u64.wrap (IntKind.i64.wrap (x587 + x589))) 1)), (Option.some.inj h).symm, _, (M.le.trans hm586 (M.le.trans hm655 hm673)), hr588, (inR_wrap _ _), hS, hE.cut ⟨rfl, rfl, rfl, rfl, rfl, rfl, rfl, rfl, rfl, rfl, trivial⟩⟩
 }
 }
 }
 {
 have h := ite_F hd596 h
 refine kexit rfl rfl ?_
 have h := unwrap h hb592
 exact ⟨x587, h, _, hm586, hr588, hS, hE.cut ⟨rfl, rfl, rfl, rfl, rfl, rfl, rfl, rfl, trivial⟩⟩
 }
 }
 }
 {
 rintro a w ⟨x485, h, m483, hm484, hr486, hS, hE⟩
 unfold slices_symMergeCmpFunc_Version_j6 at h
 refine kseq (kreg ?_)
 refine qm hE rfl rfl fun a hE => ?_
 refine qm hE rfl rfl fun a hE => ?_
 refine sp hE (r_bin hE rfl rfl (b_sub rfl)) rfl fun a hE => ?_
 refine qa hE rfl rfl fun a hE => ?_
 refine knil (kseq (kseq ?_))
 refine kcut (fun a w => ∃ x494 : Bool, slices_symMergeCmpFunc_Version_j7 p0 p1 p2 p3 p4 self_ x485 x494 = some r ∧ ∃ m', M.le m483 m' ∧ S W0 m' w ((b0_, c0_) :: L) (TL) ∧ Env 220 a [(0, v0), (1, (.int .i64 p1)), (2, (.int .i64 p2)), (3, (.int .i64 p3)), (4, v4), (18, (.int .i64 (IntKind.i64.wrap (iShr .u64 (IntKind.u64.wrap (IntKind.i64.wrap (p1 + p3))) 1)))), (20, (.int .i64 x485)), (24, (.int .i64 (IntKind.i64.wrap ((IntKind.i64.wrap ((IntKind.i64.wrap (iShr .u64 (IntKind.u64.wrap (IntKind.i64.wrap (p1 + p3))) 1)) + p2)) - x485)))), (185, (.bool x494))]) ?_ ?_
 {
 refine kreg ?_
 refine qm hE rfl rfl fun a hE => ?_
 refine qm hE rfl rfl fun a hE => ?_
 refine sp hE (r_bin hE rfl rfl b_lss) rfl fun a hE => ?_
 refine qm hE rfl rfl fun a hE => ?_
 rcases Bool.eq_false_or_eq_true (decide (x485 < p2)) with hd579 | hd579
 {
 have h := ite_T hd579 h
 refine spg hE rfl rfl rfl rfl hd579 (r_move hE rfl) rfl fun a hE => ?_
 refine spg hE rfl rfl rfl rfl hd579 (r_move hE rfl) rfl fun a hE => ?_
 refine spg hE rfl rfl rfl rfl hd579 (r_bin hE rfl rfl b_lss) rfl fun a hE => ?_
 refine sp hE (r_pickT hE rfl hd579 rfl) rfl fun a hE => ?_
 refine knil ?_
 exact ⟨(decide (p2 < (IntKind.i64.wrap ((IntKind.i64.wrap ((IntKind.i64.wrap (iShr .u64 (IntKind.u64.wrap (IntKind.i64.wrap (p1 + p3))) 1)) + p2)) - x485)))), h, _, (M.le.refl _), hS, hE.cut ⟨rfl, rfl, rfl, rfl, rfl, rfl, rfl, rfl, rfl, trivial⟩⟩
 }
 {
 have h := ite_F hd579 h
 refine sx hE rfl rfl rfl rfl hd579 rfl fun a hE => ?_
 refine sx hE rfl rfl rfl rfl hd579 rfl fun a hE => ?_
 refine sx hE rfl rfl rfl rfl hd579 rfl fun a hE => ?_
 refine sp hE (r_pickF hE rfl hd579 rfl) rfl fun a hE => ?_
 refine knil ?_
 exact ⟨false, h, _, (M.le.refl _), hS, hE.cut ⟨rfl, rfl, rfl, rfl, rfl, rfl, rfl, rfl, rfl, trivial⟩⟩
 }
 }
 {
 rintro a w ⟨x494, h, m492, hm493, hS, hE⟩
 unfold slices_symMergeCmpFunc_Version_j7 at h
 refine kcut (fun a w => ∃ x498 : (List Api_Version), slices_symMergeCmpFunc_Version_j8 p1 p2 p3 p4 self_ x485 x498 = some r ∧ ∃ m', M.le m492 m' ∧ ∃ (cs499 : List Value), GS kApi_Version m' b0_ cs499 v0 x498 ∧ S W0 m' w ((b0_, cs499) :: L) (TL) ∧ Env 220 a [(0, v0), (1, (.int .i64 p1)), (3, (.int .i64 p3)), (4, v4), (18, (.int .i64 (IntKind.i64.wrap (iShr .u64 (IntKind.u64.wrap (IntKind.i64.wrap (p1 + p3))) 1)))), (20, (.int .i64 x485)), (24, (.int .i64 (IntKind.i64.wrap ((IntKind.i64.wrap ((IntKind.i64.wrap (iShr .u64 (IntKind.u64.wrap (IntKind.i64.wrap (p1 + p3))) 1)) + p2)) - x485))))]) ?_ ?_
 {
 refine kif hE rfl (fun hd562 => ?_) (fun hd562 => ?_)
 {
 have h := ite_T hd562 h
 refine kreg ?_
 refine qm hE rfl rfl fun a hE => ?_
 refine qm hE rfl rfl fun a hE => ?_
 refine qm hE rfl rfl fun a hE => ?_
 refine qm hE rfl rfl fun a hE => ?_
 refine qm hE rfl rfl fun a hE => ?_
 obtain ⟨r568, hr569, h⟩ := ob h
 refine st hE (st_call (vs := [v0, (.int .i64 x485), (.int .i64 p2), (.int .i64 (IntKind.i64.wrap ((IntKind.i64.wrap ((IntKind.i64.wrap (iShr .u64 (IntKind.u64.wrap (IntKind.i64.wrap (p1 + p3))) 1)) + p2)) - x485))), v4]) hE rfl Try.call43 (c_slices_rotateCmpFunc_Version (hS := hS) (ha0.mono (M.le.trans hm474 (M.le.trans hm484 hm493))) hr486 ha2 (inR_wrap _ _) (ha4.mono (M.le.trans hm474 (M.le.trans hm484 hm493))) hr569)) rfl ?_
 rintro v574 a w ⟨m570, hm571, c0_572, hS, hc0_573⟩ hE
 refine knil ?_
 exact ⟨r568, h, _, hm571, c0_572, hc0_573, hS, hE.cut ⟨rfl, rfl, rfl, rfl, rfl, rfl, rfl, trivial⟩⟩
 }
 {
 have h := ite_F hd562 h
 refine kskip ?_
 exact ⟨p0, h, _, (M.le.refl _), c0_, (ha0.mono (M.le.trans hm474 (M.le.trans hm484 hm493))), hS, hE.cut ⟨rfl, rfl, rfl, rfl, rfl, rfl, rfl, trivial⟩⟩
 }
 }
 {
 rintro a w ⟨x498, h, m496, hm497, cs499, hc500, hS, hE⟩
 unfold slices_symMergeCmpFunc_Version_j8 at h
 refine kseq (kseq ?_)
 refine kcut (fun a w => ∃ x504 : Bool, slices_symMergeCmpFunc_Version_j9 p1 p2 p3 p4 self_ x485 x498 x504 = some r ∧ ∃ m', M.le m496 m' ∧ S W0 m' w ((b0_, cs499) :: L) (TL) ∧ Env 220 a [(0, v0), (1, (.int .i64 p1)), (3, (.int .i64 p3)), (4, v4), (18, (.int .i64 (IntKind.i64.wrap (iShr .u64 (IntKind.u64.wrap (IntKind.i64.wrap (p1 + p3))) 1)))), (20, (.int .i64 x485)), (24, (.int .i64 (IntKind.i64.wrap ((IntKind.i64.wrap ((IntKind.i64.wrap (iShr .u64 (IntKind.u64.wrap (IntKind.i64.wrap (p1 + p3))) 1)) + p2)) - x485)))), (199, (.bool x504))]) ?_ ?_
 {
 refine kreg ?_
 refine qm hE rfl rfl fun a hE => ?_
 refine qm hE rfl rfl fun a hE => ?_
 refine sp hE (r_bin hE rfl rfl b_lss) rfl fun a hE => ?_
 refine qm hE rfl rfl fun a hE => ?_
 rcases Bool.eq_false_or_eq_true (decide (p1 < x485)) with hd556 | hd556
 {
 have h := ite_T hd556 h
 refine spg hE rfl rfl rfl rfl hd556 (r_move hE rfl) rfl fun a hE => ?_
 refine spg hE rfl rfl rfl rfl hd556 (r_move hE rfl) rfl fun a hE => ?_
 refine spg hE rfl rfl rfl rfl hd556 (r_bin hE rfl rfl b_lss) rfl fun a hE => ?_
 refine sp hE (r_pickT hE rfl hd556 rfl) rfl fun a hE => ?_
 refine knil ?_
 exact ⟨(decide (x485 < (IntKind.i64.wrap (iShr .u64 (IntKind.u64.wrap (IntKind.i64.wrap (p1 + p3))) 1)))), h, _, (M.le.refl _), hS, hE.cut ⟨rfl, rfl, rfl, rfl, rfl, rfl, rfl, rfl, trivial⟩⟩
 }
 {
 have h := ite_F hd556 h
 refine sx hE rfl rfl rfl rfl hd556 rfl fun a hE => ?_
 refine sx hE rfl rfl rfl rfl hd556 rfl fun a hE => ?_
 refine sx hE rfl rfl rfl rfl hd556 rfl fun a hE => ?_
 refine sp hE (r_pickF hE rfl hd556 rfl) rfl fun a hE => ?_
 refine knil ?_
 exact ⟨false, h, _, (M.le.refl _), hS, hE.cut ⟨rfl, rfl, rfl, rfl, rfl, rfl, rfl, rfl, trivial⟩⟩
 }
 }
 {
 rintro a w ⟨x504, h, m502, hm503, hS, hE⟩
 unfold slices_symMergeCmpFunc_Version_j9 at h
 refine kcut (fun a w => ∃ x508 : (List Api_Version), slices_symMergeCmpFunc_Version_j10 p1 p2 p3 p4 self_ x485 x508 = some r ∧ ∃ m', M.le m502 m' ∧ ∃ (cs509 : List Value), GS kApi_Version m' b0_ cs509 v0 x508 ∧ S W0 m' w ((b0_, cs509) :: L) (TL) ∧ Env 220 a [(0, v0), (3, (.int .i64 p3)), (4, v4), (18, (.int .i64 (IntKind.i64.wrap (iShr .u64 (IntKind.u64.wrap (IntKind.i64.wrap (p1 + p3))) 1)))), (24, (.int .i64 (IntKind.i64.wrap ((IntKind.i64.wrap ((IntKind.i64.wrap (iShr .u64 (IntKind.u64.wrap (IntKind.i64.wrap (p1 + p3))) 1)) + p2)) - x485))))]) ?_ ?_
 {
 refine kif hE rfl (fun hd539 => ?_) (fun hd539 => ?_)
 {
 have h := ite_T hd539 h
 refine kreg ?_
 refine qm hE rfl rfl fun a hE => ?_
 refine qm hE rfl rfl fun a hE => ?_
 refine qm hE rfl rfl fun a hE => ?_
 refine qm hE rfl rfl fun a hE => ?_
 refine qm hE rfl rfl fun a hE => ?_
 obtain ⟨r545, hr546, h⟩ := ob h
 refine st hE (st_call (vs := [v0, (.int .i64 p1), (.int .i64 x485), (.int .i64 (IntKind.i64.wrap (iShr .u64 (IntKind.u64.wrap (IntKind.i64.wrap (p1 + p3))) 1))), v4]) hE rfl Try.call36 (cself_ (hS := hS) (hc500.mono hm503) ha1 hr486 (inR_wrap _ _) (ha4.mono (M.le.trans hm474 (M.le.trans hm484 (M.le.trans hm493 (M.le.trans hm497 hm503))))) hr546)) rfl ?_
 rintro v551 a w ⟨m547, hm548, c0_549, hS, hc0_550⟩ hE
 refine knil ?_
 exact ⟨r545, h, _, hm548, c0_549, hc0_550, hS, hE.cut ⟨rfl, rfl, rfl, rfl, rfl, trivial⟩⟩
 }
 {
 have h := ite_F hd539 h
 refine kskip ?_
 exact ⟨x498, h, _, (M.le.refl _), cs499, (hc500.mono hm503), hS, hE.cut ⟨rfl, rfl, rfl, rfl, rfl, trivial⟩⟩
 }
 }
 {
 rintro a w ⟨x508, h, m506, hm507, cs509, hc510, hS, hE⟩
 unfold slices_symMergeCmpFunc_Version_j10 at h
 refine kseq ?_
 refine kcut (fun a w => ∃ x514 : Bool, slices_symMergeCmpFunc_Version_j11 p1 p2 p3 p4 self_ x485 x508 x514 = some r ∧ ∃ m', M.le m506 m' ∧ S W0 m' w ((b0_, cs509) :: L) (TL) ∧ Env 220 a [(0, v0), (3, (.int .i64 p3)), (4, v4), (18, (.int .i64 (IntKind.i64.wrap (iShr .u64 (IntKind.u64.wrap (IntKind.i64.wrap (p1 + p3))) 1)))), (24, (.int .i64 (IntKind.i64.wrap ((IntKind.i64.wrap ((IntKind.i64.wrap (iShr .u64 (IntKind.u64.wrap (IntKind.i64.wrap (p1 + p3))) 1)) + p2)) - x485)))), (213, (.bool x514))]) ?_ ?_
 {
 refine kreg ?_
 refine qm hE rfl rfl fun a hE => ?_
 refine qm hE rfl rfl fun a hE => ?_
 refine sp hE (r_bin hE rfl rfl b_lss) rfl fun a hE => ?_
 refine qm hE rfl rfl fun a hE => ?_
 rcases Bool.eq_false_or_eq_true (decide ((IntKind.i64.wrap (iShr .u64 (IntKind.u64.wrap (IntKind.i64.wrap (p1 + p3))) 1)) < (IntKind.i64.wrap ((IntKind.i64.wrap ((IntKind.i64.wrap (iShr .u64 (IntKind.u64.wrap (IntKind.i64.wrap (p1 + p3))) 1)) + p2)) - x485)))) with hd533 | hd533
 {
 have h := ite_T hd533 h
 refine spg hE rfl rfl rfl rfl hd533 (r_move hE rfl) rfl fun a hE => ?_
 refine spg hE rfl rfl rfl rfl hd533 (r_move hE rfl) rfl fun a hE => ?_
 refine spg hE rfl rfl rfl rfl hd533 (r_bin hE rfl rfl b_lss) rfl fun a hE => ?_
 refine sp hE (r_pickT hE rfl hd533 rfl) rfl fun a hE => ?_
 refine knil ?_
 exact ⟨(decide ((IntKind.i64.wrap ((IntKind.i64.wrap ((IntKind.i64.wrap (iShr .u64 (IntKind.u64.wrap (IntKind.i64.wrap (p1 + p3))) 1)) + p2)) - x485)) < p3)), h, _, (M.le.refl _), hS, hE.cut ⟨rfl, rfl, rfl, rfl, rfl, rfl, trivial⟩⟩
 }
 {
 have h := ite_F hd533 h
 refine sx hE rfl rfl rfl rfl hd533 rfl fun a hE => ?_
 refine sx hE rfl rfl rfl rfl hd533 rfl fun a hE => ?_
 refine sx hE rfl rfl rfl rfl hd533 rfl fun a hE => ?_
 refine sp hE (r_pickF hE rfl hd533 rfl) rfl fun a hE => ?_
 refine knil ?_
 exact ⟨false, h, _, (M.le.refl _), hS, hE.cut ⟨rfl, rfl, rfl, rfl, rfl, rfl, trivial⟩⟩
 }
 }
 {
 rintro a w ⟨x514, h, m512, hm513, hS, hE⟩
 unfold slices_symMergeCmpFunc_Version_j11 at h
 refine kif hE rfl (fun hd516 => ?_) (fun hd516 => ?_)
 {
 have h := ite_T hd516 h
 refine kreg ?_
 refine qm hE rfl rfl fun a hE => ?_
 refine qm hE rfl rfl fun a hE => ?_
 refine qm hE rfl rfl fun a hE => ?_
 refine qm hE rfl rfl fun a hE => ?_
 refine qm hE rfl rfl fun a hE => ?_
 obtain ⟨r522, hr523, h⟩ := ob h
 refine st hE (st_call (vs := [v0, (.int .i64 (IntKind.i64.wrap (iShr .u64 (IntKind.u64.wrap (IntKind.i64.wrap (p1 + p3))) 1))), (.int .i64 (IntKind.i64.wrap ((IntKind.i64.wrap ((IntKind.i64.wrap (iShr .u64 (IntKind.u64.wrap (IntKind.i64.wrap (p1 + p3))) 1)) + p2)) - x485))), (.int .i64 p3), v4]) hE rfl Try.call36 (cself_ (hS := hS) (hc510.mono hm513) (inR_wrap _ _) (inR_wrap _ _) ha3 (ha4.mono (M.le.trans hm474 (M.le.trans hm484 (M.le.trans hm493 (M.le.trans hm497 (M.le.trans hm503 (M.le.trans hm507 hm513))))))) hr523)) rfl ?_
 rintro v528 a w ⟨m524, hm525, c0_526, hS, hc0_527⟩ hE
 refine knil ?_
 obtain rfl := oi h
 try dsimp only
 refine Fin.mk hE (rs := []) rfl ResL.nil ?_
 exact ⟨_, (M.le.trans hm474 (M.le.trans hm484 (M.le.trans hm493 (M.le.trans hm497 (M.le.trans hm503 (M.le.trans hm507 (M.le.trans hm513 hm525))))))), c0_526, hS, hc0_527⟩
 }
 {
 have h := ite_F hd516 h
 refine kskip ?_
 obtain rfl := oi h
 try dsimp only
 refine Fin.mk hE (rs := []) rfl ResL.nil ?_
 exact ⟨_, (M.le.trans hm474 (M.le.trans hm484 (M.le.trans hm493 (M.le.trans hm497 (M.le.trans hm503 (M.le.trans hm507 hm513)))))), cs509, hS, (hc510.mono hm513)⟩
 }
 }
 }
 }
 }
 }
 }
 }
 }
 }
theorem cn_slices_symMergeCmpFunc_Version : ∀ (n : Nat) {W0 : Bse} {m : M} {w : World} {L : List (Nat × List Value)} {TL : List (Nat × Value)} {b0_ : Nat} {c0_ : List Value} (hS : S W0 m w ((b0_, c0_) :: L) (TL)) {v0 : Value} {p0 : (List Api_Version)} (ha0 : GS kApi_Version m b0_ c0_ v0 p0) {p1 : Int} (ha1 : inR .i64 p1) {p2 : Int} (ha2 : inR .i64 p2) {p3 : Int} (ha3 : inR .i64 p3) {v4 : Value} {p4 : (Api_Version → Api_Version → Option Int)} (ha4 : Fn2 Try.prog kApi_Version kApi_Version (kInt .i64) m v4 p4) {r : (List Api_Version)} (h : slices_symMergeCmpFunc_Version_n n p0 p1 p2 p3 p4 = some r), Calls Try.prog 36 [v0, (.int .i64 p1), (.int .i64 p2), (.int .i64 p3), v4].toArray w (Ret fun v w' => ∃ m', M.le m m' ∧ ∃ q0_ : List Value, S W0 m' w' ((b0_, q0_) :: L) (TL) ∧ GS kApi_Version m' b0_ q0_ v0 r) := by
 intro n
 induction n with
 | zero => intro W0 m w L TL b0_ c0_ hS v0 p0 ha0 p1 ha1 p2 ha2 p3 ha3 v4 p4 ha4 r h; exact nomatch (show (none : Option _) = some r from h)
 | succ n ih =>
  intro W0 m w L TL b0_ c0_ hS v0 p0 ha0 p1 ha1 p2 ha2 p3 ha3 v4 p4 ha4 r h
  exact cF_slices_symMergeCmpFunc_Version (self_ := slices_symMergeCmpFunc_Version_n n) @ih hS ha0 ha1 ha2 ha3 ha4 h
theorem c_slices_symMergeCmpFunc_Version {W0 : Bse} {m : M} {w : World} {L : List (Nat × List Value)} {TL : List (Nat × Value)} {b0_ : Nat} {c0_ : List Value} (hS : S W0 m w ((b0_, c0_) :: L) (TL)) {v0 : Value} {p0 : (List Api_Version)} (ha0 : GS kApi_Version m b0_ c0_ v0 p0) {p1 : Int} (ha1 : inR .i64 p1) {p2 : Int} (ha2 : inR .i64 p2) {p3 : Int} (ha3 : inR .i64 p3) {v4 : Value} {p4 : (Api_Version → Api_Version → Option Int)} (ha4 : Fn2 Try.prog kApi_Version kApi_Version (kInt .i64) m v4 p4) {r : (List Api_Version)} (h : slices_symMergeCmpFunc_Version p0 p1 p2 p3 p4 = some r) : Calls Try.prog 36 [v0, (.int .i64 p1), (.int .i64 p2), (.int .i64 p3), v4].toArray w (Ret fun v w' => ∃ m', M.le m m' ∧ ∃ q0_ : List Value, S W0 m' w' ((b0_, q0_) :: L) (TL) ∧ GS kApi_Version m' b0_ q0_ v0 r) := cn_slices_symMergeCmpFunc_Version _ hS ha0 ha1 ha2 ha3 ha4 h
theorem c_slices_stableCmpFunc_Version  {W0 : Bse} {m : M} {w : World} {L : List (Nat × List Value)} {TL : List (Nat × Value)} {b0_ : Nat} {c0_ : List Value} (hS : S W0 m w ((b0_, c0_) :: L) (TL)) {v0 : Value} {p0 : (List Api_Version)} (ha0 : GS kApi_Version m b0_ c0_ v0 p0) {p1 : Int} (ha1 : inR .i64 p1) {v2 : Value} {p2 : (Api_Version → Api_Version → Option Int)} (ha2 : Fn2 Try.prog kApi_Version kApi_Version (kInt .i64) m v2 p2) {r : (List Api_Version)} (h : slices_stableCmpFunc_Version p0 p1 p2 = some r) :
    Calls Try.prog 26 [v0, (.int .i64 p1), v2].toArray w (Ret fun v w' => ∃ m', M.le m m' ∧ ∃ q0_ : List Value, S W0 m' w' ((b0_, q0_) :: L) (TL) ∧ GS kApi_Version m' b0_ q0_ v0 r) := by
 refine kcall Try.func26 rfl Try.ntmps26 (Nat.le_of_ble_eq_true rfl) fun a hE => ?_
 have hE : Env 63 a [(0, v0), (1, (.int .i64 p1)), (2, v2)] := hE
 unfold slices_stableCmpFunc_Version at h
 refine kseq (kreg ?_)
 refine qa hE rfl rfl fun a hE => ?_
 refine knil (kseq (kreg ?_))
 refine qm hE rfl rfl fun a hE => ?_
 refine qa hE rfl rfl fun a hE => ?_
 refine qa hE rfl rfl fun a hE => ?_
 refine knil (kseq ?_)
 refine kcut (fun a w => ∃ x7 : Int, ∃ x9 : (List Api_Version), slices_stableCmpFunc_Version_j1 p1 p2 x7 x9 = some r ∧ ∃ m', M.le m m' ∧ ∃ (cs10 : List Value), inR .i64 x7 ∧ GS kApi_Version m' b0_ cs10 v0 x9 ∧ S W0 m' w ((b0_, cs10) :: L) (TL) ∧ Env 63 a [(0, v0), (1, (.int .i64 p1)), (2, v2), (6, (.int .i64 20)), (7, (.int .i64 x7))]) ?_ ?_
 {
 refine kblock ?_
 refine kloop h (fun (s : (Int × Int × (List Api_Version))) a w => ∃ m', M.le m m' ∧ ∃ (cs121 : List Value), inR .i64 s.1 ∧ inR .i64 s.2.1 ∧ GS kApi_Version m' b0_ cs121 v0 s.2.2 ∧ S W0 m' w ((b0_, cs121) :: L) (TL) ∧ Env 63 a [(0, v0), (1, (.int .i64 p1)), (2, v2), (6, (.int .i64 20)), (7, (.int .i64 s.1)), (8, (.int .i64 s.2.1))]) ?_ ?_
 {
 exact ⟨_, (M.le.refl _), c0_, (show inR .i64 0 from inR_lit (by decide)), (show inR .i64 20 from inR_lit (by decide)), ha0, hS, hE.cut ⟨rfl, rfl, rfl, rfl, rfl, rfl, trivial⟩⟩
 }
 {
 rintro ⟨x116, x118, x120⟩ a w ⟨m114, hm115, cs121, hr117, hr119, hc122, hS, hE⟩ r123 h hb124
 have h : slices_stableCmpFunc_Version_b3 p1 p2 x116 x118 x120 = some r123 := h
 unfold slices_stableCmpFunc_Version_b3 at h
 refine kseq (kseq (kreg ?_))
 refine qm hE rfl rfl fun a hE => ?_
 refine qm hE rfl rfl fun a hE => ?_
 refine sp hE (r_bin hE rfl rfl b_leq) rfl fun a hE => ?_
 refine knil ?_
 refine kif hE rfl (fun hd128 => ?_) (fun hd128 => ?_)
 {
 have h := ite_T hd128 h
 refine kskip (kblock (kseq (kreg ?_)))
 refine qm hE rfl rfl fun a hE => ?_
 refine qm hE rfl rfl fun a hE => ?_
 refine qm hE rfl rfl fun a hE => ?_
 refine qm hE rfl rfl fun a hE => ?_
 obtain ⟨r133, hr134, h⟩ := ob h
 refine st hE (st_call (vs := [v0, (.int .i64 x116), (.int .i64 x118), v2]) hE rfl Try.call35 (c_slices_insertionSortCmpFunc_Version (hS := hS) hc122 hr117 hr119 (ha2.mono hm115) hr134)) rfl ?_
 rintro v139 a w ⟨m135, hm136, c0_137, hS, hc0_138⟩ hE
 refine knil (kseq (kreg ?_))
 refine qm hE rfl rfl fun a hE => ?_
 refine qa hE rfl rfl fun a hE => ?_
 refine knil (kreg ?_)
 refine qm hE rfl rfl fun a hE => ?_
 refine qm hE rfl rfl fun a hE => ?_
 refine sp hE (r_bin hE rfl rfl (b_add rfl)) rfl fun a hE => ?_
 refine qa hE rfl rfl fun a hE => ?_
 refine knil ?_
 exact ⟨(x118, IntKind.i64.wrap (x118 + 20), r133), (Option.some.inj h).symm, _, (M.le.trans hm115 hm136), c0_137, hr119, (inR_wrap _ _), hc0_138, hS, hE.cut ⟨rfl, rfl, rfl, rfl, rfl, rfl, trivial⟩⟩
 }
 {
 have h := ite_F hd128 h
 refine kexit rfl rfl ?_
 have h := unwrap h hb124
 exact ⟨x116, x120, h, _, hm115, cs121, hr117, hc122, hS, hE.cut ⟨rfl, rfl, rfl, rfl, rfl, trivial⟩⟩
 }
 }
 }
 {
 rintro a w ⟨x7, x9, h, m5, hm6, cs10, hr8, hc11, hS, hE⟩
 unfold slices_stableCmpFunc_Version_j1 at h
 refine kseq (kreg ?_)
 refine qm hE rfl rfl fun a hE => ?_
 refine qm hE rfl rfl fun a hE => ?_
 refine qm hE rfl rfl fun a hE => ?_
 refine qm hE rfl rfl fun a hE => ?_
 obtain ⟨r17, hr18, h⟩ := ob h
 refine st hE (st_call (vs := [v0, (.int .i64 x7), (.int .i64 p1), v2]) hE rfl Try.call35 (c_slices_insertionSortCmpFunc_Version (hS := hS) hc11 hr8 ha1 (ha2.mono hm6) hr18)) rfl ?_
 rintro v23 a w ⟨m19, hm20, c0_21, hS, hc0_22⟩ hE
 refine knil (kblock ?_)
 refine kloop h (fun (s : (Int × (List Api_Version))) a w => ∃ m', M.le m19 m' ∧ ∃ (cs29 : List Value), inR .i64 s.1 ∧ GS kApi_Version m' b0_ cs29 v0 s.2 ∧ S W0 m' w ((b0_, cs29) :: L) (TL) ∧ Env 63 a [(0, v0), (1, (.int .i64 p1)), (2, v2), (6, (.int .i64 s.1))]) ?_ ?_
 {
 exact ⟨_, (M.le.refl _), c0_21, (show inR .i64 20 from inR_lit (by decide)), hc0_22, hS, hE.cut ⟨rfl, rfl, rfl, rfl, trivial⟩⟩
 }
 {
 rintro ⟨x26, x28⟩ a w ⟨m24, hm25, cs29, hr27, hc30, hS, hE⟩ r31 h hb32
 have h : slices_stableCmpFunc_Version_b1 p1 p2 x26 x28 = some r31 := h
 unfold slices_stableCmpFunc_Version_b1 at h
 refine kseq (kseq (kreg ?_))
 refine qm hE rfl rfl fun a hE => ?_
 refine qm hE rfl rfl fun a hE => ?_
 refine sp hE (r_bin hE rfl rfl b_lss) rfl fun a hE => ?_
 refine knil ?_
 refine kif hE rfl (fun hd36 => ?_) (fun hd36 => ?_)
 {
 have h := ite_T hd36 h
 refine kskip (kblock (kseq (kreg ?_)))
 refine qm hE rfl rfl fun a hE => ?_
 refine sp hE (r_bin hE rfl rfl (b_mul rfl)) rfl fun a hE => ?_
 refine qa hE rfl rfl fun a hE => ?_
 refine qa hE rfl rfl fun a hE => ?_
 refine knil (kseq ?_)
 refine kcut (fun a w => ∃ x43 : Int, ∃ x45 : (List Api_Version), slices_stableCmpFunc_Version_j2 p1 p2 x26 x43 x45 = some r31 ∧ ∃ m', M.le m24 m' ∧ ∃ (cs46 : List Value), inR .i64 x43 ∧ GS kApi_Version m' b0_ cs46 v0 x45 ∧ S W0 m' w ((b0_, cs46) :: L) (TL) ∧ Env 63 a [(0, v0), (1, (.int .i64 p1)), (2, v2), (6, (.int .i64 x26)), (7, (.int .i64 x43))]) ?_ ?_
 {
 refine kblock ?_
 refine kloop h (fun (s : (Int × Int × (List Api_Version))) a w => ∃ m', M.le m24 m' ∧ ∃ (cs85 : List Value), inR .i64 s.1 ∧ inR .i64 s.2.1 ∧ GS kApi_Version m' b0_ cs85 v0 s.2.2 ∧ S W0 m' w ((b0_, cs85) :: L) (TL) ∧ Env 63 a [(0, v0), (1, (.int .i64 p1)), (2, v2), (6, (.int .i64 x26)), (7, (.int .i64 s.1)), (8, (.int .i64 s.2.1))]) ?_ ?_
 {
 exact ⟨_, (M.le.refl _), cs29, (show inR .i64 0 from inR_lit (by decide)), (inR_wrap _ _), hc30, hS, hE.cut ⟨rfl, rfl, rfl, rfl, rfl, rfl, trivial⟩⟩
 }
 {
 rintro ⟨x80, x82, x84⟩ a w ⟨m78, hm79, cs85, hr81, hr83, hc86, hS, hE⟩ r87 h hb88
 have h : slices_stableCmpFunc_Version_b2 p1 p2 x26 x80 x82 x84 = some r87 := h
 unfold slices_stableCmpFunc_Version_b2 at h
 refine kseq (kseq (kreg ?_))
 refine qm hE rfl rfl fun a hE => ?_
 refine qm hE rfl rfl fun a hE => ?_
 refine sp hE (r_bin hE rfl rfl b_leq) rfl fun a hE => ?_
 refine knil ?_
 refine kif hE rfl (fun hd92 => ?_) (fun hd92 => ?_)
 {
 have h := ite_T hd92 h
 refine kskip (kblock (kseq (kreg ?_)))
 refine qm hE rfl rfl fun a hE => ?_
 refine qm hE rfl rfl fun a hE => ?_
 refine qm hE rfl rfl fun a hE => ?_
 refine qm hE rfl rfl fun a hE => ?_
 refine sp hE (r_bin hE rfl rfl (b_add rfl)) rfl fun a hE => ?_
 refine qm hE rfl rfl fun a hE => ?_
 refine qm hE rfl rfl fun a hE => ?_
 obtain ⟨r100, hr101, h⟩ := ob h
 refine st hE (st_call (vs := [v0, (.int .i64 x80), (.int .i64 (IntKind.i64.wrap (x80 + x26))), (.int .i64 x82), v2]) hE rfl Try.call36 (c_slices_symMergeCmpFunc_Version (hS := hS) hc86 hr81 (inR_wrap _ _) hr83 (ha2.mono (M.le.trans hm6 (M.le.trans hm20 (M.le.trans hm25 hm79)))) hr101)) rfl ?_
 rintro v106 a w ⟨m102, hm103, c0_104, hS, hc0_105⟩ hE
 refine knil (kseq (kreg ?_))
 refine qm hE rfl rfl fun a hE => ?_
 refine qa hE rfl rfl fun a hE => ?_
 refine knil (kreg ?_)
 refine qm hE rfl rfl fun a hE => ?_
 refine qm hE rfl rfl fun a hE => ?_
 refine sp hE (r_bin hE rfl rfl (b_mul rfl)) rfl fun a hE => ?_
 refine sp hE (r_bin hE rfl rfl (b_add rfl)) rfl fun a hE => ?_
 refine qa hE rfl rfl fun a hE => ?_
 refine knil ?_
 exact ⟨(x82, IntKind.i64.wrap (x82 + (IntKind.i64.wrap (2 * x26))), r100), (Option.some.inj h).symm, _, (M.le.trans hm79 hm103), c0_104, hr83, (inR_wrap _ _), hc0_105, hS, hE.cut ⟨rfl, rfl, rfl, rfl, rfl, rfl, trivial⟩⟩
 }
 {
 have h := ite_F hd92 h
 refine kexit rfl rfl ?_
 have h := unwrap h hb88
 exact ⟨x80, x84, h, _, hm79, cs85, hr81, hc86, hS, hE.cut ⟨rfl, rfl, rfl, rfl, rfl, trivial⟩⟩
 }
 }
 }
 {
 rintro a w ⟨x43, x45, h, m41, hm42, cs46, hr44, hc47, hS, hE⟩
 unfold slices_stableCmpFunc_Version_j2 at h
 refine kseq (kseq (kreg ?_))
 refine qm hE rfl rfl fun a hE => ?_
 refine qm hE rfl rfl fun a hE => ?_
 refine sp hE (r_bin hE rfl rfl (b_add rfl)) rfl fun a hE => ?_
 refine qa hE rfl rfl fun a hE => ?_
 refine knil (kseq (kreg ?_))
 refine qm hE rfl rfl fun a hE => ?_
 refine qm hE rfl rfl fun a hE => ?_
 refine sp hE (r_bin hE rfl rfl b_lss) rfl fun a hE => ?_
 refine knil ?_
 refine kcut (fun a w => ∃ x58 : (List Api_Version), slices_stableCmpFunc_Version_j3 x26 x58 = some r31 ∧ ∃ m', M.le m41 m' ∧ ∃ (cs59 : List Value), GS kApi_Version m' b0_ cs59 v0 x58 ∧ S W0 m' w ((b0_, cs59) :: L) (TL) ∧ Env 63 a [(0, v0), (1, (.int .i64 p1)), (2, v2), (6, (.int .i64 x26))]) ?_ ?_
 {
 refine kif hE rfl (fun hd65 => ?_) (fun hd65 => ?_)
 {
 have h := ite_T hd65 h
 refine kreg ?_
 refine qm hE rfl rfl fun a hE => ?_
 refine qm hE rfl rfl fun a hE => ?_
 refine qm hE rfl rfl fun a hE => ?_
 refine qm hE rfl rfl fun a hE => ?_
 refine qm hE rfl rfl fun a hE => ?_
 obtain ⟨r71, hr72, h⟩ := ob h
 refine st hE (st_call (vs := [v0, (.int .i64 x43), (.int .i64 (IntKind.i64.wrap (x43 + x26))), (.int .i64 p1), v2]) hE rfl Try.call36 (c_slices_symMergeCmpFunc_Version (hS := hS) hc47 hr44 (inR_wrap _ _) ha1 (ha2.mono (M.le.trans hm6 (M.le.trans hm20 (M.le.trans hm25 hm42)))) hr72)) rfl ?_
 rintro v77 a w ⟨m73, hm74, c0_75, hS, hc0_76⟩ hE
 refine knil ?_
 exact ⟨r71, h, _, hm74, c0_75, hc0_76, hS, hE.cut ⟨rfl, rfl, rfl, rfl, trivial⟩⟩
 }
 {
 have h := ite_F hd65 h
 refine kskip ?_
 exact ⟨x45, h, _, (M.le.refl _), cs46, hc47, hS, hE.cut ⟨rfl, rfl, rfl, rfl, trivial⟩⟩
 }
 }
 {
 rintro a w ⟨x58, h, m56, hm57, cs59, hc60, hS, hE⟩
 unfold slices_stableCmpFunc_Version_j3 at h
 refine kreg ?_
 refine qm hE rfl rfl fun a hE => ?_
 refine sp hE (r_bin hE rfl rfl (b_mul rfl)) rfl fun a hE => ?_
 refine qa hE rfl rfl fun a hE => ?_
 refine knil ?_
 exact ⟨(IntKind.i64.wrap (x26 * 2), x58), (Option.some.inj h).symm, _, (M.le.trans hm25 (M.le.trans hm42 hm57)), cs59, (inR_wrap _ _), hc60, hS, hE.cut ⟨rfl, rfl, rfl, rfl, trivial⟩⟩
 }
 }
 }
 {
 have h := ite_F hd36 h
 refine kexit rfl rfl ?_
 have h := unwrap h hb32
 obtain rfl := oi h
 try dsimp only
 refine Fin.mk hE (rs := []) rfl ResL.nil ?_
 exact ⟨_, (M.le.trans hm6 (M.le.trans hm20 hm25)), cs29, hS, hc30⟩
 }
 }
 }
theorem c_slices_SortStableFunc_Version  {W0 : Bse} {m : M} {w : World} {L : List (Nat × List Value)} {TL : List (Nat × Value)} {b0_ : Nat} {c0_ : List Value} (hS : S W0 m w ((b0_, c0_) :: L) (TL)) {v0 : Value} {p0 : (List Api_Version)} (ha0 : GS kApi_Version m b0_ c0_ v0 p0) {v1 : Value} {p1 : (Api_Version → Api_Version → Option Int)} (ha1 : Fn2 Try.prog kApi_Version kApi_Version (kInt .i64) m v1 p1) {r : (List Api_Version)} (h : slices_SortStableFunc_Version p0 p1 = some r) :
    Calls Try.prog 18 [v0, v1].toArray w (Ret fun v w' => ∃ m', M.le m m' ∧ ∃ q0_ : List Value, S W0 m' w' ((b0_, q0_) :: L) (TL) ∧ GS kApi_Version m' b0_ q0_ v0 r) := by
 refine kcall Try.func18 rfl Try.ntmps18 (Nat.le_of_ble_eq_true rfl) fun a hE => ?_
 have hE : Env 9 a [(0, v0), (1, v1)] := hE
 unfold slices_SortStableFunc_Version at h
 refine kreg ?_
 refine qm hE rfl rfl fun a hE => ?_
 refine qm hE rfl rfl fun a hE => ?_
 refine sp hE (r_lenG (k := kApi_Version) hE rfl rfl Try.underlying25 ha0) rfl fun a hE => ?_
 refine qm hE rfl rfl fun a hE => ?_
 obtain ⟨r5, hr6, h⟩ := ob h
 refine st hE (st_call (vs := [v0, (.int .i64 (p0.length : Int)), v1]) hE rfl Try.call26 (c_slices_stableCmpFunc_Version (hS := hS) ha0 (inR_len (GS.len ha0)) ha1 hr6)) rfl ?_
 rintro v11 a w ⟨m7, hm8, c0_9, hS, hc0_10⟩ hE
 refine knil ?_
 obtain rfl := oi h
 try dsimp only
 refine Fin.mk hE (rs := []) rfl ResL.nil ?_
 exact ⟨_, hm8, c0_9, hS, hc0_10⟩
theorem fn_19 {m0 : M} {vc0 : Value} {xc0 : (List Int)} (hc0 : PR (kSl (kInt .i64)) m0 vc0 xc0) : Fn2 Try.prog kApi_Version kApi_Version (kInt .i64) m0 (.func (.func 19) [].toArray [vc0].toArray) (fun x0 x1 => rosfile_Sorted_1 x0 x1 xc0) := by
  refine ⟨19, _, rfl, Try.call19, ?_⟩
  intro W0 m w L TL v0 v1 x0 x1 r hm hS h0 h1 hr
  refine (c_rosfile_Sorted_1 (hS := hS) h0 h1 (hc0.mono hm) hr).mono ?_
  intro e w' he
  cases e with
  | returned v => obtain ⟨m', h1, h2, h3⟩ := he; exact ⟨m', h1, h2, h3⟩
  | panicked ch => exact he.elim
  | outgrown => exact he.elim
theorem c_rosfile_Sorted  {W0 : Bse} {m : M} {w : World} {L : List (Nat × List Value)} {TL : List (Nat × Value)} (hS : S W0 m w (L) (TL)) {v0 : Value} {p0 : (List Int)} (ha0 : RV (kSl (kInt .i64)) m v0 p0) {v1 : Value} {p1 : (List Api_Version)} (ha1 : RV (kSl kApi_Version) m v1 p1) {r : (List Api_Version)} (h : rosfile_Sorted p0 p1 = some r) :
    Calls Try.prog 12 [v0, v1].toArray w (Ret fun v w' => ∃ m', M.le m m' ∧ S W0 m' w' (L) (TL) ∧ RV (kSl kApi_Version) m' v r) := by
 refine kcall Try.func12 rfl Try.ntmps12 (Nat.le_of_ble_eq_true rfl) fun a hE => ?_
 have hE : Env 29 a [(0, v0), (1, v1)] := hE
 unfold rosfile_Sorted at h
 refine kseq (kreg ?_)
 refine st hE (st_box (k := (kSl (kInt .i64))) hE hS rfl ha0) rfl ?_
 rintro _ a w ⟨b1, cs2, rfl, hc3, hS⟩ hE
 refine qa hE rfl rfl fun a hE => ?_
 refine knil (kseq (kreg ?_))
 refine qa hE rfl rfl fun a hE => ?_
 refine knil (kseq (kseq (kreg ?_)))
 refine qm hE rfl rfl fun a hE => ?_
 refine sp hE (r_lenSl (k := kApi_Version) hE rfl rfl Try.underlying25 ha1) rfl fun a hE => ?_
 refine qm hE rfl rfl fun a hE => ?_
 refine knil ?_
 refine kcut (fun a w => ∃ x12 : (List Api_Version), rosfile_Sorted_j1 p0 x12 = some r ∧ ∃ m', M.le m m' ∧ ∃ (cs13 : List Value), ∃ (b15 : Nat), ∃ (v16 : Value), GS kApi_Version m' b15 cs13 v16 x12 ∧ S W0 m' w ((b15, cs13) :: (b1, cs2) :: L) (TL) ∧ Env 29 a [(2, (.pointer (some ⟨b1, 0, none⟩))), (5, v16)]) ?_ ?_
 {
 refine kblock ?_
 refine kloop h (fun (s : (Int × (List Api_Version))) a w => ∃ m', M.le m m' ∧ ∃ (cs46 : List Value), ∃ (b48 : Nat), ∃ (v49 : Value), inR .i64 s.1 ∧ GS kApi_Version m' b48 cs46 v49 s.2 ∧ S W0 m' w ((b48, cs46) :: (b1, cs2) :: L) (TL) ∧ Env 29 a [(2, (.pointer (some ⟨b1, 0, none⟩))), (5, v49), (8, v1), (9, (.int .i64 (p1.length : Int))), (10, (.int .i64 s.1))]) ?_ ?_
 {
 exact ⟨_, (M.le.refl _), [], 0, (.slice none 0 0), (show inR .i64 0 from inR_lit (by decide)), GS.void, (hS.void 0), hE.cut ⟨rfl, rfl, rfl, rfl, rfl, trivial⟩⟩
 }
 {
 rintro ⟨x43, x45⟩ a w ⟨m41, hm42, cs46, b48, v49, hr44, hc47, hS, hE⟩ r50 h hb51
 have h : rosfile_Sorted_b1 p0 p1 x43 x45 = some r50 := h
 unfold rosfile_Sorted_b1 at h
 refine kseq (kreg ?_)
 refine sp hE (r_bin hE rfl rfl b_lss) rfl fun a hE => ?_
 refine knil (kseq ?_)
 refine kif hE rfl (fun hd53 => ?_) (fun hd53 => ?_)
 {
 have h := ite_T hd53 h
 refine kskip (kseq (kblock (kseq (kreg ?_))))
 obtain ⟨x54, hx55, h⟩ := ob h
 refine st hE (st_index (k := kApi_Version) hE rfl rfl Try.underlying25 Try.sizeOf31 (ha1.mono hm42) hx55) rfl ?_
 rintro v57 a _ ⟨rfl, hp56⟩ hE
 refine st hE (st_loadM hE hS ty31 rfl hp56) rfl ?_
 rintro v59 a _ ⟨rfl, hv58⟩ hE
 refine st hE (st_alloc hS Try.zeroValue31 rfl (cs := zc31)) rfl ?_
 rintro _ a w ⟨b60, rfl, hS⟩ hE
 refine st0 hE (st_storeF hE hS ty31 StF_self rfl rfl hv58 (i := 0) rfl (zr31 _)) ?_
 rintro _ w ⟨cs62, hc63, hS⟩ hE
 refine knil (kreg ?_)
 refine qm hE rfl rfl fun a hE => ?_
 refine st hE (st_loadL hE hS ty31 rfl (i := 0) rfl (R_whole hc63)) rfl ?_
 rintro v67 a _ ⟨rfl, hv66⟩ hE
 obtain ⟨r68, hr69, h⟩ := ob h
 refine st hE (st_call (vs := [v67]) hE rfl Try.call17 (c_rosfile_own (hS := hS) hv66 hr69)) rfl ?_
 rintro v73 a w ⟨m70, hm71, hS, hv72⟩ hE
 refine st hE (st_lit (k := kApi_Version) (xs := [r68]) (vs := [v73]) hE hS rfl Try.underlying25 Try.sizeOf31 Try.zeroValue31 ⟨hv72, trivial⟩ rfl (by decide)) rfl ?_
 rintro v77 a w ⟨m75, hm76, hS, hv74⟩ hE
 obtain ⟨z78, hz79, h⟩ := ob h
 refine st hE (st_appG (k := kApi_Version) (N := 2932031007402) hE hS rfl rfl Try.underlying25 el31 (i := 1) rfl (hc47.mono (M.le.trans hm71 hm76)) (src_sl hS Try.underlying25 hv74) hz79 rfl rfl) rfl ?_
 rintro v86 a w ⟨b83, cs84, hc85, hS⟩ hE
 refine qa hE rfl rfl fun a hE => ?_
 refine knil (kreg ?_)
 refine sp hE (r_bin hE rfl rfl (b_add rfl)) rfl fun a hE => ?_
 refine qm hE rfl rfl fun a hE => ?_
 refine knil ?_
 exact ⟨(IntKind.i64.wrap (x43 + 1), z78), (Option.some.inj h).symm, _, (M.le.trans hm42 (M.le.trans hm71 hm76)), cs84, b83, v86, (inR_wrap _ _), hc85, ((hS.pickL 3 [1, 2] rfl rfl rfl).pickT 1 [] rfl rfl rfl), hE.cut ⟨rfl, rfl, rfl, rfl, rfl, trivial⟩⟩
 }
 {
 have h := ite_F hd53 h
 refine kexit rfl rfl ?_
 have h := unwrap h hb51
 exact ⟨x45, h, _, hm42, cs46, b48, v49, hc47, hS, hE.cut ⟨rfl, rfl, trivial⟩⟩
 }
 }
 }
 {
 rintro a w ⟨x12, h, m10, hm11, cs13, b15, v16, hc14, hS, hE⟩
 unfold rosfile_Sorted_j1 at h
 refine kseq (kreg ?_)
 refine qm hE rfl rfl fun a hE => ?_
 obtain ⟨m19, hm20, hS, hp21⟩ := S.freezeL (k := (kSl (kInt .i64))) (hS.pickL 2 [1, 0] rfl rfl rfl) ((kSl (kInt .i64)).mono hm11 hc3)
 refine sp hE (r_makeFunc hE rfl rfl) rfl fun a hE => ?_
 obtain ⟨r23, hr24, h⟩ := ob h
 refine st hE (st_call (vs := [v16, (.func (.func 19) [].toArray [(.pointer (some ⟨b1, 0, none⟩))].toArray)]) hE rfl Try.call18 (by have q0_ := (hc14.mono hm20); have q1_ := (fn_19 hp21); exact c_slices_SortStableFunc_Version (p0 := x12) (p1 := (fun y0_ y1_ => rosfile_Sorted_1 y0_ y1_ p0)) (hS := hS) q0_ q1_ hr24)) rfl ?_
 rintro v29 a w ⟨m25, hm26, c0_27, hS, hc0_28⟩ hE
 refine knil (kseq ?_)
 obtain ⟨m30, hm31, hS, hv32⟩ := S.freeze hS hc0_28
 refine kreg ?_
 refine qm hE rfl rfl fun a hE => ?_
 refine qm hE rfl rfl fun a hE => ?_
 refine sp hE (r_lenSl (k := kApi_Version) hE rfl rfl Try.underlying25 hv32) rfl fun a hE => ?_
 refine qm hE rfl rfl fun a hE => ?_
 refine sp hE (r_lenSl (k := kApi_Version) hE rfl rfl Try.underlying25 hv32) rfl fun a hE => ?_
 refine st hE (st_slice3 (k := kApi_Version) hE rfl Try.underlying25 Try.sizeOf31 hv32 rfl rfl) rfl ?_
 rintro v39 a _ ⟨rfl, hv38⟩ hE
 refine qa hE rfl rfl fun a hE => ?_
 refine knil (kret ?_)
 obtain rfl := oi h
 try dsimp only
 refine Fin.mk hE (rs := [.tmp 4]) rfl (ResL.tmp hE rfl ResL.nil) ?_
 exact ⟨_, (M.le.trans hm11 (M.le.trans hm20 (M.le.trans hm26 hm31))), hS, hv38⟩
 }
end Go.Proofs.Ythbonoagbeilkaa.Hay
