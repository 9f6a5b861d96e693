import Derived.Test.YtifobhaccglckaaHbkC3
set_option maxRecDepth 100000
set_option maxHeartbeats 4000000
set_option linter.unusedVariables false
namespace Go.Proofs.Ytifobhaccglckaa.Hay
open Go.Proofs
theorem c_slices_MinFunc_Value {W0 : Bse} {m : M} {w : World} {L : List (Nat × List Value)} {TL : List (Nat × Value)} (hS : S W0 m w (L) (TL)) {v0 : Value} {p0 : (List AV)} (ha0 : RV (kSl kAV) m v0 p0) {v1 : Value} {p1 : (AV → AV → Option Int)} (ha1 : Fn2 Try.prog kAV kAV (kInt .i64) m v1 p1) {r : AV} (h : slices_MinFunc_Value p0 p1 = some r) :
    Calls Try.prog 113 [v0, v1].toArray w (Ret fun v w' => ∃ m', M.le m m' ∧ S W0 m' w' (L) (TL) ∧ RV kAV m' v r) := by
 refine kcall Try.func113 rfl Try.ntmps113 (Nat.le_of_ble_eq_true rfl) fun a hE => ?_
 have hE : Env 33 a [(0, v0), (1, v1)] := hE
 unfold slices_MinFunc_Value at h
 refine kseq (kreg ?_)
 refine st hE (st_alloc hS Try.zeroValue53 rfl (cs := zc53)) rfl ?_
 rintro _ a w ⟨b1, rfl, hS⟩ hE
 refine knil (kseq (kseq (kreg ?_)))
 refine qm hE rfl rfl fun a hE => ?_
 refine sp hE (r_lenSl (k := kAV) hE rfl rfl Try.underlying29 ha0) rfl fun a hE => ?_
 refine sp hE (r_bin hE rfl rfl b_lss) rfl fun a hE => ?_
 refine knil ?_
 refine kcut (fun a w => slices_MinFunc_Value_j1 p0 p1 = some r ∧ ∃ m', M.le m m' ∧ S W0 m' w ((b1, zc53) :: L) (TL) ∧ Env 33 a [(0, v0), (1, v1), (4, (.pointer (some ⟨b1, 0, none⟩)))]) ?_ ?_
 {
 refine kif hE rfl (fun hd114 => ?_) (fun hd114 => ?_)
 {
 have h := ite_T hd114 h
 cases h
 }
 {
 have h := ite_F hd114 h
 refine kskip ?_
 exact ⟨h, _, (M.le.refl _), hS, hE.cut ⟨rfl, rfl, rfl, trivial⟩⟩
 }
 }
 {
 rintro a w ⟨h, m6, hm7, hS, hE⟩
 unfold slices_MinFunc_Value_j1 at h
 refine kseq (kreg ?_)
 refine qm hE rfl rfl fun a hE => ?_
 obtain ⟨x10, hx11, h⟩ := ob h
 refine st hE (st_index (k := kAV) hE rfl rfl Try.underlying29 Try.sizeOf53 (ha0.mono hm7) hx11) rfl ?_
 rintro v13 a _ ⟨rfl, hp12⟩ hE
 refine st hE (st_loadM hE hS ty53 rfl hp12) rfl ?_
 rintro v15 a _ ⟨rfl, hv14⟩ hE
 refine st hE (st_alloc hS Try.zeroValue53 rfl (cs := zc53)) rfl ?_
 rintro _ a w ⟨b16, rfl, hS⟩ hE
 refine st0 hE (st_storeF hE hS ty53 StF_self rfl rfl hv14 (i := 0) rfl (zr53 _)) ?_
 rintro _ w ⟨cs18, hc19, hS⟩ hE
 refine knil (kseq (kseq (kreg ?_)))
 refine qa hE rfl rfl fun a hE => ?_
 refine knil ?_
 refine kcut (fun a w => ∃ x24 : AV, slices_MinFunc_Value_j2 x24 = some r ∧ ∃ m', M.le m6 m' ∧ ∃ (cs25 : List Value), kAV.R m' cs25 x24 ∧ S W0 m' w ((b16, cs25) :: (b1, zc53) :: L) (TL) ∧ Env 33 a [(4, (.pointer (some ⟨b1, 0, none⟩))), (5, (.pointer (some ⟨b16, 0, none⟩)))]) ?_ ?_
 {
 refine kblock ?_
 refine kloop h (fun (s : (Int × AV)) a w => ∃ m', M.le m6 m' ∧ ∃ (cs38 : List Value), inR .i64 s.1 ∧ kAV.R m' cs38 s.2 ∧ S W0 m' w ((b16, cs38) :: (b1, zc53) :: L) (TL) ∧ Env 33 a [(0, v0), (1, v1), (4, (.pointer (some ⟨b1, 0, none⟩))), (5, (.pointer (some ⟨b16, 0, none⟩))), (6, (.int .i64 s.1))]) ?_ ?_
 {
 exact ⟨_, (M.le.refl _), cs18, (show inR .i64 1 from inR_lit (by decide)), hc19, hS, hE.cut ⟨rfl, rfl, rfl, rfl, rfl, trivial⟩⟩
 }
 {
 rintro ⟨x35, x37⟩ a w ⟨m33, hm34, cs38, hr36, hc39, hS, hE⟩ r40 h hb41
 have h : slices_MinFunc_Value_b1 p0 p1 x35 x37 = some r40 := h
 unfold slices_MinFunc_Value_b1 at h
 refine kseq (kseq (kreg ?_))
 refine qm hE rfl rfl fun a hE => ?_
 refine qm hE rfl rfl fun a hE => ?_
 refine sp hE (r_lenSl (k := kAV) hE rfl rfl Try.underlying29 (ha0.mono (M.le.trans hm7 hm34))) rfl fun a hE => ?_
 refine sp hE (r_bin hE rfl rfl b_lss) rfl fun a hE => ?_
 refine knil ?_
 refine kif hE rfl (fun hd46 => ?_) (fun hd46 => ?_)
 {
 have h := ite_T hd46 h
 refine kskip (kseq (kblock (kseq ?_)))
 obtain ⟨x47, hx48, h⟩ := ob h
 refine kchain (k := 6) (m := m33) (es := []) (Φ := (fun i m ws v => match i with | 0 => v = v1 | 1 => v = v0 | 2 => v = (.int .i64 x35) ∧ inR .i64 x35 | 3 => PR kAV m v x47 | 4 => RV kAV m v x47 | 5 => RV kAV m v x37 | _ => True)) (Q := (fun c m ws L' TL' => match c with | 0 => (b16, cs38) :: (b1, zc53) :: L = L' ∧ TL = TL' | _ => False)) (cs := [⟨0, 0, false, [(1, v1)]⟩, ⟨0, 0, false, [(0, v0)]⟩, ⟨0, 0, false, [(6, (.int .i64 x35))]⟩, ⟨0, 0, false, []⟩, ⟨0, 0, false, []⟩, ⟨0, 0, false, [(5, (.pointer (some ⟨b16, 0, none⟩)))]⟩]) mixed hE hS ⟨rfl, rfl⟩ rfl rfl ⟨⟨rfl, trivial⟩, ⟨rfl, trivial⟩, ⟨rfl, trivial⟩, trivial, trivial, ⟨rfl, trivial⟩, trivial⟩ (by kernel_rfl) ?_ ?_ ?_ ?_
 {
 intro i m_ m2_ ws v hm_ hp_
 match i, hp_ with
 | 0, hp_ => exact hp_
 | 1, hp_ => exact hp_
 | 2, hp_ => exact hp_
 | 3, hp_ => exact PR.mono hp_ hm_
 | 4, hp_ => exact RV.mono hp_ hm_
 | 5, hp_ => exact RV.mono hp_ hm_
 | _ + 6, hp_ => exact trivial
 }
 {
 intro c m_ m2_ ws L_ T_ hm_ hq_
 match c, hq_ with
 | 0, ⟨e1_, e2_⟩ => exact ⟨e1_, e2_⟩
 | _ + 1, hq_ => exact hq_.elim
 }
 {
 refine ⟨?_, ?_, ?_, ?_, ?_, ?_, trivial⟩
 {
 refine cplain fun pre_ post_ L_ T_ m' a' w' hl' hp' hm' hq' hS' hE' hT' => ?_
 obtain rfl := len0 hl'
 refine Step.imp (Run1.pure (r_move hE' rfl)) ?_
 rintro _ _ ⟨rfl, rfl⟩
 exact ⟨_, M.le.refl _, hS', rfl⟩
 }
 {
 refine cplain fun pre_ post_ L_ T_ m' a' w' hl' hp' hm' hq' hS' hE' hT' => ?_
 obtain rfl := len0 hl'
 refine Step.imp (Run1.pure (r_move hE' rfl)) ?_
 rintro _ _ ⟨rfl, rfl⟩
 exact ⟨_, M.le.refl _, hS', rfl⟩
 }
 {
 refine cplain fun pre_ post_ L_ T_ m' a' w' hl' hp' hm' hq' hS' hE' hT' => ?_
 obtain rfl := len0 hl'
 refine Step.imp (Run1.pure (r_move hE' rfl)) ?_
 rintro _ _ ⟨rfl, rfl⟩
 exact ⟨_, M.le.refl _, hS', ⟨rfl, hr36⟩⟩
 }
 {
 refine cplain fun pre_ post_ L_ T_ m' a' w' hl' hp' hm' hq' hS' hE' hT' => ?_
 obtain rfl := len0 hl'
 obtain ⟨v55, e56, q57⟩ : ∃ v, a'.tmps.getD 21 undef = v ∧ (v = v0) := ⟨_, rfl, hT' 1 (by decide) 21 rfl⟩
 have hE := hE'.add (e56.trans q57)
 obtain ⟨v58, e59, q60⟩ : ∃ v, a'.tmps.getD 22 undef = v ∧ (v = (.int .i64 x35) ∧ inR .i64 x35) := ⟨_, rfl, hT' 2 (by decide) 22 rfl⟩
 obtain ⟨q60, hr61⟩ := q60
 have hE := hE.add (e59.trans q60)
 refine Step.imp (st_index (k := kAV) hE rfl rfl Try.underlying29 Try.sizeOf53 (ha0.mono (M.le.trans hm7 (M.le.trans hm34 hm'))) hx48) ?_
 rintro v62 _ ⟨rfl, hp49⟩
 exact ⟨_, M.le.refl _, hS', hp49⟩
 }
 {
 refine cplain fun pre_ post_ L_ T_ m' a' w' hl' hp' hm' hq' hS' hE' hT' => ?_
 obtain rfl := len0 hl'
 obtain ⟨v63, e64, q65⟩ : ∃ v, a'.tmps.getD 23 undef = v ∧ (PR kAV m' v x47) := ⟨_, rfl, hT' 3 (by decide) 23 rfl⟩
 have hE := hE'.add (e64)
 refine Step.imp (st_loadM hE hS' ty53 rfl q65) ?_
 rintro v66 _ ⟨rfl, hv50⟩
 exact ⟨_, M.le.refl _, hS', hv50⟩
 }
 {
 refine cplain fun pre_ post_ L_ T_ m' a' w' hl' hp' hm' hq' hS' hE' hT' => ?_
 obtain rfl := len0 hl'
 obtain rfl := len0 (lenz (a := 0) hp')
 obtain ⟨rfl, rfl⟩ := hq'
 refine Step.imp (st_loadL hE' hS' ty53 rfl (i := 0) rfl (R_whole (kAV.mono hm' hc39))) ?_
 rintro v67 _ ⟨rfl, hv51⟩
 exact ⟨_, M.le.refl _, hS', hv51⟩
 }
 }
 {
 intro ws_ L_ T_ m68 a w hl69 hm70 hq71 hS hd72 hn73 ho74 hT75
 obtain rfl := len0 hl69
 obtain ⟨rfl, rfl⟩ := hq71
 have hE := EnvD.of (k := 6) (l' := [(0, v0), (1, v1), (4, (.pointer (some ⟨b1, 0, none⟩))), (5, (.pointer (some ⟨b16, 0, none⟩))), (6, (.int .i64 x35)), (14, (.int .i64 x35)), (15, v0), (16, (.int .i64 (p0.length : Int))), (17, (.bool (decide (x35 < (p0.length : Int)))))]) hd72 hn73 ho74 ⟨rfl, rfl, rfl, rfl, rfl, rfl, rfl, rfl, rfl, trivial⟩ rfl
 obtain ⟨v76, e77, q78⟩ : ∃ v, a.tmps.getD 20 undef = v ∧ (v = v1) := ⟨_, rfl, hT75 0 (by decide) 20 rfl⟩
 have hE := hE.add (e77.trans q78)
 obtain ⟨v79, e80, q81⟩ : ∃ v, a.tmps.getD 24 undef = v ∧ (RV kAV m68 v x47) := ⟨_, rfl, hT75 4 (by decide) 24 rfl⟩
 have hE := hE.add (e80)
 obtain ⟨v82, e83, q84⟩ : ∃ v, a.tmps.getD 25 undef = v ∧ (RV kAV m68 v x37) := ⟨_, rfl, hT75 5 (by decide) 25 rfl⟩
 have hE := hE.add (e83)
 obtain ⟨r85, hr86, h⟩ := ob h
 refine st hE (st_callF2 hE hS rfl rfl (ha1.mono (M.le.trans hm7 (M.le.trans hm34 hm70))) q81 q84 hr86) rfl ?_
 rintro v90 a w ⟨m87, hm88, hS, hv89⟩ hE
 obtain ⟨rfl, hr91⟩ := RV_int hv89
 refine sp hE (r_bin hE rfl rfl b_lss) rfl fun a hE => ?_
 refine knil ?_
 refine kcut (fun a w => ∃ x95 : AV, slices_MinFunc_Value_j3 x35 x95 = some r40 ∧ ∃ m', M.le m87 m' ∧ ∃ (cs96 : List Value), kAV.R m' cs96 x95 ∧ S W0 m' w ((b16, cs96) :: (b1, zc53) :: L) (TL) ∧ Env 33 a [(0, v0), (1, v1), (4, (.pointer (some ⟨b1, 0, none⟩))), (5, (.pointer (some ⟨b16, 0, none⟩))), (6, (.int .i64 x35))]) ?_ ?_
 {
 refine kif hE rfl (fun hd102 => ?_) (fun hd102 => ?_)
 {
 have h := ite_T hd102 h
 refine kreg ?_
 refine qm hE rfl rfl fun a hE => ?_
 refine qm hE rfl rfl fun a hE => ?_
 obtain ⟨x105, hx106, h⟩ := ob h
 refine st hE (st_index (k := kAV) hE rfl rfl Try.underlying29 Try.sizeOf53 (ha0.mono (M.le.trans hm7 (M.le.trans hm34 (M.le.trans hm70 hm88)))) hx106) rfl ?_
 rintro v108 a _ ⟨rfl, hp107⟩ hE
 refine st hE (st_loadM hE hS ty53 rfl hp107) rfl ?_
 rintro v110 a _ ⟨rfl, hv109⟩ hE
 refine st0 hE (st_storeF hE hS ty53 StF_self rfl rfl hv109 (i := 0) rfl (kAV.mono (M.le.trans hm70 hm88) hc39)) ?_
 rintro _ w ⟨cs111, hc112, hS⟩ hE
 refine knil ?_
 exact ⟨x105, h, _, (M.le.refl _), cs111, hc112, hS, hE.cut ⟨rfl, rfl, rfl, rfl, rfl, trivial⟩⟩
 }
 {
 have h := ite_F hd102 h
 refine kskip ?_
 exact ⟨x37, h, _, (M.le.refl _), cs38, (kAV.mono (M.le.trans hm70 hm88) hc39), hS, hE.cut ⟨rfl, rfl, rfl, rfl, rfl, trivial⟩⟩
 }
 }
 {
 rintro a w ⟨x95, h, m93, hm94, cs96, hc97, hS, hE⟩
 unfold slices_MinFunc_Value_j3 at h
 refine kreg ?_
 refine qm hE rfl rfl fun a hE => ?_
 refine sp hE (r_bin hE rfl rfl (b_add rfl)) rfl fun a hE => ?_
 refine qa hE rfl rfl fun a hE => ?_
 refine knil ?_
 exact ⟨(IntKind.i64.wrap (x35 + 1), x95), (Option.some.inj h).symm, _, (M.le.trans hm34 (M.le.trans hm70 (M.le.trans hm88 hm94))), cs96, (inR_wrap _ _), hc97, hS, hE.cut ⟨rfl, rfl, rfl, rfl, rfl, trivial⟩⟩
 }
 }
 }
 {
 have h := ite_F hd46 h
 refine kexit rfl rfl ?_
 have h := unwrap h hb41
 exact ⟨x37, h, _, hm34, cs38, hc39, hS, hE.cut ⟨rfl, rfl, trivial⟩⟩
 }
 }
 }
 {
 rintro a w ⟨x24, h, m22, hm23, cs25, hc26, hS, hE⟩
 unfold slices_MinFunc_Value_j2 at h
 refine kseq (kreg ?_)
 refine st hE (st_loadL hE hS ty53 rfl (i := 0) rfl (R_whole hc26)) rfl ?_
 rintro v29 a _ ⟨rfl, hv28⟩ hE
 refine st0 hE (st_storeF hE hS ty53 StF_self rfl rfl hv28 (i := 1) rfl (zr53 _)) ?_
 rintro _ w ⟨cs30, hc31, hS⟩ hE
 refine knil (kret ?_)
 obtain rfl := oi h
 try dsimp only
 refine Fin.mk hE (rs := [.cell 4 53]) rfl (ResL.cell hE hS ty53 rfl (i := 1) rfl (R_whole hc31) ResL.nil) ?_
 exact ⟨_, (M.le.trans hm7 hm23), (hS.dropL 2), (RV_of_R (R_whole hc31))⟩
 }
 }
theorem c_slices_MaxFunc_Value {W0 : Bse} {m : M} {w : World} {L : List (Nat × List Value)} {TL : List (Nat × Value)} (hS : S W0 m w (L) (TL)) {v0 : Value} {p0 : (List AV)} (ha0 : RV (kSl kAV) m v0 p0) {v1 : Value} {p1 : (AV → AV → Option Int)} (ha1 : Fn2 Try.prog kAV kAV (kInt .i64) m v1 p1) {r : AV} (h : slices_MaxFunc_Value p0 p1 = some r) :
    Calls Try.prog 114 [v0, v1].toArray w (Ret fun v w' => ∃ m', M.le m m' ∧ S W0 m' w' (L) (TL) ∧ RV kAV m' v r) := by
 refine kcall Try.func114 rfl Try.ntmps114 (Nat.le_of_ble_eq_true rfl) fun a hE => ?_
 have hE : Env 33 a [(0, v0), (1, v1)] := hE
 unfold slices_MaxFunc_Value at h
 refine kseq (kreg ?_)
 refine st hE (st_alloc hS Try.zeroValue53 rfl (cs := zc53)) rfl ?_
 rintro _ a w ⟨b1, rfl, hS⟩ hE
 refine knil (kseq (kseq (kreg ?_)))
 refine qm hE rfl rfl fun a hE => ?_
 refine sp hE (r_lenSl (k := kAV) hE rfl rfl Try.underlying29 ha0) rfl fun a hE => ?_
 refine sp hE (r_bin hE rfl rfl b_lss) rfl fun a hE => ?_
 refine knil ?_
 refine kcut (fun a w => slices_MaxFunc_Value_j1 p0 p1 = some r ∧ ∃ m', M.le m m' ∧ S W0 m' w ((b1, zc53) :: L) (TL) ∧ Env 33 a [(0, v0), (1, v1), (4, (.pointer (some ⟨b1, 0, none⟩)))]) ?_ ?_
 {
 refine kif hE rfl (fun hd114 => ?_) (fun hd114 => ?_)
 {
 have h := ite_T hd114 h
 cases h
 }
 {
 have h := ite_F hd114 h
 refine kskip ?_
 exact ⟨h, _, (M.le.refl _), hS, hE.cut ⟨rfl, rfl, rfl, trivial⟩⟩
 }
 }
 {
 rintro a w ⟨h, m6, hm7, hS, hE⟩
 unfold slices_MaxFunc_Value_j1 at h
 refine kseq (kreg ?_)
 refine qm hE rfl rfl fun a hE => ?_
 obtain ⟨x10, hx11, h⟩ := ob h
 refine st hE (st_index (k := kAV) hE rfl rfl Try.underlying29 Try.sizeOf53 (ha0.mono hm7) hx11) rfl ?_
 rintro v13 a _ ⟨rfl, hp12⟩ hE
 refine st hE (st_loadM hE hS ty53 rfl hp12) rfl ?_
 rintro v15 a _ ⟨rfl, hv14⟩ hE
 refine st hE (st_alloc hS Try.zeroValue53 rfl (cs := zc53)) rfl ?_
 rintro _ a w ⟨b16, rfl, hS⟩ hE
 refine st0 hE (st_storeF hE hS ty53 StF_self rfl rfl hv14 (i := 0) rfl (zr53 _)) ?_
 rintro _ w ⟨cs18, hc19, hS⟩ hE
 refine knil (kseq (kseq (kreg ?_)))
 refine qa hE rfl rfl fun a hE => ?_
 refine knil ?_
 refine kcut (fun a w => ∃ x24 : AV, slices_MaxFunc_Value_j2 x24 = some r ∧ ∃ m', M.le m6 m' ∧ ∃ (cs25 : List Value), kAV.R m' cs25 x24 ∧ S W0 m' w ((b16, cs25) :: (b1, zc53) :: L) (TL) ∧ Env 33 a [(4, (.pointer (some ⟨b1, 0, none⟩))), (5, (.pointer (some ⟨b16, 0, none⟩)))]) ?_ ?_
 {
 refine kblock ?_
 refine kloop h (fun (s : (Int × AV)) a w => ∃ m', M.le m6 m' ∧ ∃ (cs38 : List Value), inR .i64 s.1 ∧ kAV.R m' cs38 s.2 ∧ S W0 m' w ((b16, cs38) :: (b1, zc53) :: L) (TL) ∧ Env 33 a [(0, v0), (1, v1), (4, (.pointer (some ⟨b1, 0, none⟩))), (5, (.pointer (some ⟨b16, 0, none⟩))), (6, (.int .i64 s.1))]) ?_ ?_
 {
 exact ⟨_, (M.le.refl _), cs18, (show inR .i64 1 from inR_lit (by decide)), hc19, hS, hE.cut ⟨rfl, rfl, rfl, rfl, rfl, trivial⟩⟩
 }
 {
 rintro ⟨x35, x37⟩ a w ⟨m33, hm34, cs38, hr36, hc39, hS, hE⟩ r40 h hb41
 have h : slices_MaxFunc_Value_b1 p0 p1 x35 x37 = some r40 := h
 unfold slices_MaxFunc_Value_b1 at h
 refine kseq (kseq (kreg ?_))
 refine qm hE rfl rfl fun a hE => ?_
 refine qm hE rfl rfl fun a hE => ?_
 refine sp hE (r_lenSl (k := kAV) hE rfl rfl Try.underlying29 (ha0.mono (M.le.trans hm7 hm34))) rfl fun a hE => ?_
 refine sp hE (r_bin hE rfl rfl b_lss) rfl fun a hE => ?_
 refine knil ?_
 refine kif hE rfl (fun hd46 => ?_) (fun hd46 => ?_)
 {
 have h := ite_T hd46 h
 refine kskip (kseq (kblock (kseq ?_)))
 obtain ⟨x47, hx48, h⟩ := ob h
 refine kchain (k := 6) (m := m33) (es := []) (Φ := (fun i m ws v => match i with | 0 => v = v1 | 1 => v = v0 | 2 => v = (.int .i64 x35) ∧ inR .i64 x35 | 3 => PR kAV m v x47 | 4 => RV kAV m v x47 | 5 => RV kAV m v x37 | _ => True)) (Q := (fun c m ws L' TL' => match c with | 0 => (b16, cs38) :: (b1, zc53) :: L = L' ∧ TL = TL' | _ => False)) (cs := [⟨0, 0, false, [(1, v1)]⟩, ⟨0, 0, false, [(0, v0)]⟩, ⟨0, 0, false, [(6, (.int .i64 x35))]⟩, ⟨0, 0, false, []⟩, ⟨0, 0, false, []⟩, ⟨0, 0, false, [(5, (.pointer (some ⟨b16, 0, none⟩)))]⟩]) mixed hE hS ⟨rfl, rfl⟩ rfl rfl ⟨⟨rfl, trivial⟩, ⟨rfl, trivial⟩, ⟨rfl, trivial⟩, trivial, trivial, ⟨rfl, trivial⟩, trivial⟩ (by kernel_rfl) ?_ ?_ ?_ ?_
 {
 intro i m_ m2_ ws v hm_ hp_
 match i, hp_ with
 | 0, hp_ => exact hp_
 | 1, hp_ => exact hp_
 | 2, hp_ => exact hp_
 | 3, hp_ => exact PR.mono hp_ hm_
 | 4, hp_ => exact RV.mono hp_ hm_
 | 5, hp_ => exact RV.mono hp_ hm_
 | _ + 6, hp_ => exact trivial
 }
 {
 intro c m_ m2_ ws L_ T_ hm_ hq_
 match c, hq_ with
 | 0, ⟨e1_, e2_⟩ => exact ⟨e1_, e2_⟩
 | _ + 1, hq_ => exact hq_.elim
 }
 {
 refine ⟨?_, ?_, ?_, ?_, ?_, ?_, trivial⟩
 {
 refine cplain fun pre_ post_ L_ T_ m' a' w' hl' hp' hm' hq' hS' hE' hT' => ?_
 obtain rfl := len0 hl'
 refine Step.imp (Run1.pure (r_move hE' rfl)) ?_
 rintro _ _ ⟨rfl, rfl⟩
 exact ⟨_, M.le.refl _, hS', rfl⟩
 }
 {
 refine cplain fun pre_ post_ L_ T_ m' a' w' hl' hp' hm' hq' hS' hE' hT' => ?_
 obtain rfl := len0 hl'
 refine Step.imp (Run1.pure (r_move hE' rfl)) ?_
 rintro _ _ ⟨rfl, rfl⟩
 exact ⟨_, M.le.refl _, hS', rfl⟩
 }
 {
 refine cplain fun pre_ post_ L_ T_ m' a' w' hl' hp' hm' hq' hS' hE' hT' => ?_
 obtain rfl := len0 hl'
 refine Step.imp (Run1.pure (r_move hE' rfl)) ?_
 rintro _ _ ⟨rfl, rfl⟩
 exact ⟨_, M.le.refl _, hS', ⟨rfl, hr36⟩⟩
 }
 {
 refine cplain fun pre_ post_ L_ T_ m' a' w' hl' hp' hm' hq' hS' hE' hT' => ?_
 obtain rfl := len0 hl'
 obtain ⟨v55, e56, q57⟩ : ∃ v, a'.tmps.getD 21 undef = v ∧ (v = v0) := ⟨_, rfl, hT' 1 (by decide) 21 rfl⟩
 have hE := hE'.add (e56.trans q57)
 obtain ⟨v58, e59, q60⟩ : ∃ v, a'.tmps.getD 22 undef = v ∧ (v = (.int .i64 x35) ∧ inR .i64 x35) := ⟨_, rfl, hT' 2 (by decide) 22 rfl⟩
 obtain ⟨q60, hr61⟩ := q60
 have hE := hE.add (e59.trans q60)
 refine Step.imp (st_index (k := kAV) hE rfl rfl Try.underlying29 Try.sizeOf53 (ha0.mono (M.le.trans hm7 (M.le.trans hm34 hm'))) hx48) ?_
 rintro v62 _ ⟨rfl, hp49⟩
 exact ⟨_, M.le.refl _, hS', hp49⟩
 }
 {
 refine cplain fun pre_ post_ L_ T_ m' a' w' hl' hp' hm' hq' hS' hE' hT' => ?_
 obtain rfl := len0 hl'
 obtain ⟨v63, e64, q65⟩ : ∃ v, a'.tmps.getD 23 undef = v ∧ (PR kAV m' v x47) := ⟨_, rfl, hT' 3 (by decide) 23 rfl⟩
 have hE := hE'.add (e64)
 refine Step.imp (st_loadM hE hS' ty53 rfl q65) ?_
 rintro v66 _ ⟨rfl, hv50⟩
 exact ⟨_, M.le.refl _, hS', hv50⟩
 }
 {
 refine cplain fun pre_ post_ L_ T_ m' a' w' hl' hp' hm' hq' hS' hE' hT' => ?_
 obtain rfl := len0 hl'
 obtain rfl := len0 (lenz (a := 0) hp')
 obtain ⟨rfl, rfl⟩ := hq'
 refine Step.imp (st_loadL hE' hS' ty53 rfl (i := 0) rfl (R_whole (kAV.mono hm' hc39))) ?_
 rintro v67 _ ⟨rfl, hv51⟩
 exact ⟨_, M.le.refl _, hS', hv51⟩
 }
 }
 {
 intro ws_ L_ T_ m68 a w hl69 hm70 hq71 hS hd72 hn73 ho74 hT75
 obtain rfl := len0 hl69
 obtain ⟨rfl, rfl⟩ := hq71
 have hE := EnvD.of (k := 6) (l' := [(0, v0), (1, v1), (4, (.pointer (some ⟨b1, 0, none⟩))), (5, (.pointer (some ⟨b16, 0, none⟩))), (6, (.int .i64 x35)), (14, (.int .i64 x35)), (15, v0), (16, (.int .i64 (p0.length : Int))), (17, (.bool (decide (x35 < (p0.length : Int)))))]) hd72 hn73 ho74 ⟨rfl, rfl, rfl, rfl, rfl, rfl, rfl, rfl, rfl, trivial⟩ rfl
 obtain ⟨v76, e77, q78⟩ : ∃ v, a.tmps.getD 20 undef = v ∧ (v = v1) := ⟨_, rfl, hT75 0 (by decide) 20 rfl⟩
 have hE := hE.add (e77.trans q78)
 obtain ⟨v79, e80, q81⟩ : ∃ v, a.tmps.getD 24 undef = v ∧ (RV kAV m68 v x47) := ⟨_, rfl, hT75 4 (by decide) 24 rfl⟩
 have hE := hE.add (e80)
 obtain ⟨v82, e83, q84⟩ : ∃ v, a.tmps.getD 25 undef = v ∧ (RV kAV m68 v x37) := ⟨_, rfl, hT75 5 (by decide) 25 rfl⟩
 have hE := hE.add (e83)
 obtain ⟨r85, hr86, h⟩ := ob h
 refine st hE (st_callF2 hE hS rfl rfl (ha1.mono (M.le.trans hm7 (M.le.trans hm34 hm70))) q81 q84 hr86) rfl ?_
 rintro v90 a w ⟨m87, hm88, hS, hv89⟩ hE
 obtain ⟨rfl, hr91⟩ := RV_int hv89
 refine sp hE (r_bin hE rfl rfl b_gtr) rfl fun a hE => ?_
 refine knil ?_
 refine kcut (fun a w => ∃ x95 : AV, slices_MaxFunc_Value_j3 x35 x95 = some r40 ∧ ∃ m', M.le m87 m' ∧ ∃ (cs96 : List Value), kAV.R m' cs96 x95 ∧ S W0 m' w ((b16, cs96) :: (b1, zc53) :: L) (TL) ∧ Env 33 a [(0, v0), (1, v1), (4, (.pointer (some ⟨b1, 0, none⟩))), (5, (.pointer (some ⟨b16, 0, none⟩))), (6, (.int .i64 x35))]) ?_ ?_
 {
 refine kif hE rfl (fun hd102 => ?_) (fun hd102 => ?_)
 {
 have h := ite_T hd102 h
 refine kreg ?_
 refine qm hE rfl rfl fun a hE => ?_
 refine qm hE rfl rfl fun a hE => ?_
 obtain ⟨x105, hx106, h⟩ := ob h
 refine st hE (st_index (k := kAV) hE rfl rfl Try.underlying29 Try.sizeOf53 (ha0.mono (M.le.trans hm7 (M.le.trans hm34 (M.le.trans hm70 hm88)))) hx106) rfl ?_
 rintro v108 a _ ⟨rfl, hp107⟩ hE
 refine st hE (st_loadM hE hS ty53 rfl hp107) rfl ?_
 rintro v110 a _ ⟨rfl, hv109⟩ hE
 refine st0 hE (st_storeF hE hS ty53 StF_self rfl rfl hv109 (i := 0) rfl (kAV.mono (M.le.trans hm70 hm88) hc39)) ?_
 rintro _ w ⟨cs111, hc112, hS⟩ hE
 refine knil ?_
 exact ⟨x105, h, _, (M.le.refl _), cs111, hc112, hS, hE.cut ⟨rfl, rfl, rfl, rfl, rfl, trivial⟩⟩
 }
 {
 have h := ite_F hd102 h
 refine kskip ?_
 exact ⟨x37, h, _, (M.le.refl _), cs38, (kAV.mono (M.le.trans hm70 hm88) hc39), hS, hE.cut ⟨rfl, rfl, rfl, rfl, rfl, trivial⟩⟩
 }
 }
 {
 rintro a w ⟨x95, h, m93, hm94, cs96, hc97, hS, hE⟩
 unfold slices_MaxFunc_Value_j3 at h
 refine kreg ?_
 refine qm hE rfl rfl fun a hE => ?_
 refine sp hE (r_bin hE rfl rfl (b_add rfl)) rfl fun a hE => ?_
 refine qa hE rfl rfl fun a hE => ?_
 refine knil ?_
 exact ⟨(IntKind.i64.wrap (x35 + 1), x95), (Option.some.inj h).symm, _, (M.le.trans hm34 (M.le.trans hm70 (M.le.trans hm88 hm94))), cs96, (inR_wrap _ _), hc97, hS, hE.cut ⟨rfl, rfl, rfl, rfl, rfl, trivial⟩⟩
 }
 }
 }
 {
 have h := ite_F hd46 h
 refine kexit rfl rfl ?_
 have h := unwrap h hb41
 exact ⟨x37, h, _, hm34, cs38, hc39, hS, hE.cut ⟨rfl, rfl, trivial⟩⟩
 }
 }
 }
 {
 rintro a w ⟨x24, h, m22, hm23, cs25, hc26, hS, hE⟩
 unfold slices_MaxFunc_Value_j2 at h
 refine kseq (kreg ?_)
 refine st hE (st_loadL hE hS ty53 rfl (i := 0) rfl (R_whole hc26)) rfl ?_
 rintro v29 a _ ⟨rfl, hv28⟩ hE
 refine st0 hE (st_storeF hE hS ty53 StF_self rfl rfl hv28 (i := 1) rfl (zr53 _)) ?_
 rintro _ w ⟨cs30, hc31, hS⟩ hE
 refine knil (kret ?_)
 obtain rfl := oi h
 try dsimp only
 refine Fin.mk hE (rs := [.cell 4 53]) rfl (ResL.cell hE hS ty53 rfl (i := 1) rfl (R_whole hc31) ResL.nil) ?_
 exact ⟨_, (M.le.trans hm7 hm23), (hS.dropL 2), (RV_of_R (R_whole hc31))⟩
 }
 }
theorem it_slices_Values_Value {m : M} {v : Value} {p0 : (List AV)} (ha : PR (kSl kAV) m v p0) : IterC Try.prog (Rv1 kAV) 134 [v].toArray m p0 := by
 intro σ I step B y m1 w L TL s Ls TLs r mono hle hy hI hS hf
 refine kcall (args := [y, v]) Try.func134 rfl Try.ntmps134 (Nat.le_of_ble_eq_true rfl) fun a hE => ?_
 have hE : Env 16 a [(0, y), (1, v)] := hE
 refine kseq (kreg ?_)
 refine st hE (st_loadM hE hS ty29 rfl (ha.mono hle)) rfl ?_
 rintro v5 a _ ⟨rfl, hv5⟩ hE
 refine sp hE (r_lenSl (k := kAV) hE rfl rfl Try.underlying29 hv5) rfl fun a hE => ?_
 refine qm hE rfl rfl fun a hE => ?_
 refine knil ?_
 have h := foldY_loop (RV_len hv5) hf
 refine kblock ?_
 refine kloop h (fun (t : Int × σ) a w => ∃ m' Ls' TLs', M.le m1 m' ∧ inR .i64 t.1 ∧ I m' t.2 Ls' TLs' ∧ S (B t.2) m' w (Ls' ++ L) (TLs' ++ TL) ∧ Env 16 a [(0, y), (5, v5), (6, (.int .i64 (p0.length : Int))), (7, (.int .i64 t.1))]) ?_ ?_
 {
 exact ⟨m1, Ls, TLs, M.le.refl _, (show inR .i64 0 from inR_lit (by decide)), hI, hS, hE.cut ⟨rfl, rfl, rfl, rfl, trivial⟩⟩
 }
 {
 rintro ⟨i, s⟩ a w ⟨m2, Ls2, TLs2, hm2, hi, hI, hS, hE⟩ r9 h hb
 unfold valF at h
 refine kseq (kreg ?_)
 refine sp hE (r_bin hE rfl rfl b_lss) rfl fun a hE => ?_
 refine knil (kseq ?_)
 refine kif hE rfl (fun hd => ?_) (fun hd => ?_)
 {
 have h := ite_T hd h
 refine kskip (kseq (kblock (kseq (kreg ?_))))
 obtain ⟨x, hx, h⟩ := ob h
 refine st hE (st_index (k := kAV) hE rfl rfl Try.underlying29 Try.sizeOf53 (hv5.mono hm2) hx) rfl ?_
 rintro v9 a _ ⟨rfl, hp⟩ hE
 refine st hE (st_loadM hE hS ty53 rfl hp) rfl ?_
 rintro v10 a _ ⟨rfl, hv10⟩ hE
 refine st hE (st_alloc hS Try.zeroValue53 rfl (cs := zc53)) rfl ?_
 rintro _ a w ⟨b4, rfl, hS⟩ hE
 refine st0 hE (st_storeF hE hS ty53 StF_self rfl rfl hv10 (i := 0) rfl (zr53 _)) ?_
 rintro _ w ⟨cs, hc, hS⟩ hE
 refine knil (kseq (kreg ?_))
 refine qm hE rfl rfl fun a hE => ?_
 refine st hE (st_loadL hE hS ty53 rfl (i := 0) rfl (R_whole hc)) rfl ?_
 rintro v12 a _ ⟨rfl, hv12⟩ hE
 obtain ⟨q, hq, h⟩ := ob h
 refine st hE (hy m2 _ L TL s Ls2 TLs2 [v12] x q.1 q.2 hI (hS.dropL 1) ⟨_, rfl, hv12⟩ hq _ _ _ _ _ _ _ _ _ (hE.eval rfl) (argl_eval hE rfl)) rfl ?_
 rintro _ a w ⟨rfl, m3, Ls3, TLs3, hm3, hI, hS⟩ hE
 refine sp hE (r_not hE rfl) rfl fun a hE => ?_
 refine knil ?_
 refine kif hE rfl (fun hd => ?_) (fun hd => ?_)
 {
 have h := ite_F (by simpa using hd) h
 obtain rfl := oi h
 refine kret ?_
 have h := hb _ rfl
 subst h
 refine Fin.mk hE (rs := []) rfl ResL.nil ?_
 exact ⟨m3, Ls3, TLs3, hm2.trans hm3, hI, hS⟩
 }
 {
 have h := ite_T (by simpa using hd) h
 obtain rfl := oi h
 refine kskip (kreg ?_)
 refine sp hE (r_bin hE rfl rfl (b_add rfl)) rfl fun a hE => ?_
 refine qm hE rfl rfl fun a hE => ?_
 refine knil ?_
 exact ⟨_, rfl, m3, Ls3, TLs3, hm2.trans hm3, (inR_wrap _ _), hI, hS, hE.cut ⟨rfl, rfl, rfl, rfl, trivial⟩⟩
 }
 }
 {
 have h := ite_F hd h
 obtain rfl := oi h
 have h := hb _ rfl
 subst h
 refine kexit rfl rfl ?_
 dsimp only
 refine Fin.mk hE (rs := []) rfl ResL.nil ?_
 exact ⟨m2, Ls2, TLs2, hm2, hI, hS⟩
 }
 }
theorem c_slices_Values_Value {W0 : Bse} {m : M} {w : World} {L : List (Nat × List Value)} {TL : List (Nat × Value)} (hS : S W0 m w (L) (TL)) {v0 : Value} {p0 : (List AV)} (ha0 : RV (kSl kAV) m v0 p0) {r : (List AV)} (h : slices_Values_Value p0 = some r) :
    Calls Try.prog 115 [v0].toArray w (Ret fun v w' => ∃ m', M.le m m' ∧ S W0 m' w' (L) (TL) ∧ ItV Try.prog (Rv1 kAV) m' v r) := by
 refine kcall Try.func115 rfl Try.ntmps115 (Nat.le_of_ble_eq_true rfl) fun a hE => ?_
 have hE : Env 4 a [(0, v0)] := hE
 unfold slices_Values_Value at h
 obtain rfl := oi h
 refine kseq (kreg ?_)
 refine st hE (st_box hE hS rfl ha0) rfl ?_
 rintro _ a w ⟨b, cs, rfl, hc, hS⟩ hE
 refine qa hE rfl rfl fun a hE => ?_
 refine knil (kseq (kreg ?_))
 obtain ⟨m1, hm, hS, hp⟩ := S.freezeL (k := (kSl kAV)) hS hc
 refine sp hE (r_makeFunc hE rfl rfl) rfl fun a hE => ?_
 refine qa hE rfl rfl fun a hE => ?_
 refine knil (kret ?_)
 refine Fin.mk hE (rs := [.tmp 2]) rfl (ResL.tmp hE rfl ResL.nil) ?_
 exact ⟨_, hm, hS, 134, _, rfl, Try.call134, it_slices_Values_Value hp⟩
theorem c_block_head {W0 : Bse} {m : M} {w : World} {L : List (Nat × List Value)} {TL : List (Nat × Value)} (hS : S W0 m w (L) (TL)) {p0 : Int} (ha0 : inR .i64 p0) {v1 : Value} {p1 : (List AV)} (ha1 : RV (kSl kAV) m v1 p1) {r : Block_Info} (h : block_head p0 p1 = some r) :
    Calls Try.prog 66 [(.int .i64 p0), v1].toArray w (Ret fun v w' => ∃ m', M.le m m' ∧ S W0 m' w' (L) (TL) ∧ RV kBlock_Info m' v r) := by
 refine kcallM Try.func66 rfl Try.ntmps66 (Nat.le_of_ble_eq_true rfl) fun a hE => ?_
 have hE : Env 26 a [(0, (.int .i64 p0)), (1, v1)] := hE
 unfold block_head at h
 refine kseq (kreg ?_)
 refine st hE (st_alloc hS Try.zeroValue62 rfl (cs := zc62)) rfl ?_
 rintro _ a w ⟨b1, rfl, hS⟩ hE
 refine knil (kseq (kreg ?_))
 refine qm hE rfl rfl fun a hE => ?_
 refine qm hE rfl rfl fun a hE => ?_
 refine sp hE (r_lenSl (k := kAV) hE rfl rfl Try.underlying29 ha1) rfl fun a hE => ?_
 refine qm hE rfl rfl fun a hE => ?_
 obtain ⟨r7, hr8, h⟩ := ob h
 refine st hE (st_call (vs := [v1, (.func (.func 74) #[] #[])]) hE rfl Try.call113 (c_slices_MinFunc_Value (hS := hS) ha1 (fn_74 (m0 := m)) hr8)) rfl ?_
 rintro v12 a w ⟨m9, hm10, hS, hv11⟩ hE
 refine qm hE rfl rfl fun a hE => ?_
 obtain ⟨r14, hr15, h⟩ := ob h
 refine st hE (st_call (vs := [v1, (.func (.func 74) #[] #[])]) hE rfl Try.call114 (c_slices_MaxFunc_Value (hS := hS) (ha1.mono hm10) (fn_74 (m0 := m9)) hr15)) rfl ?_
 rintro v19 a w ⟨m16, hm17, hS, hv18⟩ hE
 refine st hE (st_build (m := m16) (k := kBlock_Info) (x0 := Block_Info.zero) (xx := (⟨p0, (p1.length : Int), r7, r14, 0, 0⟩ : Block_Info)) (pl := [(0, 1), (1, 1), (2, 4), (6, 4), (10, 1), (11, 1)]) (pv := [(0, (.int .i64 p0)), (1, (.int .i64 (p1.length : Int))), (2, v12), (3, v19)]) hE rfl Try.underlying62 rfl Try.zeroValue62 zr62 rfl (.cons rfl sf62_0 (RV_of_int ha0) (.cons rfl sf62_1 (RV_of_int (inR_len (RV_len ha1))) (.cons rfl sf62_2 (hv11.mono hm17) (.cons rfl sf62_3 hv18 .nil))))) rfl ?_
 rintro v21 a _ ⟨rfl, hv20⟩ hE
 refine st hE (st_alloc hS Try.zeroValue62 rfl (cs := zc62)) rfl ?_
 rintro _ a w ⟨b22, rfl, hS⟩ hE
 refine st0 hE (st_storeF hE hS ty62 StF_self rfl rfl hv20 (i := 0) rfl (zr62 _)) ?_
 rintro _ w ⟨cs24, hc25, hS⟩ hE
 refine knil (kseq (kseq (kreg ?_)))
 refine qm hE rfl rfl fun a hE => ?_
 obtain ⟨r28, hr29, h⟩ := ob h
 refine st hE (st_call (vs := [v1]) hE rfl Try.call115 (c_slices_Values_Value (hS := hS) (ha1.mono (M.le.trans hm10 hm17)) hr29)) rfl ?_
 rintro v33 a w ⟨m30, hm31, hS, hv32⟩ hE
 refine knil (kblock ?_)
 obtain ⟨y67, hy68, h⟩ := ob h
 refine krangeV (Rv := (Rv1 kAV)) (fun (s : Block_Info) (x : AV) => block_head_b1 s x) (fun _ => .ret) [] (fun (m' : M) (s : Block_Info) (Ls_ : Mem) (TLs_ : Tls) => ∃ (cs37 : List Value), M.le m30 m' ∧ kBlock_Info.R m' cs37 s ∧ Ls_ = [(b22, cs37), (b1, zc62)] ∧ TLs_ = []) (Ls := [(b22, cs24), (b1, zc62)]) (TLs := []) (s0 := (⟨p0, (p1.length : Int), r7, r14, 0, 0⟩ : Block_Info)) (sf := y67.1) (bf := y67.2) hE hS rfl hv32 (by decide) (fun _ _ _ h => Rv1_len h) (by rintro m1_ m2_ s_ a_ b_ hm_ ⟨cs37, hl_, hf0_, e1_, e2_⟩; exact ⟨cs37, hl_.trans hm_, kBlock_Info.mono hm_ hf0_, e1_, e2_⟩) ⟨cs24, M.le.refl _, (kBlock_Info.mono hm31 hc25), rfl, rfl⟩ hy68 ?_ ?_
 {
 intro lid_ W1_ W0 m34 w L TL s_ Ls_ TLs_ vs_ x39 s40 b41 a or_ ob_ hI42 hS hR43 h hE hT44
 obtain ⟨x36, rfl⟩ : ∃ x, x = s_ := ⟨_, rfl⟩
 obtain ⟨cs37, hm35, hc38, rfl, rfl⟩ := hI42
 have h : block_head_b1 x36 x39 = some (s40, b41) := h
 unfold block_head_b1 at h
 obtain ⟨v45, rfl, hv46⟩ := hR43
 refine kreg ?_
 refine st hE (st_alloc hS Try.zeroValue53 rfl (cs := zc53)) rfl ?_
 rintro _ a w ⟨b47, rfl, hS⟩ hE
 refine st0 hE (st_storeF hE hS ty53 StF_self rfl rfl hv46 (i := 0) rfl (zr53 _)) ?_
 rintro _ w ⟨cs49, hc50, hS⟩ hE
 refine knil ?_
 obtain ⟨hb_, hS⟩ := hT44 _ _ _ _ hS
 refine ⟨hb_, ?_⟩
 refine kblock (kseq (kreg ?_))
 refine sp hE (r_fieldL hE fo53_0 rfl) rfl fun a hE => ?_
 refine st hE (st_loadL hE hS ty3 rfl (i := 0) rfl (fl53_0.R_drop (R_whole hc50))) rfl ?_
 rintro v54 a _ ⟨rfl, hv53⟩ hE
 obtain ⟨rfl, hr55⟩ := RV_int hv53
 refine sp hE (r_bin hE rfl rfl b_eql) rfl fun a hE => ?_
 refine knil ?_
 refine kif hE rfl (fun hd57 => ?_) (fun hd57 => ?_)
 {
 have h := ite_T hd57 h
 refine kreg ?_
 refine sp hE (r_fieldL hE fo62_4 rfl) rfl fun a hE => ?_
 refine st hE (st_loadL hE hS ty3 rfl (i := 1) rfl (fl62_4.R_drop (R_whole hc38))) rfl ?_
 rintro v60 a _ ⟨rfl, hv59⟩ hE
 obtain ⟨rfl, hr61⟩ := RV_int hv59
 refine sp hE (r_bin hE rfl rfl (b_add rfl)) rfl fun a hE => ?_
 refine sp hE (r_fieldL hE fo62_4 rfl) rfl fun a hE => ?_
 refine st0 hE (st_storeF hE hS ty3 sf62_4 rfl rfl (RV_of_int (inR_wrap _ _)) (i := 1) rfl hc38) ?_
 rintro _ w ⟨cs64, hc65, hS⟩ hE
 refine knil ?_
 cases h
 try dsimp only
 exact ⟨rfl, _, [(b22, cs64), (b1, zc62)], [], (M.le.refl _), ⟨cs64, hm35, hc65, rfl, rfl⟩, (hS.pickL 3 [1, 2] rfl rfl rfl)⟩
 }
 {
 have h := ite_F hd57 h
 refine kskip ?_
 cases h
 try dsimp only
 exact ⟨rfl, _, [(b22, cs37), (b1, zc62)], [], (M.le.refl _), ⟨cs37, hm35, hc38, rfl, rfl⟩, (hS.pickL 3 [1, 2] rfl rfl rfl)⟩
 }
 }
 {
 intro D69 m73 w a Ls_ TLs_ hm74 hE hI42 hS hk71 hB72
 obtain ⟨cs76, _, hc77, rfl, rfl⟩ := hI42
 obtain ⟨W0, hW70⟩ : ∃ W9, W9 = W0.put D69 (.deferred (some [])) := ⟨_, rfl⟩
 rw [← hW70] at hS
 rcases Bool.eq_false_or_eq_true y67.2 with hb75 | hb75
 {
 have h := ite_T hb75 h
 rw [if_pos hb75]
 refine kseq (kreg ?_)
 refine st hE (st_loadL hE hS ty62 rfl (i := 0) rfl (R_whole hc77)) rfl ?_
 rintro v79 a _ ⟨rfl, hv78⟩ hE
 refine st0 hE (st_storeF hE hS ty62 StF_self rfl rfl hv78 (i := 1) rfl (zr62 _)) ?_
 rintro _ w ⟨cs80, hc81, hS⟩ hE
 refine knil (kret ?_)
 obtain rfl := oi h
 try dsimp only
 have hS := hS
 rw [hW70] at hS
 refine FinM.shut hE hS hk71 hB72 fun a w hS hE => ?_
 refine FinM.nil hE ?_
 refine Fin.mk hE (rs := [.cell 4 62]) rfl (ResL.cell hE hS ty62 rfl (i := 1) rfl (R_whole hc81) ResL.nil) ?_
 exact ⟨_, (M.le.trans hm10 (M.le.trans hm17 (M.le.trans hm31 hm74))), (hS.dropL 2), (RV_of_R (R_whole hc81))⟩
 }
 {
 have h := ite_F hb75 h
 cases h
 }
 }
theorem c_block_one {W0 : Bse} {m : M} {w : World} {L : List (Nat × List Value)} {TL : List (Nat × Value)} (hS : S W0 m w (L) (TL)) {v0 : Value} {p0 : AV} (ha0 : RV kAV m v0 p0) {r : (List Int)} (h : block_one p0 = some r) :
    Calls Try.prog 67 [v0].toArray w (Ret fun v w' => ∃ m', M.le m m' ∧ S W0 m' w' (L) (TL) ∧ RV (kSl (kInt .u8)) m' v r) := by
 refine kcall Try.func67 rfl Try.ntmps67 (Nat.le_of_ble_eq_true rfl) fun a hE => ?_
 have hE : Env 13 a [(0, v0)] := hE
 unfold block_one at h
 refine kseq (kreg ?_)
 refine st hE (st_box (k := kAV) hE hS rfl ha0) rfl ?_
 rintro _ a w ⟨b1, cs2, rfl, hc3, hS⟩ hE
 refine qa hE rfl rfl fun a hE => ?_
 refine knil (kseq (kreg ?_))
 refine st hE (st_loadL hE hS ty53 rfl (i := 0) rfl (R_whole hc3)) rfl ?_
 rintro v7 a _ ⟨rfl, hv6⟩ hE
 refine st hE (st_lit (k := kAV) (xs := [p0]) (vs := [v7]) hE hS rfl Try.underlying29 Try.sizeOf53 Try.zeroValue53 ⟨hv6, trivial⟩ rfl (by decide)) rfl ?_
 rintro v11 a w ⟨m9, hm10, hS, hv8⟩ hE
 obtain ⟨r12, hr13, h⟩ := ob h
 refine st hE (st_call (vs := [v11]) hE rfl Try.call108 (c_rows_Encode (hS := hS) hv8 hr13)) rfl ?_
 rintro _ a w ⟨m14, hm15, hS, v0_16, v1_17, rfl, hv0_18, hv1_19⟩ hE
 obtain ⟨rfl, hr21⟩ := RV_int hv1_19
 refine qm hE rfl rfl fun a hE => ?_
 refine sp hE (r_extract hE rfl rfl) rfl fun a hE => ?_
 refine sp hE (r_extract hE rfl rfl) rfl fun a hE => ?_
 refine qa hE rfl rfl fun a hE => ?_
 refine qa hE rfl rfl fun a hE => ?_
 refine knil (kseq (kreg ?_))
 refine qm hE rfl rfl fun a hE => ?_
 obtain ⟨x28, hx29, h⟩ := ob h
 refine st hE (st_slice (k := (kInt .u8)) hE rfl Try.underlying37 Try.sizeOf5 hv0_18 ⟨_, rfl⟩ rfl hx29 (xl := (some (.const (.int .i64 1)))) (xh := none)) rfl ?_
 rintro v31 a _ ⟨rfl, hv30⟩ hE
 refine qa hE rfl rfl fun a hE => ?_
 refine knil (kret ?_)
 obtain rfl := oi h
 try dsimp only
 refine Fin.mk hE (rs := [.tmp 2]) rfl (ResL.tmp hE rfl ResL.nil) ?_
 exact ⟨_, (M.le.trans hm10 hm15), ((hS.dropL 1).dropT 1), hv30⟩
theorem c_codec_Sum {W0 : Bse} {m : M} {w : World} {L : List (Nat × List Value)} {TL : List (Nat × Value)} (hS : S W0 m w (L) (TL)) {v0 : Value} {p0 : (List Int)} (ha0 : RV (kSl (kInt .u8)) m v0 p0) {r : Int} (h : codec_Sum p0 = some r) :
    Calls Try.prog 116 [v0].toArray w (Ret fun v w' => ∃ m', M.le m m' ∧ S W0 m' w' (L) (TL) ∧ RV (kInt .u32) m' v r) := by
 refine kcall Try.func116 rfl Try.ntmps116 (Nat.le_of_ble_eq_true rfl) fun a hE => ?_
 have hE : Env 54 a [(0, v0)] := hE
 unfold codec_Sum at h
 refine kseq (kreg ?_)
 refine qa hE rfl rfl fun a hE => ?_
 refine knil (kseq (kreg ?_))
 refine st hE (st_alloc hS Try.zeroValue160 rfl (cs := zc160)) rfl ?_
 rintro _ a w ⟨b2, rfl, hS⟩ hE
 refine knil (kseq (kseq (kreg ?_)))
 refine qm hE rfl rfl fun a hE => ?_
 refine knil ?_
 refine kcut (fun a w => ∃ x7 : (List Int), codec_Sum_j1 p0 x7 = some r ∧ ∃ m', M.le m m' ∧ ∃ (cs8 : List Value), GS (kInt .u32) m' b2 cs8 (.slice (some ⟨b2, 0, none⟩) 16 16) x7 ∧ S W0 m' w ((b2, cs8) :: L) (TL) ∧ Env 54 a [(0, v0), (3, (.pointer (some ⟨b2, 0, none⟩)))]) ?_ ?_
 {
 refine kblock ?_
 refine kloop h (fun (s : (Int × (List Int))) a w => ∃ m', M.le m m' ∧ ∃ (cs81 : List Value), inR .i64 s.1 ∧ GS (kInt .u32) m' b2 cs81 (.slice (some ⟨b2, 0, none⟩) 16 16) s.2 ∧ S W0 m' w ((b2, cs81) :: L) (TL) ∧ Env 54 a [(0, v0), (3, (.pointer (some ⟨b2, 0, none⟩))), (9, (.int .i64 s.1))]) ?_ ?_
 {
 exact ⟨_, (M.le.refl _), zc160, (show inR .i64 0 from inR_lit (by decide)), (za160 _ _), hS, hE.cut ⟨rfl, rfl, rfl, trivial⟩⟩
 }
 {
 rintro ⟨x78, x80⟩ a w ⟨m76, hm77, cs81, hr79, hc82, hS, hE⟩ r83 h hb84
 have h : codec_Sum_b2 p0 x78 x80 = some r83 := h
 unfold codec_Sum_b2 at h
 refine kseq (kreg ?_)
 refine sp hE (r_bin hE rfl rfl b_lss) rfl fun a hE => ?_
 refine knil (kseq ?_)
 refine kif hE rfl (fun hd86 => ?_) (fun hd86 => ?_)
 {
 have h := ite_T hd86 h
 refine kskip (kseq ?_)
 refine kcut (fun a w => ∃ x89 : (List Int), codec_Sum_j3 x78 x89 = some r83 ∧ ∃ m', M.le m76 m' ∧ ∃ (cs90 : List Value), GS (kInt .u32) m' b2 cs90 (.slice (some ⟨b2, 0, none⟩) 16 16) x89 ∧ S W0 m' w ((b2, cs90) :: L) (TL) ∧ Env 54 a [(0, v0), (3, (.pointer (some ⟨b2, 0, none⟩))), (9, (.int .i64 x78))]) ?_ ?_
 {
 refine kblock (kseq (kreg ?_))
 refine qm hE rfl rfl fun a hE => ?_
 refine qa hE rfl rfl fun a hE => ?_
 refine knil (kseq (kreg ?_))
 refine qm hE rfl rfl fun a hE => ?_
 refine sp hE (r_conv hE rfl Try.underlying3 Try.underlying26 rfl) rfl fun a hE => ?_
 refine qa hE rfl rfl fun a hE => ?_
 refine knil (kseq (kseq (kreg ?_)))
 refine qm hE rfl rfl fun a hE => ?_
 refine knil ?_
 refine kcut (fun a w => ∃ x103 : Int, codec_Sum_j4 x78 x80 x103 = some r83 ∧ ∃ m', M.le m76 m' ∧ inR .u32 x103 ∧ S W0 m' w ((b2, cs81) :: L) (TL) ∧ Env 54 a [(0, v0), (3, (.pointer (some ⟨b2, 0, none⟩))), (4, (.int .i64 x78)), (5, (.int .u32 x103)), (9, (.int .i64 x78))]) ?_ ?_
 {
 refine kblock ?_
 refine kloop h (fun (s : (Int × Int)) a w => ∃ m', M.le m76 m' ∧ inR .u32 s.1 ∧ inR .i64 s.2 ∧ S W0 m' w ((b2, cs81) :: L) (TL) ∧ Env 54 a [(0, v0), (3, (.pointer (some ⟨b2, 0, none⟩))), (4, (.int .i64 x78)), (5, (.int .u32 s.1)), (9, (.int .i64 x78)), (14, (.int .i64 s.2))]) ?_ ?_
 {
 exact ⟨_, (M.le.refl _), (inR_wrap _ _), (show inR .i64 0 from inR_lit (by decide)), hS, hE.cut ⟨rfl, rfl, rfl, rfl, rfl, rfl, trivial⟩⟩
 }
 {
 rintro ⟨x118, x120⟩ a w ⟨m116, hm117, hr119, hr121, hS, hE⟩ r122 h hb123
 have h : codec_Sum_b3 x78 x80 x118 x120 = some r122 := h
 unfold codec_Sum_b3 at h
 refine kseq (kreg ?_)
 refine sp hE (r_bin hE rfl rfl b_lss) rfl fun a hE => ?_
 refine knil (kseq ?_)
 refine kif hE rfl (fun hd125 => ?_) (fun hd125 => ?_)
 {
 have h := ite_T hd125 h
 refine kskip (kseq (kblock (kreg ?_)))
 refine qm hE rfl rfl fun a hE => ?_
 refine sp hE (r_bin hE rfl rfl (b_shr rfl (by decide))) rfl fun a hE => ?_
 refine qm hE rfl rfl fun a hE => ?_
 refine sp hE (r_bin hE rfl rfl (b_and rfl)) rfl fun a hE => ?_
 refine sp hE (r_bin hE rfl rfl (b_mul rfl)) rfl fun a hE => ?_
 refine sp hE (r_bin hE rfl rfl (b_xor rfl)) rfl fun a hE => ?_
 refine qa hE rfl rfl fun a hE => ?_
 refine knil (kreg ?_)
 refine sp hE (r_bin hE rfl rfl (b_add rfl)) rfl fun a hE => ?_
 refine qm hE rfl rfl fun a hE => ?_
 refine knil ?_
 exact ⟨(bXor .u32 (iShr .u32 x118 1) (IntKind.u32.wrap (3988292384 * (bAnd .u32 x118 1))), IntKind.i64.wrap (x120 + 1)), (Option.some.inj h).symm, _, hm117, (inR_xor _ _ _), (inR_wrap _ _), hS, hE.cut ⟨rfl, rfl, rfl, rfl, rfl, rfl, trivial⟩⟩
 }
 {
 have h := ite_F hd125 h
 refine kexit rfl rfl ?_
 have h := unwrap h hb123
 exact ⟨x118, h, _, hm117, hr119, hS, hE.cut ⟨rfl, rfl, rfl, rfl, rfl, trivial⟩⟩
 }
 }
 }
 {
 rintro a w ⟨x103, h, m101, hm102, hr104, hS, hE⟩
 unfold codec_Sum_j4 at h
 refine kreg ?_
 refine qm hE rfl rfl fun a hE => ?_
 refine qm hE rfl rfl fun a hE => ?_
 obtain ⟨j108, hj109, h⟩ := ob h
 refine sp hE (r_indexA (k := (kInt .u32)) hE rfl rfl Try.underlying160 Try.sizeOf26 (GS.arr_len (hc82.mono hm102)) hj109 rfl) rfl fun a hE => ?_
 obtain ⟨x113, hx114, h⟩ := ob h
 refine st0 hE (st_storeG (k := (kInt .u32)) hE hS ty26 StF_self (hc82.mono hm102) hx114 rfl rfl (RV_of_int hr104) (i := 0) rfl) ?_
 rintro _ w ⟨cs111, hc112, hS⟩ hE
 refine knil ?_
 exact ⟨(x80.set j108 x103), h, _, hm102, cs111, hc112, hS, hE.cut ⟨rfl, rfl, rfl, trivial⟩⟩
 }
 }
 {
 rintro a w ⟨x89, h, m87, hm88, cs90, hc91, hS, hE⟩
 unfold codec_Sum_j3 at h
 refine kreg ?_
 refine sp hE (r_bin hE rfl rfl (b_add rfl)) rfl fun a hE => ?_
 refine qm hE rfl rfl fun a hE => ?_
 refine knil ?_
 exact ⟨(IntKind.i64.wrap (x78 + 1), x89), (Option.some.inj h).symm, _, (M.le.trans hm77 hm88), cs90, (inR_wrap _ _), hc91, hS, hE.cut ⟨rfl, rfl, rfl, trivial⟩⟩
 }
 }
 {
 have h := ite_F hd86 h
 refine kexit rfl rfl ?_
 have h := unwrap h hb84
 exact ⟨x80, h, _, hm77, cs81, hc82, hS, hE.cut ⟨rfl, rfl, trivial⟩⟩
 }
 }
 }
 {
 rintro a w ⟨x7, h, m5, hm6, cs8, hc9, hS, hE⟩
 unfold codec_Sum_j1 at h
 refine kseq (kreg ?_)
 refine qa hE rfl rfl fun a hE => ?_
 refine knil (kseq (kseq (kreg ?_)))
 refine qm hE rfl rfl fun a hE => ?_
 refine sp hE (r_lenSl (k := (kInt .u8)) hE rfl rfl Try.underlying37 (ha0.mono hm6)) rfl fun a hE => ?_
 refine qm hE rfl rfl fun a hE => ?_
 refine knil ?_
 refine kcut (fun a w => ∃ x17 : Int, codec_Sum_j2 x17 = some r ∧ ∃ m', M.le m5 m' ∧ inR .u32 x17 ∧ S W0 m' w ((b2, cs8) :: L) (TL) ∧ Env 54 a [(6, (.int .u32 x17))]) ?_ ?_
 {
 refine kblock ?_
 refine kloop h (fun (s : (Int × Int)) a w => ∃ m', M.le m5 m' ∧ inR .u32 s.1 ∧ inR .i64 s.2 ∧ S W0 m' w ((b2, cs8) :: L) (TL) ∧ Env 54 a [(3, (.pointer (some ⟨b2, 0, none⟩))), (6, (.int .u32 s.1)), (27, v0), (28, (.int .i64 (p0.length : Int))), (29, (.int .i64 s.2))]) ?_ ?_
 {
 exact ⟨_, (M.le.refl _), (show inR .u32 4294967295 from inR_lit (by decide)), (show inR .i64 0 from inR_lit (by decide)), hS, hE.cut ⟨rfl, rfl, rfl, rfl, rfl, trivial⟩⟩
 }
 {
 rintro ⟨x25, x27⟩ a w ⟨m23, hm24, hr26, hr28, hS, hE⟩ r29 h hb30
 have h : codec_Sum_b1 p0 x7 x25 x27 = some r29 := h
 unfold codec_Sum_b1 at h
 refine kseq (kreg ?_)
 refine sp hE (r_bin hE rfl rfl b_lss) rfl fun a hE => ?_
 refine knil (kseq ?_)
 refine kif hE rfl (fun hd32 => ?_) (fun hd32 => ?_)
 {
 have h := ite_T hd32 h
 refine kskip (kseq (kblock (kseq (kreg ?_))))
 obtain ⟨x33, hx34, h⟩ := ob h
 refine st hE (st_index (k := (kInt .u8)) hE rfl rfl Try.underlying37 Try.sizeOf5 (ha0.mono (M.le.trans hm6 hm24)) hx34) rfl ?_
 rintro v36 a _ ⟨rfl, hp35⟩ hE
 refine st hE (st_loadM hE hS ty5 rfl hp35) rfl ?_
 rintro v38 a _ ⟨rfl, hv37⟩ hE
 obtain ⟨rfl, hr39⟩ := RV_int hv37
 refine qa hE rfl rfl fun a hE => ?_
 refine knil (kseq (kreg ?_))
 refine qm hE rfl rfl fun a hE => ?_
 refine qm hE rfl rfl fun a hE => ?_
 refine sp hE (r_conv hE rfl Try.underlying5 Try.underlying26 rfl) rfl fun a hE => ?_
 refine sp hE (r_bin hE rfl rfl (b_xor rfl)) rfl fun a hE => ?_
 refine qa hE rfl rfl fun a hE => ?_
 refine knil (kseq (kreg ?_))
 refine qm hE rfl rfl fun a hE => ?_
 refine sp hE (r_bin hE rfl rfl (b_and rfl)) rfl fun a hE => ?_
 obtain ⟨j48, hj49, h⟩ := ob h
 refine sp hE (r_indexA (k := (kInt .u32)) hE rfl rfl Try.underlying160 Try.sizeOf26 (GS.arr_len (hc9.mono hm24)) hj49 rfl) rfl fun a hE => ?_
 obtain ⟨x52, hx53, h⟩ := ob h
 refine st hE (st_loadL hE hS ty26 rfl (i := 0) rfl (GS.elem (hc9.mono hm24) hx53)) rfl ?_
 rintro v54 a _ ⟨rfl, hv51⟩ hE
 obtain ⟨rfl, hr55⟩ := RV_int hv51
 refine qm hE rfl rfl fun a hE => ?_
 refine sp hE (r_bin hE rfl rfl (b_shr rfl (by decide))) rfl fun a hE => ?_
 refine sp hE (r_bin hE rfl rfl (b_xor rfl)) rfl fun a hE => ?_
 refine qa hE rfl rfl fun a hE => ?_
 refine knil (kreg ?_)
 refine qm hE rfl rfl fun a hE => ?_
 refine sp hE (r_bin hE rfl rfl (b_and rfl)) rfl fun a hE => ?_
 obtain ⟨j62, hj63, h⟩ := ob h
 refine sp hE (r_indexA (k := (kInt .u32)) hE rfl rfl Try.underlying160 Try.sizeOf26 (GS.arr_len (hc9.mono hm24)) hj63 rfl) rfl fun a hE => ?_
 obtain ⟨x66, hx67, h⟩ := ob h
 refine st hE (st_loadL hE hS ty26 rfl (i := 0) rfl (GS.elem (hc9.mono hm24) hx67)) rfl ?_
 rintro v68 a _ ⟨rfl, hv65⟩ hE
 obtain ⟨rfl, hr69⟩ := RV_int hv65
 refine qm hE rfl rfl fun a hE => ?_
 refine sp hE (r_bin hE rfl rfl (b_shr rfl (by decide))) rfl fun a hE => ?_
 refine sp hE (r_bin hE rfl rfl (b_xor rfl)) rfl fun a hE => ?_
 refine qa hE rfl rfl fun a hE => ?_
 refine knil (kreg ?_)
 refine sp hE (r_bin hE rfl rfl (b_add rfl)) rfl fun a hE => ?_
 refine qm hE rfl rfl fun a hE => ?_
 refine knil ?_
 exact ⟨(bXor .u32 x66 (iShr .u32 (bXor .u32 x52 (iShr .u32 (bXor .u32 x25 (IntKind.u32.wrap x33)) 4)) 4), IntKind.i64.wrap (x27 + 1)), (Option.some.inj h).symm, _, hm24, (inR_xor _ _ _), (inR_wrap _ _), hS, hE.cut ⟨rfl, rfl, rfl, rfl, rfl, trivial⟩⟩
 }
 {
 have h := ite_F hd32 h
 refine kexit rfl rfl ?_
 have h := unwrap h hb30
 exact ⟨x25, h, _, hm24, hr26, hS, hE.cut ⟨rfl, trivial⟩⟩
 }
 }
 }
 {
 rintro a w ⟨x17, h, m15, hm16, hr18, hS, hE⟩
 unfold codec_Sum_j2 at h
 refine kseq (kreg ?_)
 refine qm hE rfl rfl fun a hE => ?_
 refine sp hE (r_cpl hE rfl rfl) rfl fun a hE => ?_
 refine qa hE rfl rfl fun a hE => ?_
 refine knil (kret ?_)
 obtain rfl := oi h
 try dsimp only
 refine Fin.mk hE (rs := [.tmp 2]) rfl (ResL.tmp hE rfl ResL.nil) ?_
 exact ⟨_, (M.le.trans hm6 hm16), (hS.dropL 1), (RV_of_int (inR_not _ _))⟩
 }
 }
theorem c_block_sealed {W0 : Bse} {m : M} {w : World} {L : List (Nat × List Value)} {TL : List (Nat × Value)} {v0 : Value} (hS : S W0 m w (L) ((1, v0) :: TL)) {p0 : (List Int)} (ha0 : RV (kSl (kInt .u8)) m v0 p0) {r : (List Int)} (h : block_sealed p0 = some r) :
    Calls Try.prog 68 [v0].toArray w (Ret fun v w' => ∃ m', M.le m m' ∧ S W0 m' w' (L) ((1, v) :: TL) ∧ RV (kSl (kInt .u8)) m' v r) := by
 refine kcall Try.func68 rfl Try.ntmps68 (Nat.le_of_ble_eq_true rfl) fun a hE => ?_
 have hE : Env 20 a [(0, v0)] := hE
 unfold block_sealed at h
 refine kseq (kreg ?_)
 refine qa hE rfl rfl fun a hE => ?_
 refine knil (kseq (kreg ?_))
 refine qm hE rfl rfl fun a hE => ?_
 obtain ⟨r3, hr4, h⟩ := ob h
 refine st hE (st_call (vs := [v0]) hE rfl Try.call116 (c_codec_Sum (hS := hS) ha0 hr4)) rfl ?_
 rintro v8 a w ⟨m5, hm6, hS, hv7⟩ hE
 obtain ⟨rfl, hr9⟩ := RV_int hv7
 refine qa hE rfl rfl fun a hE => ?_
 refine knil (kseq (kreg ?_))
 refine qm hE rfl rfl fun a hE => ?_
 refine qm hE rfl rfl fun a hE => ?_
 refine sp hE (r_bin hE rfl rfl (b_shr rfl (by decide))) rfl fun a hE => ?_
 refine sp hE (r_conv hE rfl Try.underlying26 Try.underlying5 rfl) rfl fun a hE => ?_
 refine qm hE rfl rfl fun a hE => ?_
 refine sp hE (r_bin hE rfl rfl (b_shr rfl (by decide))) rfl fun a hE => ?_
 refine sp hE (r_conv hE rfl Try.underlying26 Try.underlying5 rfl) rfl fun a hE => ?_
 refine qm hE rfl rfl fun a hE => ?_
 refine sp hE (r_bin hE rfl rfl (b_shr rfl (by decide))) rfl fun a hE => ?_
 refine sp hE (r_conv hE rfl Try.underlying26 Try.underlying5 rfl) rfl fun a hE => ?_
 refine qm hE rfl rfl fun a hE => ?_
 refine sp hE (r_conv hE rfl Try.underlying26 Try.underlying5 rfl) rfl fun a hE => ?_
 refine st hE (st_lit (k := (kInt .u8)) (xs := [IntKind.u8.wrap (iShr .u32 r3 24), IntKind.u8.wrap (iShr .u32 r3 16), IntKind.u8.wrap (iShr .u32 r3 8), IntKind.u8.wrap r3]) (vs := [(.int .u8 (IntKind.u8.wrap (iShr .u32 r3 24))), (.int .u8 (IntKind.u8.wrap (iShr .u32 r3 16))), (.int .u8 (IntKind.u8.wrap (iShr .u32 r3 8))), (.int .u8 (IntKind.u8.wrap r3))]) hE hS rfl Try.underlying37 Try.sizeOf5 Try.zeroValue5 ⟨(RV_of_int (inR_wrap _ _)), (RV_of_int (inR_wrap _ _)), (RV_of_int (inR_wrap _ _)), (RV_of_int (inR_wrap _ _)), trivial⟩ rfl (by decide)) rfl ?_
 rintro v26 a w ⟨m24, hm25, hS, hv23⟩ hE
 obtain ⟨z27, hz28, h⟩ := ob h
 refine st hE (st_app (k := (kInt .u8)) (N := 140737488355328) hE hS rfl rfl Try.underlying37 Try.underlying37 el5 (i := 1) rfl (ha0.mono (M.le.trans hm6 hm25)) hv23 hz28 rfl rfl) rfl ?_
 rintro v32 a w ⟨m30, hm31, hS, hv29⟩ hE
 refine qa hE rfl rfl fun a hE => ?_
 refine knil (kret ?_)
 obtain rfl := oi h
 try dsimp only
 refine Fin.mk hE (rs := [.tmp 2]) rfl (ResL.tmp hE rfl ResL.nil) ?_
 exact ⟨_, (M.le.trans hm6 (M.le.trans hm25 hm31)), (hS.pickT 2 [1] rfl rfl rfl), hv29⟩
theorem c_block_Write {W0 : Bse} {m : M} {w : World} {L : List (Nat × List Value)} {TL : List (Nat × Value)} (hS : S W0 m w (L) (TL)) {p0 : Int} (ha0 : inR .i64 p0) {v1 : Value} {p1 : (List AV)} (ha1 : RV (kSl kAV) m v1 p1) {r : ((List Int) × Int)} (h : block_Write p0 p1 = some r) :
    Calls Try.prog 32 [(.int .i64 p0), v1].toArray w (Ret fun v w' => ∃ m', M.le m m' ∧ S W0 m' w' (L) (TL) ∧ ∃ v0_ v1_ : Value, v = .tuple #[v0_, v1_] ∧ RV (kSl (kInt .u8)) m' v0_ r.1 ∧ RV (kInt .i64) m' v1_ r.2) := by
 refine kcall Try.func32 rfl Try.ntmps32 (Nat.le_of_ble_eq_true rfl) fun a hE => ?_
 have hE : Env 63 a [(0, (.int .i64 p0)), (1, v1)] := hE
 unfold block_Write at h
 refine kseq (kreg ?_)
 refine qa hE rfl rfl fun a hE => ?_
 refine qa hE rfl rfl fun a hE => ?_
 refine knil (kseq (kseq (kreg ?_)))
 refine qm hE rfl rfl fun a hE => ?_
 refine sp hE (r_lenSl (k := kAV) hE rfl rfl Try.underlying29 ha1) rfl fun a hE => ?_
 refine sp hE (r_bin hE rfl rfl b_eql) rfl fun a hE => ?_
 refine knil ?_
 refine kif hE rfl (fun hd6 => ?_) (fun hd6 => ?_)
 {
 have h := ite_T hd6 h
 refine kseq (kreg ?_)
 refine qa hE rfl rfl fun a hE => ?_
 refine qa hE rfl rfl fun a hE => ?_
 refine knil (kret ?_)
 obtain rfl := oi h
 try dsimp only
 refine Fin.mk hE (rs := [.tmp 4, .tmp 5]) rfl (ResL.tmp hE rfl (ResL.tmp hE rfl ResL.nil)) ?_
 exact ⟨_, (M.le.refl _), hS, _, _, rfl, RV_nil, (RV_of_int (show inR .i64 70 from inR_lit (by decide)))⟩
 }
 {
 have h := ite_F hd6 h
 refine kskip (kseq (kseq (kreg ?_)))
 refine qm hE rfl rfl fun a hE => ?_
 refine sp hE (r_bin hE rfl rfl b_eql) rfl fun a hE => ?_
 refine knil ?_
 refine kcut (fun a w => ∃ x13 : Int, block_Write_j1 p1 x13 = some r ∧ ∃ m', M.le m m' ∧ inR .i64 x13 ∧ S W0 m' w (L) (TL) ∧ Env 63 a [(0, (.int .i64 x13)), (1, v1)]) ?_ ?_
 {
 refine kif hE rfl (fun hd140 => ?_) (fun hd140 => ?_)
 {
 have h := ite_T hd140 h
 refine kreg ?_
 refine qm hE rfl rfl fun a hE => ?_
 obtain ⟨r142, hr143, h⟩ := ob h
 refine st hE (st_call (vs := [v1]) hE rfl Try.call25 (c_encode_Best (hS := hS) ha1 hr143)) rfl ?_
 rintro v147 a w ⟨m144, hm145, hS, hv146⟩ hE
 obtain ⟨rfl, hr148⟩ := RV_int hv146
 refine qa hE rfl rfl fun a hE => ?_
 refine knil ?_
 exact ⟨r142, h, _, hm145, hr148, hS, hE.cut ⟨rfl, rfl, trivial⟩⟩
 }
 {
 have h := ite_F hd140 h
 refine kskip ?_
 exact ⟨p0, h, _, (M.le.refl _), ha0, hS, hE.cut ⟨rfl, rfl, trivial⟩⟩
 }
 }
 {
 rintro a w ⟨x13, h, m11, hm12, hr14, hS, hE⟩
 unfold block_Write_j1 at h
 refine kseq (kreg ?_)
 refine qm hE rfl rfl fun a hE => ?_
 refine qm hE rfl rfl fun a hE => ?_
 obtain ⟨r18, hr19, h⟩ := ob h
 refine st hE (st_call (vs := [(.int .i64 x13), v1]) hE rfl Try.call24 (c_encode_Encode (hS := hS) hr14 (ha1.mono hm12) hr19)) rfl ?_
 rintro _ a w ⟨m20, hm21, hS, v0_22, v1_23, rfl, hv0_24, hv1_25⟩ hE
 obtain ⟨rfl, hr27⟩ := RV_int hv1_25
 refine qm hE rfl rfl fun a hE => ?_
 refine sp hE (r_extract hE rfl rfl) rfl fun a hE => ?_
 refine sp hE (r_extract hE rfl rfl) rfl fun a hE => ?_
 refine qa hE rfl rfl fun a hE => ?_
 refine qa hE rfl rfl fun a hE => ?_
 refine knil (kseq (kseq (kreg ?_)))
 refine qm hE rfl rfl fun a hE => ?_
 refine sp hE (r_bin hE rfl rfl b_neq) rfl fun a hE => ?_
 refine knil ?_
 refine kif hE rfl (fun hd35 => ?_) (fun hd35 => ?_)
 {
 have h := ite_T hd35 h
 refine kseq (kreg ?_)
 refine qm hE rfl rfl fun a hE => ?_
 refine qa hE rfl rfl fun a hE => ?_
 refine qa hE rfl rfl fun a hE => ?_
 refine knil (kret ?_)
 obtain rfl := oi h
 try dsimp only
 refine Fin.mk hE (rs := [.tmp 4, .tmp 5]) rfl (ResL.tmp hE rfl (ResL.tmp hE rfl ResL.nil)) ?_
 exact ⟨_, (M.le.trans hm12 hm21), hS, _, _, rfl, RV_nil, (RV_of_int hr27)⟩
 }
 {
 have h := ite_F hd35 h
 refine kskip (kseq (kreg ?_))
 refine qm hE rfl rfl fun a hE => ?_
 refine qm hE rfl rfl fun a hE => ?_
 obtain ⟨r41, hr42, h⟩ := ob h
 refine st hE (st_call (vs := [(.int .i64 x13), v1]) hE rfl Try.call66 (c_block_head (hS := hS) hr14 (ha1.mono (M.le.trans hm12 hm21)) hr42)) rfl ?_
 rintro v46 a w ⟨m43, hm44, hS, hv45⟩ hE
 refine st hE (st_alloc hS Try.zeroValue62 rfl (cs := zc62)) rfl ?_
 rintro _ a w ⟨b47, rfl, hS⟩ hE
 refine st0 hE (st_storeF hE hS ty62 StF_self rfl rfl hv45 (i := 0) rfl (zr62 _)) ?_
 rintro _ w ⟨cs49, hc50, hS⟩ hE
 refine knil (kseq (kreg ?_))
 refine qm hE rfl rfl fun a hE => ?_
 refine sp hE (r_conv hE rfl Try.underlying3 Try.underlying5 rfl) rfl fun a hE => ?_
 refine sp hE (r_fieldL hE fo62_1 rfl) rfl fun a hE => ?_
 refine st hE (st_loadL hE hS ty3 rfl (i := 0) rfl (fl62_1.R_drop (R_whole hc50))) rfl ?_
 rintro v56 a _ ⟨rfl, hv55⟩ hE
 obtain ⟨rfl, hr57⟩ := RV_int hv55
 refine sp hE (r_conv hE rfl Try.underlying3 Try.underlying5 rfl) rfl fun a hE => ?_
 refine sp hE (r_fieldL hE fo62_4 rfl) rfl fun a hE => ?_
 refine st hE (st_loadL hE hS ty3 rfl (i := 0) rfl (fl62_4.R_drop (R_whole hc50))) rfl ?_
 rintro v61 a _ ⟨rfl, hv60⟩ hE
 obtain ⟨rfl, hr62⟩ := RV_int hv60
 refine sp hE (r_conv hE rfl Try.underlying3 Try.underlying5 rfl) rfl fun a hE => ?_
 refine st hE (st_lit (k := (kInt .u8)) (xs := [IntKind.u8.wrap x13, IntKind.u8.wrap r41.fMany, IntKind.u8.wrap r41.fNulls]) (vs := [(.int .u8 (IntKind.u8.wrap x13)), (.int .u8 (IntKind.u8.wrap r41.fMany)), (.int .u8 (IntKind.u8.wrap r41.fNulls))]) hE hS rfl Try.underlying37 Try.sizeOf5 Try.zeroValue5 ⟨(RV_of_int (inR_wrap _ _)), (RV_of_int (inR_wrap _ _)), (RV_of_int (inR_wrap _ _)), trivial⟩ rfl (by decide)) rfl ?_
 rintro v67 a w ⟨m65, hm66, hS, hv64⟩ hE
 refine qa hE rfl rfl fun a hE => ?_
 refine knil (kseq (kreg ?_))
 refine qm hE rfl rfl fun a hE => ?_
 refine sp hE (r_fieldL hE fo62_2 rfl) rfl fun a hE => ?_
 refine st hE (st_loadL hE hS ty53 rfl (i := 0) rfl (fl62_2.R_drop (R_whole (kBlock_Info.mono hm66 hc50)))) rfl ?_
 rintro v72 a _ ⟨rfl, hv71⟩ hE
 obtain ⟨r73, hr74, h⟩ := ob h
 refine st hE (st_call (vs := [v72]) hE rfl Try.call67 (c_block_one (hS := hS) hv71 hr74)) rfl ?_
 rintro v78 a w ⟨m75, hm76, hS, hv77⟩ hE
 obtain ⟨z79, hz80, h⟩ := ob h
 refine st hE (st_app (k := (kInt .u8)) (N := 140737488355328) hE hS rfl rfl Try.underlying37 Try.underlying37 el5 (i := 0) rfl (hv64.mono hm76) hv77 hz80 rfl rfl) rfl ?_
 rintro v84 a w ⟨m82, hm83, hS, hv81⟩ hE
 refine qa hE rfl rfl fun a hE => ?_
 refine knil (kseq (kreg ?_))
 refine qm hE rfl rfl fun a hE => ?_
 refine sp hE (r_fieldL hE fo62_3 rfl) rfl fun a hE => ?_
 refine st hE (st_loadL hE hS ty53 rfl (i := 0) rfl (fl62_3.R_drop (R_whole (kBlock_Info.mono (M.le.trans hm66 (M.le.trans hm76 hm83)) hc50)))) rfl ?_
 rintro v89 a _ ⟨rfl, hv88⟩ hE
 obtain ⟨r90, hr91, h⟩ := ob h
 refine st hE (st_call (vs := [v89]) hE rfl Try.call67 (c_block_one (hS := hS) hv88 hr91)) rfl ?_
 rintro v95 a w ⟨m92, hm93, hS, hv94⟩ hE
 obtain ⟨z96, hz97, h⟩ := ob h
 refine st hE (st_app (k := (kInt .u8)) (N := 140737488355328) hE hS rfl rfl Try.underlying37 Try.underlying37 el5 (i := 0) rfl (hv81.mono hm93) hv94 hz97 rfl rfl) rfl ?_
 rintro v101 a w ⟨m99, hm100, hS, hv98⟩ hE
 refine qa hE rfl rfl fun a hE => ?_
 refine knil (kseq (kreg ?_))
 refine qm hE rfl rfl fun a hE => ?_
 refine qm hE rfl rfl fun a hE => ?_
 refine sp hE (r_lenSl (k := (kInt .u8)) hE rfl rfl Try.underlying37 (hv0_24.mono (M.le.trans hm44 (M.le.trans hm66 (M.le.trans hm76 (M.le.trans hm83 (M.le.trans hm93 hm100))))))) rfl fun a hE => ?_
 refine sp hE (r_bin hE rfl rfl (b_shr rfl (by decide))) rfl fun a hE => ?_
 refine sp hE (r_conv hE rfl Try.underlying3 Try.underlying5 rfl) rfl fun a hE => ?_
 refine qm hE rfl rfl fun a hE => ?_
 refine sp hE (r_lenSl (k := (kInt .u8)) hE rfl rfl Try.underlying37 (hv0_24.mono (M.le.trans hm44 (M.le.trans hm66 (M.le.trans hm76 (M.le.trans hm83 (M.le.trans hm93 hm100))))))) rfl fun a hE => ?_
 refine sp hE (r_conv hE rfl Try.underlying3 Try.underlying5 rfl) rfl fun a hE => ?_
 refine st hE (st_lit (k := (kInt .u8)) (xs := [IntKind.u8.wrap (iShr .i64 (r18.1.length : Int) 8), IntKind.u8.wrap (r18.1.length : Int)]) (vs := [(.int .u8 (IntKind.u8.wrap (iShr .i64 (r18.1.length : Int) 8))), (.int .u8 (IntKind.u8.wrap (r18.1.length : Int)))]) hE hS rfl Try.underlying37 Try.sizeOf5 Try.zeroValue5 ⟨(RV_of_int (inR_wrap _ _)), (RV_of_int (inR_wrap _ _)), trivial⟩ rfl (by decide)) rfl ?_
 rintro v114 a w ⟨m112, hm113, hS, hv111⟩ hE
 obtain ⟨z115, hz116, h⟩ := ob h
 refine st hE (st_app (k := (kInt .u8)) (N := 140737488355328) hE hS rfl rfl Try.underlying37 Try.underlying37 el5 (i := 1) rfl (hv98.mono hm113) hv111 hz116 rfl rfl) rfl ?_
 rintro v120 a w ⟨m118, hm119, hS, hv117⟩ hE
 refine qa hE rfl rfl fun a hE => ?_
 refine knil (kseq (kreg ?_))
 refine qm hE rfl rfl fun a hE => ?_
 refine qm hE rfl rfl fun a hE => ?_
 obtain ⟨z124, hz125, h⟩ := ob h
 refine st hE (st_app (k := (kInt .u8)) (N := 140737488355328) hE hS rfl rfl Try.underlying37 Try.underlying37 el5 (i := 1) rfl hv117 (hv0_24.mono (M.le.trans hm44 (M.le.trans hm66 (M.le.trans hm76 (M.le.trans hm83 (M.le.trans hm93 (M.le.trans hm100 (M.le.trans hm113 hm119)))))))) hz125 rfl rfl) rfl ?_
 rintro v129 a w ⟨m127, hm128, hS, hv126⟩ hE
 refine qa hE rfl rfl fun a hE => ?_
 refine knil (kseq (kreg ?_))
 refine qm hE rfl rfl fun a hE => ?_
 obtain ⟨r132, hr133, h⟩ := ob h
 refine st hE (st_call (vs := [v129]) hE rfl Try.call68 (c_block_sealed (hS := (hS.pickT 2 [1, 0] rfl rfl rfl)) hv126 hr133)) rfl ?_
 rintro v137 a w ⟨m134, hm135, hS, hv136⟩ hE
 refine qa hE rfl rfl fun a hE => ?_
 refine qa hE rfl rfl fun a hE => ?_
 refine knil (kret ?_)
 obtain rfl := oi h
 try dsimp only
 refine Fin.mk hE (rs := [.tmp 4, .tmp 5]) rfl (ResL.tmp hE rfl (ResL.tmp hE rfl ResL.nil)) ?_
 exact ⟨_, (M.le.trans hm12 (M.le.trans hm21 (M.le.trans hm44 (M.le.trans hm66 (M.le.trans hm76 (M.le.trans hm83 (M.le.trans hm93 (M.le.trans hm100 (M.le.trans hm113 (M.le.trans hm119 (M.le.trans hm128 hm135))))))))))), ((hS.dropL 1).dropT 2), _, _, rfl, hv136, (RV_of_int (show inR .i64 0 from inR_lit (by decide)))⟩
 }
 }
 }
theorem c_block_front {W0 : Bse} {m : M} {w : World} {L : List (Nat × List Value)} {TL : List (Nat × Value)} (hS : S W0 m w (L) (TL)) {v0 : Value} {p0 : (List Int)} (ha0 : RV (kSl (kInt .u8)) m v0 p0) {r : (AV × (List Int) × Bool)} (h : block_front p0 = some r) :
    Calls Try.prog 117 [v0].toArray w (Ret fun v w' => ∃ m', M.le m m' ∧ S W0 m' w' (L) (TL) ∧ ∃ v0_ v1_ v2_ : Value, v = .tuple #[v0_, v1_, v2_] ∧ RV kAV m' v0_ r.1 ∧ RV (kSl (kInt .u8)) m' v1_ r.2.1 ∧ RV kBool m' v2_ r.2.2) := by
 refine kcall Try.func117 rfl Try.ntmps117 (Nat.le_of_ble_eq_true rfl) fun a hE => ?_
 have hE : Env 36 a [(0, v0)] := hE
 unfold block_front at h
 refine kseq (kreg ?_)
 refine st hE (st_alloc hS Try.zeroValue53 rfl (cs := zc53)) rfl ?_
 rintro _ a w ⟨b1, rfl, hS⟩ hE
 refine qa hE rfl rfl fun a hE => ?_
 refine qa hE rfl rfl fun a hE => ?_
 refine knil (kseq (kseq (kreg ?_)))
 refine qa hE rfl rfl fun a hE => ?_
 refine knil ?_
 refine kcut (fun a w => block_front_j1 = some r ∧ ∃ m', M.le m m' ∧ S W0 m' w ((b1, zc53) :: L) (TL) ∧ Env 36 a [(2, (.pointer (some ⟨b1, 0, none⟩)))]) ?_ ?_
 {
 refine kblock ?_
 refine kloop h (fun (s : Int) a w => ∃ m', M.le m m' ∧ inR .i64 s ∧ S W0 m' w ((b1, zc53) :: L) (TL) ∧ Env 36 a [(0, v0), (2, (.pointer (some ⟨b1, 0, none⟩))), (5, (.int .i64 s))]) ?_ ?_
 {
 exact ⟨_, (M.le.refl _), (show inR .i64 1 from inR_lit (by decide)), hS, hE.cut ⟨rfl, rfl, rfl, trivial⟩⟩
 }
 {
 rintro x18 a w ⟨m16, hm17, hr19, hS, hE⟩ r20 h hb21
 have h : block_front_b1 p0 x18 = some r20 := h
 unfold block_front_b1 at h
 refine kseq (kseq ?_)
 refine kcut (fun a w => ∃ x24 : Bool, block_front_j2 p0 x18 x24 = some r20 ∧ ∃ m', M.le m16 m' ∧ S W0 m' w ((b1, zc53) :: L) (TL) ∧ Env 36 a [(0, v0), (2, (.pointer (some ⟨b1, 0, none⟩))), (5, (.int .i64 x18)), (15, (.bool x24))]) ?_ ?_
 {
 refine kreg ?_
 refine qm hE rfl rfl fun a hE => ?_
 refine qm hE rfl rfl fun a hE => ?_
 refine sp hE (r_lenSl (k := (kInt .u8)) hE rfl rfl Try.underlying37 (ha0.mono hm17)) rfl fun a hE => ?_
 refine sp hE (r_bin hE rfl rfl b_leq) rfl fun a hE => ?_
 refine qm hE rfl rfl fun a hE => ?_
 rcases Bool.eq_false_or_eq_true (decide (x18 ≤ (p0.length : Int))) with hd115 | hd115
 {
 have h := ite_T hd115 h
 refine spg hE rfl rfl rfl rfl hd115 (r_move hE rfl) rfl fun a hE => ?_
 refine spg hE rfl rfl rfl rfl hd115 (r_bin hE rfl rfl b_leq) rfl fun a hE => ?_
 refine sp hE (r_pickT hE rfl hd115 rfl) rfl fun a hE => ?_
 refine knil ?_
 exact ⟨(decide (x18 ≤ 66)), h, _, (M.le.refl _), hS, hE.cut ⟨rfl, rfl, rfl, rfl, trivial⟩⟩
 }
 {
 have h := ite_F hd115 h
 refine sx hE rfl rfl rfl rfl hd115 rfl fun a hE => ?_
 refine sx hE rfl rfl rfl rfl hd115 rfl fun a hE => ?_
 refine sp hE (r_pickF hE rfl hd115 rfl) rfl fun a hE => ?_
 refine knil ?_
 exact ⟨false, h, _, (M.le.refl _), hS, hE.cut ⟨rfl, rfl, rfl, rfl, trivial⟩⟩
 }
 }
 {
 rintro a w ⟨x24, h, m22, hm23, hS, hE⟩
 unfold block_front_j2 at h
 refine kif hE rfl (fun hd26 => ?_) (fun hd26 => ?_)
 {
 have h := ite_T hd26 h
 refine kskip (kseq (kblock (kseq (kreg ?_))))
 refine st hE (st_lit (k := (kInt .u8)) (xs := [1]) (vs := [(.int .u8 1)]) hE hS rfl Try.underlying37 Try.sizeOf5 Try.zeroValue5 ⟨(RV_of_int (show inR .u8 1 from inR_lit (by decide))), trivial⟩ rfl (by decide)) rfl ?_
 rintro v30 a w ⟨m28, hm29, hS, hv27⟩ hE
 refine qm hE rfl rfl fun a hE => ?_
 refine qm hE rfl rfl fun a hE => ?_
 obtain ⟨x33, hx34, h⟩ := ob h
 refine st hE (st_slice (k := (kInt .u8)) hE rfl Try.underlying37 Try.sizeOf5 (ha0.mono (M.le.trans hm17 (M.le.trans hm23 hm29))) rfl ⟨_, rfl⟩ hx34 (xl := none) (xh := (some (.tmp 21)))) rfl ?_
 rintro v36 a _ ⟨rfl, hv35⟩ hE
 obtain ⟨z37, hz38, h⟩ := ob h
 refine st hE (st_app (k := (kInt .u8)) (N := 140737488355328) hE hS rfl rfl Try.underlying37 Try.underlying37 el5 (i := 0) rfl hv27 hv35 hz38 rfl rfl) rfl ?_
 rintro v42 a w ⟨m40, hm41, hS, hv39⟩ hE
 obtain ⟨r43, hr44, h⟩ := ob h
 refine st hE (st_call (vs := [v42]) hE rfl Try.call128 (c_rows_Decode (hS := hS) hv39 hr44)) rfl ?_
 rintro _ a w ⟨m45, hm46, hS, v0_47, v1_48, rfl, hv0_49, hv1_50⟩ hE
 obtain ⟨rfl, hr52⟩ := RV_int hv1_50
 refine qm hE rfl rfl fun a hE => ?_
 refine sp hE (r_extract hE rfl rfl) rfl fun a hE => ?_
 refine sp hE (r_extract hE rfl rfl) rfl fun a hE => ?_
 refine qa hE rfl rfl fun a hE => ?_
 refine qa hE rfl rfl fun a hE => ?_
 refine knil (kseq (kreg ?_))
 refine qm hE rfl rfl fun a hE => ?_
 refine sp hE (r_bin hE rfl rfl b_eql) rfl fun a hE => ?_
 refine knil ?_
 refine kif hE rfl (fun hd60 => ?_) (fun hd60 => ?_)
 {
 have h := ite_T hd60 h
 refine kseq ?_
 obtain ⟨x61, hx62, h⟩ := ob h
 obtain ⟨x65, hx66, h⟩ := ob h
 refine kchain (k := 7) (m := m45) (es := [6]) (Φ := (fun i m ws v => match i with | 0 => v = v0_47 | 1 => PR kAV m v x61 | 2 => RV kAV m v x61 | 3 => v = v0 | 4 => v = (.int .i64 x18) ∧ inR .i64 x18 | 5 => RV (kSl (kInt .u8)) m v x65 | 6 => True | _ => True)) (Q := (fun c m ws L' TL' => match c with | 0 => (b1, zc53) :: L = L' ∧ (1, v42) :: TL = TL' | 1 => (b1, (wi ws 0).c) :: L = L' ∧ (1, v42) :: TL = TL' ∧ kAV.R m (wi ws 0).c x61 | _ => False)) (cs := [⟨0, 0, false, [(6, v0_47)]⟩, ⟨0, 0, false, []⟩, ⟨0, 0, false, []⟩, ⟨0, 1, false, [(0, v0)]⟩, ⟨0, 1, false, [(5, (.int .i64 x18))]⟩, ⟨0, 1, false, []⟩, ⟨0, 0, true, [(2, (.pointer (some ⟨b1, 0, none⟩)))]⟩]) mixed hE hS ⟨rfl, rfl⟩ rfl rfl ⟨⟨rfl, trivial⟩, trivial, trivial, ⟨rfl, trivial⟩, ⟨rfl, trivial⟩, trivial, ⟨rfl, trivial⟩, trivial⟩ (by kernel_rfl) ?_ ?_ ?_ ?_
 {
 intro i m_ m2_ ws v hm_ hp_
 match i, hp_ with
 | 0, hp_ => exact hp_
 | 1, hp_ => exact PR.mono hp_ hm_
 | 2, hp_ => exact RV.mono hp_ hm_
 | 3, hp_ => exact hp_
 | 4, hp_ => exact hp_
 | 5, hp_ => exact RV.mono hp_ hm_
 | 6, hp_ => exact hp_
 | _ + 7, hp_ => exact trivial
 }
 {
 intro c m_ m2_ ws L_ T_ hm_ hq_
 match c, hq_ with
 | 0, ⟨e1_, e2_⟩ => exact ⟨e1_, e2_⟩
 | 1, ⟨e1_, e2_, f0_⟩ => exact ⟨e1_, e2_, (kAV.mono hm_ f0_)⟩
 | _ + 2, hq_ => exact hq_.elim
 }
 {
 refine ⟨?_, ?_, ?_, ?_, ?_, ?_, ?_, trivial⟩
 {
 refine cplain fun pre_ post_ L_ T_ m' a' w' hl' hp' hm' hq' hS' hE' hT' => ?_
 obtain rfl := len0 hl'
 refine Step.imp (Run1.pure (r_move hE' rfl)) ?_
 rintro _ _ ⟨rfl, rfl⟩
 exact ⟨_, M.le.refl _, hS', rfl⟩
 }
 {
 refine cplain fun pre_ post_ L_ T_ m' a' w' hl' hp' hm' hq' hS' hE' hT' => ?_
 obtain rfl := len0 hl'
 obtain ⟨v72, e73, q74⟩ : ∃ v, a'.tmps.getD 29 undef = v ∧ (v = v0_47) := ⟨_, rfl, hT' 0 (by decide) 29 rfl⟩
 have hE := hE'.add (e73.trans q74)
 refine Step.imp (st_index (k := kAV) hE rfl rfl Try.underlying29 Try.sizeOf53 (hv0_49.mono hm') hx62) ?_
 rintro v75 _ ⟨rfl, hp63⟩
 exact ⟨_, M.le.refl _, hS', hp63⟩
 }
 {
 refine cplain fun pre_ post_ L_ T_ m' a' w' hl' hp' hm' hq' hS' hE' hT' => ?_
 obtain rfl := len0 hl'
 obtain ⟨v76, e77, q78⟩ : ∃ v, a'.tmps.getD 30 undef = v ∧ (PR kAV m' v x61) := ⟨_, rfl, hT' 1 (by decide) 30 rfl⟩
 have hE := hE'.add (e77)
 refine Step.imp (st_loadM hE hS' ty53 rfl q78) ?_
 rintro v79 _ ⟨rfl, hv64⟩
 exact ⟨_, M.le.refl _, hS', hv64⟩
 }
 {
 refine cplain fun pre_ post_ L_ T_ m' a' w' hl' hp' hm' hq' hS' hE' hT' => ?_
 obtain rfl := len0 hl'
 refine Step.imp (Run1.pure (r_move hE' rfl)) ?_
 rintro _ _ ⟨rfl, rfl⟩
 exact ⟨_, M.le.refl _, hS', rfl⟩
 }
 {
 refine cplain fun pre_ post_ L_ T_ m' a' w' hl' hp' hm' hq' hS' hE' hT' => ?_
 obtain rfl := len0 hl'
 refine Step.imp (Run1.pure (r_move hE' rfl)) ?_
 rintro _ _ ⟨rfl, rfl⟩
 exact ⟨_, M.le.refl _, hS', ⟨rfl, hr19⟩⟩
 }
 {
 refine cplain fun pre_ post_ L_ T_ m' a' w' hl' hp' hm' hq' hS' hE' hT' => ?_
 obtain rfl := len0 hl'
 obtain ⟨v82, e83, q84⟩ : ∃ v, a'.tmps.getD 32 undef = v ∧ (v = v0) := ⟨_, rfl, hT' 3 (by decide) 32 rfl⟩
 have hE := hE'.add (e83.trans q84)
 obtain ⟨v85, e86, q87⟩ : ∃ v, a'.tmps.getD 33 undef = v ∧ (v = (.int .i64 x18) ∧ inR .i64 x18) := ⟨_, rfl, hT' 4 (by decide) 33 rfl⟩
 obtain ⟨q87, hr88⟩ := q87
 have hE := hE.add (e86.trans q87)
 refine Step.imp (st_slice (k := (kInt .u8)) hE rfl Try.underlying37 Try.sizeOf5 (ha0.mono (M.le.trans hm17 (M.le.trans hm23 (M.le.trans hm29 (M.le.trans hm41 (M.le.trans hm46 hm')))))) ⟨_, rfl⟩ rfl hx66 (xl := (some (.tmp 33))) (xh := none)) ?_
 rintro v89 _ ⟨rfl, hv67⟩
 exact ⟨_, M.le.refl _, hS', hv67⟩
 }
 {
 refine cturn fun pre_ L_ T_ m' a' w' hl' hm' hq' hS' hE' hT' => ?_
 obtain rfl := len0 hl'
 obtain ⟨rfl, rfl⟩ := hq'
 obtain ⟨v90, e91, q92⟩ : ∃ v, a'.tmps.getD 31 undef = v ∧ (RV kAV m' v x61) := ⟨_, rfl, hT' 2 (by decide) 31 rfl⟩
 have hE := hE'.add (e91)
 refine Step.imp (st_storeF hE hS' ty53 StF_self rfl rfl q92 (i := 0) rfl (zr53 _)) ?_
 rintro vv70 w ⟨cs68, hc69, hS⟩
 exact ⟨_, ⟨0, undef, cs68, [], []⟩, _, _, M.le.refl _, hS, ⟨rfl, rfl, hc69⟩, trivial⟩
 }
 }
 {
 intro ws_ L_ T_ m93 a w hl94 hm95 hq96 hS hd97 hn98 ho99 hT100
 obtain ⟨⟨_, _, cs68, _, _⟩, rfl⟩ := len1 hl94
 obtain ⟨rfl, rfl, hc101⟩ := hq96
 have hE := EnvD.of (k := 7) (l' := [(0, v0), (2, (.pointer (some ⟨b1, 0, none⟩))), (5, (.int .i64 x18)), (6, v0_47), (7, (.int .i64 r43.2)), (15, (.bool x24)), (18, (.tuple #[v0_47, (.int .i64 r43.2)])), (19, v30), (20, v0), (21, (.int .i64 x18)), (22, v36), (23, v42), (24, (.tuple #[v0_47, (.int .i64 r43.2)])), (25, v0_47), (26, (.int .i64 r43.2)), (27, (.int .i64 r43.2)), (28, (.bool (r43.2 == 0)))]) hd97 hn98 ho99 ⟨rfl, rfl, rfl, rfl, rfl, rfl, rfl, rfl, rfl, rfl, rfl, rfl, rfl, rfl, rfl, rfl, rfl, trivial⟩ rfl
 obtain ⟨v102, e103, q104⟩ : ∃ v, a.tmps.getD 34 undef = v ∧ (RV (kSl (kInt .u8)) m93 v x65) := ⟨_, rfl, hT100 5 (by decide) 34 rfl⟩
 have hE := hE.add (e103)
 refine qa hE rfl rfl fun a hE => ?_
 refine qa hE rfl rfl fun a hE => ?_
 refine knil (kret ?_)
 have h := unwrap h hb21
 obtain rfl := oi h
 try dsimp only
 refine Fin.mk hE (rs := [.cell 2 53, .tmp 3, .tmp 4]) rfl (ResL.cell hE hS ty53 rfl (i := 0) rfl (R_whole hc101) (ResL.tmp hE rfl (ResL.tmp hE rfl ResL.nil))) ?_
 exact ⟨_, (M.le.trans hm17 (M.le.trans hm23 (M.le.trans hm29 (M.le.trans hm41 (M.le.trans hm46 hm95))))), ((hS.dropL 1).dropT 1), _, _, _, rfl, (RV_of_R (R_whole hc101)), q104, RV_of_bool⟩
 }
 }
 {
 have h := ite_F hd60 h
 refine kskip (kreg ?_)
 refine qm hE rfl rfl fun a hE => ?_
 refine sp hE (r_bin hE rfl rfl (b_add rfl)) rfl fun a hE => ?_
 refine qa hE rfl rfl fun a hE => ?_
 refine knil ?_
 exact ⟨IntKind.i64.wrap (x18 + 1), (Option.some.inj h).symm, _, (M.le.trans hm17 (M.le.trans hm23 (M.le.trans hm29 (M.le.trans hm41 hm46)))), (inR_wrap _ _), (hS.pickT 1 [] rfl rfl rfl), hE.cut ⟨rfl, rfl, rfl, trivial⟩⟩
 }
 }
 {
 have h := ite_F hd26 h
 refine kexit rfl rfl ?_
 have h := unwrap h hb21
 exact ⟨h, _, (M.le.trans hm17 hm23), hS, hE.cut ⟨rfl, trivial⟩⟩
 }
 }
 }
 }
 {
 rintro a w ⟨h, m6, hm7, hS, hE⟩
 unfold block_front_j1 at h
 refine kseq (kreg ?_)
 refine st hE (st_build (m := m6) (k := kAV) (x0 := AV.zero) (xx := (⟨0, false, 0, []⟩ : AV)) (pl := [(0, 1), (1, 1), (2, 1), (3, 1)]) (pv := []) hE rfl Try.underlying53 rfl Try.zeroValue53 zr53 rfl .nil) rfl ?_
 rintro v10 a _ ⟨rfl, hv9⟩ hE
 refine st0 hE (st_storeF hE hS ty53 StF_self rfl rfl hv9 (i := 0) rfl (zr53 _)) ?_
 rintro _ w ⟨cs11, hc12, hS⟩ hE
 refine qa hE rfl rfl fun a hE => ?_
 refine qa hE rfl rfl fun a hE => ?_
 refine knil (kret ?_)
 obtain rfl := oi h
 try dsimp only
 refine Fin.mk hE (rs := [.cell 2 53, .tmp 3, .tmp 4]) rfl (ResL.cell hE hS ty53 rfl (i := 0) rfl (R_whole hc12) (ResL.tmp hE rfl (ResL.tmp hE rfl ResL.nil))) ?_
 exact ⟨_, hm7, (hS.dropL 1), _, _, _, rfl, (RV_of_R (R_whole hc12)), RV_nil, RV_of_bool⟩
 }
end Go.Proofs.Ytifobhaccglckaa.Hay
