import Derived.Test.YtifobhaccglckaaSeC2
set_option maxRecDepth 100000
set_option maxHeartbeats 4000000
set_option linter.unusedVariables false
namespace Go.Proofs.Ytifobhaccglckaa.Hay
open Go.Proofs
/- 109 -/
/- 61 -/
/- 28 -/
theorem c_hayloftref06_Runs {W0 : World} {m : M} {w : World} {L : List (Nat × List Value)} {TL : List (Nat × Value)} (hS : S W0 m w (L) (TL)) {v0 : Value} {p0 : (List Api_Value)} (ha0 : RV (kSl kApi_Value) m v0 p0) {r : (List Hayloftref06_Run)} (h : hayloftref06_Runs p0 = some r) :
    Calls Try.prog 28 [v0].toArray w (Ret fun v w' => ∃ m', M.le m m' ∧ S W0 m' w' (L) ((5, v) :: TL) ∧ RV (kSl kHayloftref06_Run) m' v r) := by
 refine kcall Try.func28 rfl Try.ntmps28 (Nat.le_of_ble_eq_true rfl) fun a hE => ?_
 have hE : Env 55 a [(0, v0)] := hE
 unfold hayloftref06_Runs at h
 refine kseq ?_
 refine kreg ?_
 refine sp hE (r_assign hE rfl) rfl fun a hE => ?_
 refine knil ?_
 refine kseq ?_
 refine kreg ?_
 refine sp hE (r_assign hE rfl) rfl fun a hE => ?_
 refine knil ?_
 refine kseq ?_
 refine kseq ?_
 refine kreg ?_
 refine sp hE (r_assign hE rfl) rfl fun a hE => ?_
 refine knil ?_
 refine kcut (fun a w => ∃ x6 : (List Hayloftref06_Run), hayloftref06_Runs_j1 x6 = some r ∧ ∃ m', M.le m m' ∧ ∃ (v7 : Value), RV (kSl kHayloftref06_Run) m' v7 x6 ∧ S W0 m' w (L) ((5, v7) :: TL) ∧ Env 55 a [(3, v7)]) ?_ ?_
 {
 refine kblock ?_
 refine kloop h (fun (s : ((List Hayloftref06_Run) × Int)) a w => ∃ m', M.le m m' ∧ ∃ (v15 : Value), RV (kSl kHayloftref06_Run) m' v15 s.1 ∧ inR .i64 s.2 ∧ S W0 m' w (L) ((5, v15) :: TL) ∧ Env 55 a [(0, v0), (3, v15), (4, (.int .i64 s.2))]) ?_ ?_
 {
 exact ⟨_, (M.le.refl _), (.slice none 0 0), RV_nil, (show inR .i64 0 from inR_lit (by decide)), (hS.tail0 5), hE.cut ⟨rfl, rfl, rfl, trivial⟩⟩
 }
 {
 rintro ⟨x14, x17⟩ a w ⟨m12, hm13, v15, hv16, hr18, hS, hE⟩ r19 h hb20
 have h : hayloftref06_Runs_b1 p0 x14 x17 = some r19 := h
 unfold hayloftref06_Runs_b1 at h
 refine kseq ?_
 refine kseq ?_
 refine kreg ?_
 refine sp hE (r_move hE rfl) rfl fun a hE => ?_
 refine sp hE (r_move hE rfl) rfl fun a hE => ?_
 refine sp hE (r_lenSl (k := kApi_Value) hE rfl rfl Try.underlying29 (ha0.mono hm13)) rfl fun a hE => ?_
 refine sp hE (r_bin hE rfl rfl b_lss) rfl fun a hE => ?_
 refine knil ?_
 refine kif hE rfl (fun hd25 => ?_) (fun hd25 => ?_)
 {
 have h := ite_T hd25 h
 refine kskip ?_
 refine kseq ?_
 refine kcut (fun a w => ∃ x28 : (List Hayloftref06_Run), hayloftref06_Runs_j2 x17 x28 = some r19 ∧ ∃ m', M.le m12 m' ∧ ∃ (v29 : Value), RV (kSl kHayloftref06_Run) m' v29 x28 ∧ S W0 m' w (L) ((5, v29) :: TL) ∧ Env 55 a [(0, v0), (3, v29), (4, (.int .i64 x17))]) ?_ ?_
 {
 refine kblock ?_
 refine kseq ?_
 refine kseq ?_
 refine kcut (fun a w => ∃ x37 : Bool, hayloftref06_Runs_j3 p0 x14 x17 x37 = some r19 ∧ ∃ m', M.le m12 m' ∧ S W0 m' w (L) ((5, v15) :: TL) ∧ Env 55 a [(0, v0), (3, v15), (4, (.int .i64 x17)), (25, (.bool x37))]) ?_ ?_
 {
 rcases Bool.eq_false_or_eq_true (decide (0 < x17)) with hd158 | hd158
 {
 have h := ite_T hd158 h
 obtain ⟨x159, hx160, h⟩ := ob h
 obtain ⟨x163, hx164, h⟩ := ob h
 refine kchain (k := 12) (m := m12) (es := []) (Φ := (fun i m ws v => match i with | 0 => v = (.int .i64 x17) ∧ inR .i64 x17 | 1 => v = (.bool (decide (0 < x17))) | 2 => v = (.bool (decide (0 < x17))) | 3 => v = v0 | 4 => v = (.int .i64 x17) ∧ inR .i64 x17 | 5 => PR kApi_Value m v x159 | 6 => RV kApi_Value m v x159 | 7 => v = v0 | 8 => v = (.int .i64 x17) ∧ inR .i64 x17 | 9 => v = (.int .i64 (IntKind.i64.wrap (x17 - 1))) ∧ inR .i64 (IntKind.i64.wrap (x17 - 1)) | 10 => PR kApi_Value m v x163 | 11 => RV kApi_Value m v x163 | _ => True)) (Q := (fun c m ws L' TL' => match c with | 0 => L = L' ∧ (5, v15) :: TL = TL' | _ => False)) (cs := [⟨0, 0, false, [(4, (.int .i64 x17))]⟩, ⟨0, 0, false, []⟩, ⟨0, 0, false, []⟩, ⟨0, 0, false, [(0, v0)]⟩, ⟨0, 0, false, [(4, (.int .i64 x17))]⟩, ⟨0, 0, false, []⟩, ⟨0, 0, false, []⟩, ⟨0, 0, false, [(0, v0)]⟩, ⟨0, 0, false, [(4, (.int .i64 x17))]⟩, ⟨0, 0, false, []⟩, ⟨0, 0, false, []⟩, ⟨0, 0, false, []⟩]) mixed hE hS ⟨rfl, rfl⟩ rfl rfl ⟨⟨rfl, trivial⟩, trivial, trivial, ⟨rfl, trivial⟩, ⟨rfl, trivial⟩, trivial, trivial, ⟨rfl, trivial⟩, ⟨rfl, trivial⟩, trivial, trivial, trivial, trivial⟩ (by kernel_rfl) ?_ ?_ ?_ ?_
 {
 intro i m_ m2_ ws v hm_ hp_
 match i, hp_ with
 | 0, hp_ => exact hp_
 | 1, hp_ => exact hp_
 | 2, hp_ => exact hp_
 | 3, hp_ => exact hp_
 | 4, hp_ => exact hp_
 | 5, hp_ => exact PR.mono hp_ hm_
 | 6, hp_ => exact RV.mono hp_ hm_
 | 7, hp_ => exact hp_
 | 8, hp_ => exact hp_
 | 9, hp_ => exact hp_
 | 10, hp_ => exact PR.mono hp_ hm_
 | 11, hp_ => exact RV.mono hp_ hm_
 | _ + 12, hp_ => exact trivial
 }
 {
 intro c m_ m2_ ws L_ T_ hm_ hq_
 match c, hq_ with
 | 0, ⟨e1_, e2_⟩ => exact ⟨e1_, e2_⟩
 | _ + 1, hq_ => exact hq_.elim
 }
 {
 refine ⟨?_, ?_, ?_, ?_, ?_, ?_, ?_, ?_, ?_, ?_, ?_, ?_, trivial⟩
 {
 refine cplain fun pre_ post_ L_ T_ m' a' w' hl' hp' hm' hq' hS' hE' hT' => ?_
 obtain rfl := len0 hl'
 refine Step.imp (Run1.pure (r_move hE' rfl)) ?_
 rintro _ _ ⟨rfl, rfl⟩
 exact ⟨_, M.le.refl _, hS', ⟨rfl, hr18⟩⟩
 }
 {
 refine cplain fun pre_ post_ L_ T_ m' a' w' hl' hp' hm' hq' hS' hE' hT' => ?_
 obtain rfl := len0 hl'
 obtain ⟨v168, e169, q170⟩ : ∃ v, a'.tmps.getD 12 undef = v ∧ (v = (.int .i64 x17) ∧ inR .i64 x17) := ⟨_, rfl, hT' 0 (by decide) 12 rfl⟩
 obtain ⟨q170, hr171⟩ := q170
 have hE := hE'.add (e169.trans q170)
 refine Step.imp (Run1.pure (r_bin hE rfl rfl b_gtr)) ?_
 rintro _ _ ⟨rfl, rfl⟩
 exact ⟨_, M.le.refl _, hS', rfl⟩
 }
 {
 refine cplain fun pre_ post_ L_ T_ m' a' w' hl' hp' hm' hq' hS' hE' hT' => ?_
 obtain rfl := len0 hl'
 obtain ⟨v173, e174, q175⟩ : ∃ v, a'.tmps.getD 13 undef = v ∧ (v = (.bool (decide (0 < x17)))) := ⟨_, rfl, hT' 1 (by decide) 13 rfl⟩
 have hE := hE'.add (e174.trans q175)
 refine Step.imp (Run1.pure (r_move hE rfl)) ?_
 rintro _ _ ⟨rfl, rfl⟩
 exact ⟨_, M.le.refl _, hS', rfl⟩
 }
 {
 refine cguard rfl rfl (by decide) (fun _ _ _ h_ => Eq.trans h_ (congrArg Value.bool hd158)) fun pre_ post_ L_ T_ m' a' w' hl' hp' hm' hq' hS' hE' hT' => ?_
 obtain rfl := len0 hl'
 refine Step.imp (Run1.pure (r_move hE' rfl)) ?_
 rintro _ _ ⟨rfl, rfl⟩
 exact ⟨_, M.le.refl _, hS', rfl⟩
 }
 {
 refine cguard rfl rfl (by decide) (fun _ _ _ h_ => Eq.trans h_ (congrArg Value.bool hd158)) fun pre_ post_ L_ T_ m' a' w' hl' hp' hm' hq' hS' hE' hT' => ?_
 obtain rfl := len0 hl'
 refine Step.imp (Run1.pure (r_move hE' rfl)) ?_
 rintro _ _ ⟨rfl, rfl⟩
 exact ⟨_, M.le.refl _, hS', ⟨rfl, hr18⟩⟩
 }
 {
 refine cguard rfl rfl (by decide) (fun _ _ _ h_ => Eq.trans h_ (congrArg Value.bool hd158)) fun pre_ post_ L_ T_ m' a' w' hl' hp' hm' hq' hS' hE' hT' => ?_
 obtain rfl := len0 hl'
 obtain ⟨v179, e180, q181⟩ : ∃ v, a'.tmps.getD 15 undef = v ∧ (v = v0) := ⟨_, rfl, hT' 3 (by decide) 15 rfl⟩
 have hE := hE'.add (e180.trans q181)
 obtain ⟨v182, e183, q184⟩ : ∃ v, a'.tmps.getD 16 undef = v ∧ (v = (.int .i64 x17) ∧ inR .i64 x17) := ⟨_, rfl, hT' 4 (by decide) 16 rfl⟩
 obtain ⟨q184, hr185⟩ := q184
 have hE := hE.add (e183.trans q184)
 refine Step.imp (st_index (k := kApi_Value) hE rfl rfl Try.underlying29 Try.sizeOf53 (ha0.mono (M.le.trans hm13 hm')) hx160) ?_
 rintro v186 _ ⟨rfl, hp161⟩
 exact ⟨_, M.le.refl _, hS', hp161⟩
 }
 {
 refine cguard rfl rfl (by decide) (fun _ _ _ h_ => Eq.trans h_ (congrArg Value.bool hd158)) fun pre_ post_ L_ T_ m' a' w' hl' hp' hm' hq' hS' hE' hT' => ?_
 obtain rfl := len0 hl'
 obtain ⟨v187, e188, q189⟩ : ∃ v, a'.tmps.getD 17 undef = v ∧ (PR kApi_Value m' v x159) := ⟨_, rfl, hT' 5 (by decide) 17 rfl⟩
 have hE := hE'.add (e188)
 refine Step.imp (st_loadM hE hS' ty53 rfl q189) ?_
 rintro v190 _ ⟨rfl, hv162⟩
 exact ⟨_, M.le.refl _, hS', hv162⟩
 }
 {
 refine cguard rfl rfl (by decide) (fun _ _ _ h_ => Eq.trans h_ (congrArg Value.bool hd158)) fun pre_ post_ L_ T_ m' a' w' hl' hp' hm' hq' hS' hE' hT' => ?_
 obtain rfl := len0 hl'
 refine Step.imp (Run1.pure (r_move hE' rfl)) ?_
 rintro _ _ ⟨rfl, rfl⟩
 exact ⟨_, M.le.refl _, hS', rfl⟩
 }
 {
 refine cguard rfl rfl (by decide) (fun _ _ _ h_ => Eq.trans h_ (congrArg Value.bool hd158)) fun pre_ post_ L_ T_ m' a' w' hl' hp' hm' hq' hS' hE' hT' => ?_
 obtain rfl := len0 hl'
 refine Step.imp (Run1.pure (r_move hE' rfl)) ?_
 rintro _ _ ⟨rfl, rfl⟩
 exact ⟨_, M.le.refl _, hS', ⟨rfl, hr18⟩⟩
 }
 {
 refine cguard rfl rfl (by decide) (fun _ _ _ h_ => Eq.trans h_ (congrArg Value.bool hd158)) fun pre_ post_ L_ T_ m' a' w' hl' hp' hm' hq' hS' hE' hT' => ?_
 obtain rfl := len0 hl'
 obtain ⟨v193, e194, q195⟩ : ∃ v, a'.tmps.getD 20 undef = v ∧ (v = (.int .i64 x17) ∧ inR .i64 x17) := ⟨_, rfl, hT' 8 (by decide) 20 rfl⟩
 obtain ⟨q195, hr196⟩ := q195
 have hE := hE'.add (e194.trans q195)
 refine Step.imp (Run1.pure (r_bin hE rfl rfl (b_sub rfl))) ?_
 rintro _ _ ⟨rfl, rfl⟩
 exact ⟨_, M.le.refl _, hS', ⟨rfl, (inR_wrap _ _)⟩⟩
 }
 {
 refine cguard rfl rfl (by decide) (fun _ _ _ h_ => Eq.trans h_ (congrArg Value.bool hd158)) fun pre_ post_ L_ T_ m' a' w' hl' hp' hm' hq' hS' hE' hT' => ?_
 obtain rfl := len0 hl'
 obtain ⟨v198, e199, q200⟩ : ∃ v, a'.tmps.getD 19 undef = v ∧ (v = v0) := ⟨_, rfl, hT' 7 (by decide) 19 rfl⟩
 have hE := hE'.add (e199.trans q200)
 obtain ⟨v201, e202, q203⟩ : ∃ v, a'.tmps.getD 21 undef = v ∧ (v = (.int .i64 (IntKind.i64.wrap (x17 - 1))) ∧ inR .i64 (IntKind.i64.wrap (x17 - 1))) := ⟨_, rfl, hT' 9 (by decide) 21 rfl⟩
 obtain ⟨q203, hr204⟩ := q203
 have hE := hE.add (e202.trans q203)
 refine Step.imp (st_index (k := kApi_Value) hE rfl rfl Try.underlying29 Try.sizeOf53 (ha0.mono (M.le.trans hm13 hm')) hx164) ?_
 rintro v205 _ ⟨rfl, hp165⟩
 exact ⟨_, M.le.refl _, hS', hp165⟩
 }
 {
 refine cguard rfl rfl (by decide) (fun _ _ _ h_ => Eq.trans h_ (congrArg Value.bool hd158)) fun pre_ post_ L_ T_ m' a' w' hl' hp' hm' hq' hS' hE' hT' => ?_
 obtain rfl := len0 hl'
 obtain ⟨v206, e207, q208⟩ : ∃ v, a'.tmps.getD 22 undef = v ∧ (PR kApi_Value m' v x163) := ⟨_, rfl, hT' 10 (by decide) 22 rfl⟩
 have hE := hE'.add (e207)
 refine Step.imp (st_loadM hE hS' ty53 rfl q208) ?_
 rintro v209 _ ⟨rfl, hv166⟩
 exact ⟨_, M.le.refl _, hS', hv166⟩
 }
 }
 {
 intro ws_ L_ T_ m210 a w hl211 hm212 hq213 hS hd214 hn215 ho216 hT217
 obtain rfl := len0 hl211
 obtain ⟨rfl, rfl⟩ := hq213
 have hE := Env.of (k := 12) (l' := [(0, v0), (3, v15), (4, (.int .i64 x17)), (6, (.int .i64 x17)), (7, v0), (8, (.int .i64 (p0.length : Int))), (9, (.bool (decide (x17 < (p0.length : Int)))))]) hd214 hn215 ho216 ⟨rfl, rfl, rfl, rfl, rfl, rfl, rfl, trivial⟩ rfl
 obtain ⟨v218, e219, q220⟩ : ∃ v, a.tmps.getD 14 undef = v ∧ (v = (.bool (decide (0 < x17)))) := ⟨_, rfl, hT217 2 (by decide) 14 rfl⟩
 have hE := hE.add (e219.trans q220)
 obtain ⟨v221, e222, q223⟩ : ∃ v, a.tmps.getD 15 undef = v ∧ (v = v0) := ⟨_, rfl, hT217 3 (by decide) 15 rfl⟩
 have hE := hE.add (e222.trans q223)
 obtain ⟨v224, e225, q226⟩ : ∃ v, a.tmps.getD 16 undef = v ∧ (v = (.int .i64 x17) ∧ inR .i64 x17) := ⟨_, rfl, hT217 4 (by decide) 16 rfl⟩
 obtain ⟨q226, hr227⟩ := q226
 have hE := hE.add (e225.trans q226)
 obtain ⟨v228, e229, q230⟩ : ∃ v, a.tmps.getD 17 undef = v ∧ (PR kApi_Value m210 v x159) := ⟨_, rfl, hT217 5 (by decide) 17 rfl⟩
 have hE := hE.add (e229)
 obtain ⟨v231, e232, q233⟩ : ∃ v, a.tmps.getD 18 undef = v ∧ (RV kApi_Value m210 v x159) := ⟨_, rfl, hT217 6 (by decide) 18 rfl⟩
 have hE := hE.add (e232)
 obtain ⟨v234, e235, q236⟩ : ∃ v, a.tmps.getD 19 undef = v ∧ (v = v0) := ⟨_, rfl, hT217 7 (by decide) 19 rfl⟩
 have hE := hE.add (e235.trans q236)
 obtain ⟨v237, e238, q239⟩ : ∃ v, a.tmps.getD 20 undef = v ∧ (v = (.int .i64 x17) ∧ inR .i64 x17) := ⟨_, rfl, hT217 8 (by decide) 20 rfl⟩
 obtain ⟨q239, hr240⟩ := q239
 have hE := hE.add (e238.trans q239)
 obtain ⟨v241, e242, q243⟩ : ∃ v, a.tmps.getD 21 undef = v ∧ (v = (.int .i64 (IntKind.i64.wrap (x17 - 1))) ∧ inR .i64 (IntKind.i64.wrap (x17 - 1))) := ⟨_, rfl, hT217 9 (by decide) 21 rfl⟩
 obtain ⟨q243, hr244⟩ := q243
 have hE := hE.add (e242.trans q243)
 obtain ⟨v245, e246, q247⟩ : ∃ v, a.tmps.getD 22 undef = v ∧ (PR kApi_Value m210 v x163) := ⟨_, rfl, hT217 10 (by decide) 22 rfl⟩
 have hE := hE.add (e246)
 obtain ⟨v248, e249, q250⟩ : ∃ v, a.tmps.getD 23 undef = v ∧ (RV kApi_Value m210 v x163) := ⟨_, rfl, hT217 11 (by decide) 23 rfl⟩
 have hE := hE.add (e249)
 refine spg hE rfl rfl rfl rfl hd158 (r_eqlK hE eq53 rfl rfl q233 q250 rfl) rfl fun a hE => ?_
 refine sp hE (r_pickT hE rfl hd158 rfl) rfl fun a hE => ?_
 refine knil ?_
 exact ⟨(decide (x159 = x163)), h, _, hm212, hS, hE.cut ⟨rfl, rfl, rfl, rfl, trivial⟩⟩
 }
 }
 {
 have h := ite_F hd158 h
 refine kchain (k := 12) (m := m12) (es := []) (Φ := (fun i m ws v => match i with | 0 => v = (.int .i64 x17) ∧ inR .i64 x17 | 1 => v = (.bool (decide (0 < x17))) | 2 => v = (.bool (decide (0 < x17))) | 3 => v = undef | 4 => v = undef | 5 => v = undef | 6 => v = undef | 7 => v = undef | 8 => v = undef | 9 => v = undef | 10 => v = undef | 11 => v = undef | _ => True)) (Q := (fun c m ws L' TL' => match c with | 0 => L = L' ∧ (5, v15) :: TL = TL' | _ => False)) (cs := [⟨0, 0, false, [(4, (.int .i64 x17))]⟩, ⟨0, 0, false, []⟩, ⟨0, 0, false, []⟩, ⟨0, 0, false, [(0, v0)]⟩, ⟨0, 0, false, [(4, (.int .i64 x17))]⟩, ⟨0, 0, false, []⟩, ⟨0, 0, false, []⟩, ⟨0, 0, false, [(0, v0)]⟩, ⟨0, 0, false, [(4, (.int .i64 x17))]⟩, ⟨0, 0, false, []⟩, ⟨0, 0, false, []⟩, ⟨0, 0, false, []⟩]) mixed hE hS ⟨rfl, rfl⟩ rfl rfl ⟨⟨rfl, trivial⟩, trivial, trivial, ⟨rfl, trivial⟩, ⟨rfl, trivial⟩, trivial, trivial, ⟨rfl, trivial⟩, ⟨rfl, trivial⟩, trivial, trivial, trivial, trivial⟩ (by kernel_rfl) ?_ ?_ ?_ ?_
 {
 intro i m_ m2_ ws v hm_ hp_
 match i, hp_ with
 | 0, hp_ => exact hp_
 | 1, hp_ => exact hp_
 | 2, hp_ => exact hp_
 | 3, hp_ => exact hp_
 | 4, hp_ => exact hp_
 | 5, hp_ => exact hp_
 | 6, hp_ => exact hp_
 | 7, hp_ => exact hp_
 | 8, hp_ => exact hp_
 | 9, hp_ => exact hp_
 | 10, hp_ => exact hp_
 | 11, hp_ => exact hp_
 | _ + 12, hp_ => exact trivial
 }
 {
 intro c m_ m2_ ws L_ T_ hm_ hq_
 match c, hq_ with
 | 0, ⟨e1_, e2_⟩ => exact ⟨e1_, e2_⟩
 | _ + 1, hq_ => exact hq_.elim
 }
 {
 refine ⟨?_, ?_, ?_, ?_, ?_, ?_, ?_, ?_, ?_, ?_, ?_, ?_, trivial⟩
 {
 refine cplain fun pre_ post_ L_ T_ m' a' w' hl' hp' hm' hq' hS' hE' hT' => ?_
 obtain rfl := len0 hl'
 refine Step.imp (Run1.pure (r_move hE' rfl)) ?_
 rintro _ _ ⟨rfl, rfl⟩
 exact ⟨_, M.le.refl _, hS', ⟨rfl, hr18⟩⟩
 }
 {
 refine cplain fun pre_ post_ L_ T_ m' a' w' hl' hp' hm' hq' hS' hE' hT' => ?_
 obtain rfl := len0 hl'
 obtain ⟨v254, e255, q256⟩ : ∃ v, a'.tmps.getD 12 undef = v ∧ (v = (.int .i64 x17) ∧ inR .i64 x17) := ⟨_, rfl, hT' 0 (by decide) 12 rfl⟩
 obtain ⟨q256, hr257⟩ := q256
 have hE := hE'.add (e255.trans q256)
 refine Step.imp (Run1.pure (r_bin hE rfl rfl b_gtr)) ?_
 rintro _ _ ⟨rfl, rfl⟩
 exact ⟨_, M.le.refl _, hS', rfl⟩
 }
 {
 refine cplain fun pre_ post_ L_ T_ m' a' w' hl' hp' hm' hq' hS' hE' hT' => ?_
 obtain rfl := len0 hl'
 obtain ⟨v259, e260, q261⟩ : ∃ v, a'.tmps.getD 13 undef = v ∧ (v = (.bool (decide (0 < x17)))) := ⟨_, rfl, hT' 1 (by decide) 13 rfl⟩
 have hE := hE'.add (e260.trans q261)
 refine Step.imp (Run1.pure (r_move hE rfl)) ?_
 rintro _ _ ⟨rfl, rfl⟩
 exact ⟨_, M.le.refl _, hS', rfl⟩
 }
 {
 exact cskip (b := false) rfl rfl (by decide) (fun _ _ _ h_ => Eq.trans h_ (congrArg Value.bool hd158)) (by decide) (fun _ _ => rfl)
 }
 {
 exact cskip (b := false) rfl rfl (by decide) (fun _ _ _ h_ => Eq.trans h_ (congrArg Value.bool hd158)) (by decide) (fun _ _ => rfl)
 }
 {
 exact cskip (b := false) rfl rfl (by decide) (fun _ _ _ h_ => Eq.trans h_ (congrArg Value.bool hd158)) (by decide) (fun _ _ => rfl)
 }
 {
 exact cskip (b := false) rfl rfl (by decide) (fun _ _ _ h_ => Eq.trans h_ (congrArg Value.bool hd158)) (by decide) (fun _ _ => rfl)
 }
 {
 exact cskip (b := false) rfl rfl (by decide) (fun _ _ _ h_ => Eq.trans h_ (congrArg Value.bool hd158)) (by decide) (fun _ _ => rfl)
 }
 {
 exact cskip (b := false) rfl rfl (by decide) (fun _ _ _ h_ => Eq.trans h_ (congrArg Value.bool hd158)) (by decide) (fun _ _ => rfl)
 }
 {
 exact cskip (b := false) rfl rfl (by decide) (fun _ _ _ h_ => Eq.trans h_ (congrArg Value.bool hd158)) (by decide) (fun _ _ => rfl)
 }
 {
 exact cskip (b := false) rfl rfl (by decide) (fun _ _ _ h_ => Eq.trans h_ (congrArg Value.bool hd158)) (by decide) (fun _ _ => rfl)
 }
 {
 exact cskip (b := false) rfl rfl (by decide) (fun _ _ _ h_ => Eq.trans h_ (congrArg Value.bool hd158)) (by decide) (fun _ _ => rfl)
 }
 }
 {
 intro ws_ L_ T_ m263 a w hl264 hm265 hq266 hS hd267 hn268 ho269 hT270
 obtain rfl := len0 hl264
 obtain ⟨rfl, rfl⟩ := hq266
 have hE := Env.of (k := 12) (l' := [(0, v0), (3, v15), (4, (.int .i64 x17)), (6, (.int .i64 x17)), (7, v0), (8, (.int .i64 (p0.length : Int))), (9, (.bool (decide (x17 < (p0.length : Int)))))]) hd267 hn268 ho269 ⟨rfl, rfl, rfl, rfl, rfl, rfl, rfl, trivial⟩ rfl
 obtain ⟨v271, e272, q273⟩ : ∃ v, a.tmps.getD 14 undef = v ∧ (v = (.bool (decide (0 < x17)))) := ⟨_, rfl, hT270 2 (by decide) 14 rfl⟩
 have hE := hE.add (e272.trans q273)
 obtain ⟨v274, e275, q276⟩ : ∃ v, a.tmps.getD 15 undef = v ∧ (v = undef) := ⟨_, rfl, hT270 3 (by decide) 15 rfl⟩
 have hE := hE.add (e275.trans q276)
 obtain ⟨v277, e278, q279⟩ : ∃ v, a.tmps.getD 16 undef = v ∧ (v = undef) := ⟨_, rfl, hT270 4 (by decide) 16 rfl⟩
 have hE := hE.add (e278.trans q279)
 obtain ⟨v280, e281, q282⟩ : ∃ v, a.tmps.getD 17 undef = v ∧ (v = undef) := ⟨_, rfl, hT270 5 (by decide) 17 rfl⟩
 have hE := hE.add (e281.trans q282)
 obtain ⟨v283, e284, q285⟩ : ∃ v, a.tmps.getD 18 undef = v ∧ (v = undef) := ⟨_, rfl, hT270 6 (by decide) 18 rfl⟩
 have hE := hE.add (e284.trans q285)
 obtain ⟨v286, e287, q288⟩ : ∃ v, a.tmps.getD 19 undef = v ∧ (v = undef) := ⟨_, rfl, hT270 7 (by decide) 19 rfl⟩
 have hE := hE.add (e287.trans q288)
 obtain ⟨v289, e290, q291⟩ : ∃ v, a.tmps.getD 20 undef = v ∧ (v = undef) := ⟨_, rfl, hT270 8 (by decide) 20 rfl⟩
 have hE := hE.add (e290.trans q291)
 obtain ⟨v292, e293, q294⟩ : ∃ v, a.tmps.getD 21 undef = v ∧ (v = undef) := ⟨_, rfl, hT270 9 (by decide) 21 rfl⟩
 have hE := hE.add (e293.trans q294)
 obtain ⟨v295, e296, q297⟩ : ∃ v, a.tmps.getD 22 undef = v ∧ (v = undef) := ⟨_, rfl, hT270 10 (by decide) 22 rfl⟩
 have hE := hE.add (e296.trans q297)
 obtain ⟨v298, e299, q300⟩ : ∃ v, a.tmps.getD 23 undef = v ∧ (v = undef) := ⟨_, rfl, hT270 11 (by decide) 23 rfl⟩
 have hE := hE.add (e299.trans q300)
 refine sx hE rfl rfl rfl rfl hd158 rfl fun a hE => ?_
 refine sp hE (r_pickF hE rfl hd158 rfl) rfl fun a hE => ?_
 refine knil ?_
 exact ⟨false, h, _, hm265, hS, hE.cut ⟨rfl, rfl, rfl, rfl, trivial⟩⟩
 }
 }
 }
 {
 rintro a w ⟨x37, h, m35, hm36, hS, hE⟩
 unfold hayloftref06_Runs_j3 at h
 refine kif hE rfl (fun hd39 => ?_) (fun hd39 => ?_)
 {
 have h := ite_T hd39 h
 refine kseq ?_
 refine kreg ?_
 refine sp hE (r_move hE rfl) rfl fun a hE => ?_
 refine sp hE (r_move hE rfl) rfl fun a hE => ?_
 refine sp hE (r_lenSl (k := kHayloftref06_Run) hE rfl rfl Try.underlying50 (hv16.mono hm36)) rfl fun a hE => ?_
 refine sp hE (r_bin hE rfl rfl (b_sub rfl)) rfl fun a hE => ?_
 obtain ⟨x44, hx45, h⟩ := ob h
 refine st hE (st_index (k := kHayloftref06_Run) hE rfl rfl Try.underlying50 Try.sizeOf56 (hv16.mono hm36) hx45) rfl ?_
 rintro v47 a _ ⟨rfl, hp46⟩ hE
 refine st hE (st_loadM hE hS ty56 rfl hp46) rfl ?_
 rintro v49 a _ ⟨rfl, hv48⟩ hE
 refine st hE (st_alloc hS Try.zeroValue56 rfl (cs := zc56)) rfl ?_
 rintro _ a w ⟨b50, rfl, hS⟩ hE
 refine st0 hE (st_storeF hE hS ty56 StF_self rfl rfl hv48 (i := 0) rfl (zr56 _)) ?_
 rintro _ w ⟨cs52, hc53, hS⟩ hE
 refine knil ?_
 refine kseq ?_
 refine kreg ?_
 refine sp hE (r_fieldL hE fo56_0 rfl) rfl fun a hE => ?_
 refine st hE (st_loadL hE hS ty3 rfl (i := 0) rfl (fl56_0.R_drop (R_whole hc53))) rfl ?_
 rintro v57 a _ ⟨rfl, hv56⟩ hE
 obtain ⟨rfl, hr58⟩ := RV_int hv56
 refine sp hE (r_bin hE rfl rfl (b_add rfl)) rfl fun a hE => ?_
 refine sp hE (r_fieldL hE fo56_0 rfl) rfl fun a hE => ?_
 refine st0 hE (st_storeF hE hS ty3 sf56_0 rfl rfl (RV_of_int (inR_wrap _ _)) (i := 0) rfl hc53) ?_
 rintro _ w ⟨cs61, hc62, hS⟩ hE
 refine knil ?_
 refine kseq ?_
 obtain ⟨x68, hx69, h⟩ := ob h
 obtain ⟨z71, hz72, h⟩ := ob h
 refine kchain (k := 9) (m := m35) (es := [0, 6]) (Φ := (fun i m ws v => match i with | 0 => v = (wi ws 0).v ∧ RV (kSl kHayloftref06_Run) m v ([]) | 1 => v = v15 | 2 => v = v15 | 3 => v = (.int .i64 (x14.length : Int)) ∧ inR .i64 (x14.length : Int) | 4 => v = (.int .i64 (IntKind.i64.wrap ((x14.length : Int) - 1))) ∧ inR .i64 (IntKind.i64.wrap ((x14.length : Int) - 1)) | 5 => RV (kSl kHayloftref06_Run) m v x68 | 6 => v = (wi ws 1).v ∧ RV (kSl kHayloftref06_Run) m v z71 | 7 => RV kHayloftref06_Run m v ({ x44 with fMany := IntKind.i64.wrap (x44.fMany + 1) }) | 8 => RV (kSl kHayloftref06_Run) m v ([{ x44 with fMany := IntKind.i64.wrap (x44.fMany + 1) }]) | _ => True)) (Q := (fun c m ws L' TL' => match c with | 0 => (b50, cs61) :: L = L' ∧ (5, v15) :: TL = TL' | 1 => (b50, cs61) :: L = L' ∧ (5, (wi ws 0).v) :: (5, v15) :: TL = TL' | 2 => (b50, cs61) :: L = L' ∧ (5, (wi ws 1).v) :: (5, v15) :: TL = TL' | _ => False)) (cs := [⟨0, 0, true, []⟩, ⟨0, 1, false, [(3, v15)]⟩, ⟨0, 1, false, [(3, v15)]⟩, ⟨0, 1, false, []⟩, ⟨0, 1, false, []⟩, ⟨0, 1, false, []⟩, ⟨1, 1, true, []⟩, ⟨0, 2, false, [(5, (.pointer (some ⟨b50, 0, none⟩)))]⟩, ⟨0, 2, false, []⟩]) mixed hE hS ⟨rfl, rfl⟩ rfl rfl ⟨trivial, ⟨rfl, trivial⟩, ⟨rfl, trivial⟩, trivial, trivial, trivial, trivial, ⟨rfl, trivial⟩, trivial, trivial⟩ (by kernel_rfl) ?_ ?_ ?_ ?_
 {
 intro i m_ m2_ ws v hm_ hp_
 match i, hp_ with
 | 0, hp_ => exact ⟨hp_.1, RV.mono hp_.2 hm_⟩
 | 1, hp_ => exact hp_
 | 2, hp_ => exact hp_
 | 3, hp_ => exact hp_
 | 4, hp_ => exact hp_
 | 5, hp_ => exact RV.mono hp_ hm_
 | 6, hp_ => exact ⟨hp_.1, RV.mono hp_.2 hm_⟩
 | 7, hp_ => exact RV.mono hp_ hm_
 | 8, hp_ => exact RV.mono hp_ hm_
 | _ + 9, hp_ => exact trivial
 }
 {
 intro c m_ m2_ ws L_ T_ hm_ hq_
 match c, hq_ with
 | 0, ⟨e1_, e2_⟩ => exact ⟨e1_, e2_⟩
 | 1, ⟨e1_, e2_⟩ => exact ⟨e1_, e2_⟩
 | 2, ⟨e1_, e2_⟩ => exact ⟨e1_, e2_⟩
 | _ + 3, hq_ => exact hq_.elim
 }
 {
 refine ⟨?_, ?_, ?_, ?_, ?_, ?_, ?_, ?_, ?_, trivial⟩
 {
 refine cturn fun pre_ L_ T_ m' a' w' hl' hm' hq' hS' hE' hT' => ?_
 obtain rfl := len0 hl'
 obtain ⟨rfl, rfl⟩ := hq'
 refine Step.imp (st_lit (k := kHayloftref06_Run) (xs := []) (vs := []) hE' hS' rfl Try.underlying50 Try.sizeOf56 Try.zeroValue56 trivial rfl (by decide)) ?_
 rintro vv67 w ⟨m65, hm66, hS, hv64⟩
 exact ⟨_, ⟨0, vv67, [], [], []⟩, _, _, hm66, hS, ⟨rfl, rfl⟩, ⟨rfl, hv64⟩⟩
 }
 {
 refine cplain fun pre_ post_ L_ T_ m' a' w' hl' hp' hm' hq' hS' hE' hT' => ?_
 obtain rfl := len0 hl'
 refine Step.imp (Run1.pure (r_move hE' rfl)) ?_
 rintro _ _ ⟨rfl, rfl⟩
 exact ⟨_, M.le.refl _, hS', rfl⟩
 }
 {
 refine cplain fun pre_ post_ L_ T_ m' a' w' hl' hp' hm' hq' hS' hE' hT' => ?_
 obtain rfl := len0 hl'
 refine Step.imp (Run1.pure (r_move hE' rfl)) ?_
 rintro _ _ ⟨rfl, rfl⟩
 exact ⟨_, M.le.refl _, hS', rfl⟩
 }
 {
 refine cplain fun pre_ post_ L_ T_ m' a' w' hl' hp' hm' hq' hS' hE' hT' => ?_
 obtain rfl := len0 hl'
 obtain ⟨v83, e84, q85⟩ : ∃ v, a'.tmps.getD 38 undef = v ∧ (v = v15) := ⟨_, rfl, hT' 2 (by decide) 38 rfl⟩
 have hE := hE'.add (e84.trans q85)
 refine Step.imp (Run1.pure (r_lenSl (k := kHayloftref06_Run) hE rfl rfl Try.underlying50 (hv16.mono (M.le.trans hm36 hm')))) ?_
 rintro _ _ ⟨rfl, rfl⟩
 exact ⟨_, M.le.refl _, hS', ⟨rfl, (inR_len (RV_len (hv16.mono (M.le.trans hm36 hm'))))⟩⟩
 }
 {
 refine cplain fun pre_ post_ L_ T_ m' a' w' hl' hp' hm' hq' hS' hE' hT' => ?_
 obtain rfl := len0 hl'
 obtain ⟨v87, e88, q89⟩ : ∃ v, a'.tmps.getD 39 undef = v ∧ (v = (.int .i64 (x14.length : Int)) ∧ inR .i64 (x14.length : Int)) := ⟨_, rfl, hT' 3 (by decide) 39 rfl⟩
 obtain ⟨q89, hr90⟩ := q89
 have hE := hE'.add (e88.trans q89)
 refine Step.imp (Run1.pure (r_bin hE rfl rfl (b_sub rfl))) ?_
 rintro _ _ ⟨rfl, rfl⟩
 exact ⟨_, M.le.refl _, hS', ⟨rfl, (inR_wrap _ _)⟩⟩
 }
 {
 refine cplain fun pre_ post_ L_ T_ m' a' w' hl' hp' hm' hq' hS' hE' hT' => ?_
 obtain rfl := len0 hl'
 obtain ⟨v92, e93, q94⟩ : ∃ v, a'.tmps.getD 37 undef = v ∧ (v = v15) := ⟨_, rfl, hT' 1 (by decide) 37 rfl⟩
 have hE := hE'.add (e93.trans q94)
 obtain ⟨v95, e96, q97⟩ : ∃ v, a'.tmps.getD 40 undef = v ∧ (v = (.int .i64 (IntKind.i64.wrap ((x14.length : Int) - 1))) ∧ inR .i64 (IntKind.i64.wrap ((x14.length : Int) - 1))) := ⟨_, rfl, hT' 4 (by decide) 40 rfl⟩
 obtain ⟨q97, hr98⟩ := q97
 have hE := hE.add (e96.trans q97)
 refine Step.imp (st_slice (k := kHayloftref06_Run) hE rfl Try.underlying50 Try.sizeOf56 (hv16.mono (M.le.trans hm36 hm')) rfl ⟨_, rfl⟩ hx69 (xl := none) (xh := (some (.tmp 40)))) ?_
 rintro v99 _ ⟨rfl, hv70⟩
 exact ⟨_, M.le.refl _, hS', hv70⟩
 }
 {
 refine cturn fun pre_ L_ T_ m' a' w' hl' hm' hq' hS' hE' hT' => ?_
 obtain ⟨⟨_, vv67, _, _, _⟩, rfl⟩ := len1 hl'
 obtain ⟨rfl, rfl⟩ := hq'
 obtain ⟨v100, e101, q102⟩ : ∃ v, a'.tmps.getD 36 undef = v ∧ (v = vv67 ∧ RV (kSl kHayloftref06_Run) m' v ([])) := ⟨_, rfl, hT' 0 (by decide) 36 rfl⟩
 obtain ⟨q103, q102⟩ := q102
 rw [q103] at q102
 have hE := hE'.add (e101.trans q103)
 obtain ⟨v104, e105, q106⟩ : ∃ v, a'.tmps.getD 41 undef = v ∧ (RV (kSl kHayloftref06_Run) m' v x68) := ⟨_, rfl, hT' 5 (by decide) 41 rfl⟩
 have hE := hE.add (e105)
 refine Step.imp (st_app (k := kHayloftref06_Run) (N := 2932031007402) hE hS' rfl rfl Try.underlying50 Try.underlying50 el56 (i := 0) rfl q102 q106 hz72 rfl rfl) ?_
 rintro vv76 w ⟨m74, hm75, hS, hv73⟩
 exact ⟨_, ⟨0, vv76, [], [], []⟩, _, _, hm75, hS, ⟨rfl, rfl⟩, ⟨rfl, hv73⟩⟩
 }
 {
 refine cplain fun pre_ post_ L_ T_ m' a' w' hl' hp' hm' hq' hS' hE' hT' => ?_
 obtain rfl := len0 hl'
 rcases lenle (a := 0) (n := 1) hp' with h0_ | h0_
 {
 obtain rfl := len0 h0_
 obtain ⟨rfl, rfl⟩ := hq'
 refine Step.imp (st_loadL hE' hS' ty56 rfl (i := 0) rfl (R_whole (kHayloftref06_Run.mono hm' hc62))) ?_
 rintro v107 _ ⟨rfl, hv77⟩
 exact ⟨_, M.le.refl _, hS', hv77⟩
 }
 {
 obtain ⟨⟨_, vv67, _, _, _⟩, post_', rfl, hp1_⟩ := h0_
 rcases lenle (a := 0) (n := 0) hp1_ with h0_ | h0_
 {
 obtain rfl := len0 h0_
 obtain ⟨rfl, rfl⟩ := hq'
 refine Step.imp (st_loadL hE' hS' ty56 rfl (i := 0) rfl (R_whole (kHayloftref06_Run.mono hm' hc62))) ?_
 rintro v108 _ ⟨rfl, hv77⟩
 exact ⟨_, M.le.refl _, hS', hv77⟩
 }
 {
 obtain ⟨⟨_, vv76, _, _, _⟩, post_'', rfl, hp2_⟩ := h0_
 obtain rfl := len0 (lenz (a := 0) hp2_)
 obtain ⟨rfl, rfl⟩ := hq'
 refine Step.imp (st_loadL hE' hS' ty56 rfl (i := 0) rfl (R_whole (kHayloftref06_Run.mono hm' hc62))) ?_
 rintro v109 _ ⟨rfl, hv77⟩
 exact ⟨_, M.le.refl _, hS', hv77⟩
 }
 }
 }
 {
 refine cplain fun pre_ post_ L_ T_ m' a' w' hl' hp' hm' hq' hS' hE' hT' => ?_
 obtain rfl := len0 hl'
 obtain ⟨v110, e111, q112⟩ : ∃ v, a'.tmps.getD 43 undef = v ∧ (RV kHayloftref06_Run m' v ({ x44 with fMany := IntKind.i64.wrap (x44.fMany + 1) })) := ⟨_, rfl, hT' 7 (by decide) 43 rfl⟩
 have hE := hE'.add (e111)
 refine Step.imp (st_lit (k := kHayloftref06_Run) (xs := [{ x44 with fMany := IntKind.i64.wrap (x44.fMany + 1) }]) (vs := [v110]) hE hS' rfl Try.underlying50 Try.sizeOf56 Try.zeroValue56 ⟨q112, trivial⟩ rfl (by decide)) ?_
 rintro v113 w ⟨m79, hm80, hS, hv78⟩
 exact ⟨_, hm80, (hS.dropT 1), hv78⟩
 }
 }
 {
 intro ws_ L_ T_ m114 a w hl115 hm116 hq117 hS hd118 hn119 ho120 hT121
 obtain ⟨⟨_, vv67, _, _, _⟩, ⟨_, vv76, _, _, _⟩, rfl⟩ := len2 hl115
 obtain ⟨rfl, rfl⟩ := hq117
 have hE := Env.of (k := 9) (l' := [(0, v0), (3, v15), (4, (.int .i64 x17)), (5, (.pointer (some ⟨b50, 0, none⟩))), (25, (.bool x37)), (26, v15), (27, v15), (28, (.int .i64 (x14.length : Int))), (29, (.int .i64 (IntKind.i64.wrap ((x14.length : Int) - 1)))), (30, v47), (31, v49), (32, (.pointer (some ⟨b50, 0, none⟩))), (33, (.int .i64 x44.fMany)), (34, (.int .i64 (IntKind.i64.wrap (x44.fMany + 1)))), (35, (.pointer (some ⟨b50, 0, none⟩)))]) hd118 hn119 ho120 ⟨rfl, rfl, rfl, rfl, rfl, rfl, rfl, rfl, rfl, rfl, rfl, rfl, rfl, rfl, rfl, trivial⟩ rfl
 obtain ⟨v122, e123, q124⟩ : ∃ v, a.tmps.getD 42 undef = v ∧ (v = vv76 ∧ RV (kSl kHayloftref06_Run) m114 v z71) := ⟨_, rfl, hT121 6 (by decide) 42 rfl⟩
 obtain ⟨q125, q124⟩ := q124
 rw [q125] at q124
 have hE := hE.add (e123.trans q125)
 obtain ⟨v126, e127, q128⟩ : ∃ v, a.tmps.getD 44 undef = v ∧ (RV (kSl kHayloftref06_Run) m114 v ([{ x44 with fMany := IntKind.i64.wrap (x44.fMany + 1) }])) := ⟨_, rfl, hT121 8 (by decide) 44 rfl⟩
 have hE := hE.add (e127)
 obtain ⟨z129, hz130, h⟩ := ob h
 refine st hE (st_app (k := kHayloftref06_Run) (N := 2932031007402) hE hS rfl rfl Try.underlying50 Try.underlying50 el56 (i := 0) rfl q124 q128 hz130 rfl rfl) rfl ?_
 rintro v134 a w ⟨m132, hm133, hS, hv131⟩ hE
 refine sp hE (r_assign hE rfl) rfl fun a hE => ?_
 refine knil ?_
 refine kexit rfl rfl ?_
 exact ⟨z129, h, _, (M.le.trans hm36 (M.le.trans hm116 hm133)), v134, hv131, ((hS.pickL 1 [] rfl rfl rfl).pickT 2 [0] rfl rfl rfl), hE.cut ⟨rfl, rfl, rfl, trivial⟩⟩
 }
 }
 {
 have h := ite_F hd39 h
 refine kskip ?_
 refine kreg ?_
 refine sp hE (r_move hE rfl) rfl fun a hE => ?_
 refine sp hE (r_move hE rfl) rfl fun a hE => ?_
 refine sp hE (r_move hE rfl) rfl fun a hE => ?_
 obtain ⟨x139, hx140, h⟩ := ob h
 refine st hE (st_index (k := kApi_Value) hE rfl rfl Try.underlying29 Try.sizeOf53 (ha0.mono (M.le.trans hm13 hm36)) hx140) rfl ?_
 rintro v142 a _ ⟨rfl, hp141⟩ hE
 refine st hE (st_loadM hE hS ty53 rfl hp141) rfl ?_
 rintro v144 a _ ⟨rfl, hv143⟩ hE
 refine st hE (st_build (m := m35) (k := kHayloftref06_Run) (x0 := Hayloftref06_Run.zero) (xx := (⟨1, x139⟩ : Hayloftref06_Run)) (pl := [(0, 1), (1, 4)]) (pv := [(0, (.int .i64 1)), (1, v144)]) hE rfl Try.underlying56 rfl Try.zeroValue56 zr56 rfl (.cons rfl sf56_0 (RV_of_int (show inR .i64 1 from inR_lit (by decide))) (.cons rfl sf56_1 hv143 .nil))) rfl ?_
 rintro v146 a _ ⟨rfl, hv145⟩ hE
 refine st hE (st_lit (k := kHayloftref06_Run) (xs := [(⟨1, x139⟩ : Hayloftref06_Run)]) (vs := [v146]) hE hS rfl Try.underlying50 Try.sizeOf56 Try.zeroValue56 ⟨hv145, trivial⟩ rfl (by decide)) rfl ?_
 rintro v150 a w ⟨m148, hm149, hS, hv147⟩ hE
 obtain ⟨z151, hz152, h⟩ := ob h
 refine st hE (st_app (k := kHayloftref06_Run) (N := 2932031007402) hE hS rfl rfl Try.underlying50 Try.underlying50 el56 (i := 1) rfl (hv16.mono (M.le.trans hm36 hm149)) hv147 hz152 rfl rfl) rfl ?_
 rintro v156 a w ⟨m154, hm155, hS, hv153⟩ hE
 refine sp hE (r_assign hE rfl) rfl fun a hE => ?_
 refine knil ?_
 exact ⟨z151, h, _, (M.le.trans hm36 (M.le.trans hm149 hm155)), v156, hv153, (hS.pickT 2 [1] rfl rfl rfl), hE.cut ⟨rfl, rfl, rfl, trivial⟩⟩
 }
 }
 }
 {
 rintro a w ⟨x28, h, m26, hm27, v29, hv30, hS, hE⟩
 unfold hayloftref06_Runs_j2 at h
 refine kreg ?_
 refine sp hE (r_move hE rfl) rfl fun a hE => ?_
 refine sp hE (r_bin hE rfl rfl (b_add rfl)) rfl fun a hE => ?_
 refine sp hE (r_assign hE rfl) rfl fun a hE => ?_
 refine knil ?_
 exact ⟨(x28, IntKind.i64.wrap (x17 + 1)), (Option.some.inj h).symm, _, (M.le.trans hm13 hm27), v29, hv30, (inR_wrap _ _), hS, hE.cut ⟨rfl, rfl, rfl, trivial⟩⟩
 }
 }
 {
 have h := ite_F hd25 h
 refine kexit rfl rfl ?_
 have h := unwrap h hb20
 exact ⟨x14, h, _, hm13, v15, hv16, hS, hE.cut ⟨rfl, trivial⟩⟩
 }
 }
 }
 {
 rintro a w ⟨x6, h, m4, hm5, v7, hv8, hS, hE⟩
 unfold hayloftref06_Runs_j1 at h
 refine kseq ?_
 refine kreg ?_
 refine sp hE (r_move hE rfl) rfl fun a hE => ?_
 refine sp hE (r_assign hE rfl) rfl fun a hE => ?_
 refine knil ?_
 refine kret ?_
 obtain rfl := Option.some.inj h
 try dsimp only
 refine Fin.mk (fn := Try.f28) hE (rs := [.tmp 2]) rfl (ResL.tmp hE rfl ResL.nil) ?_
 exact ⟨_, hm5, (hS.pickT 1 [0] rfl rfl rfl), hv8⟩
 }
/- 110 -/
/- 62 -/
/- 63 -/
/- 121 -/
/- 75 -/
/- 111 -/
/- 112 -/
/- 64 -/
/- 65 -/
/- 29 -/
/- 21 -/
/- 25 -/
theorem c_encode_Best {W0 : World} {m : M} {w : World} {L : List (Nat × List Value)} {TL : List (Nat × Value)} (hS : S W0 m w (L) (TL)) {v0 : Value} {p0 : (List Api_Value)} (ha0 : RV (kSl kApi_Value) m v0 p0) {r : Int} (h : encode_Best p0 = some r) :
    Calls Try.prog 25 [v0].toArray w (Ret fun v w' => ∃ m', M.le m m' ∧ S W0 m' w' (L) (TL) ∧ RV (kInt .i64) m' v r) := by
 refine kcall Try.func25 rfl Try.ntmps25 (Nat.le_of_ble_eq_true rfl) fun a hE => ?_
 have hE : Env 34 a [(0, v0)] := hE
 unfold encode_Best at h
 refine kseq ?_
 refine kreg ?_
 refine sp hE (r_assign hE rfl) rfl fun a hE => ?_
 refine knil ?_
 refine kseq ?_
 refine kreg ?_
 refine sp hE (r_assign hE rfl) rfl fun a hE => ?_
 refine sp hE (r_assign hE rfl) rfl fun a hE => ?_
 refine knil ?_
 refine kseq ?_
 refine kseq ?_
 refine kreg ?_
 refine sp hE (r_assign hE rfl) rfl fun a hE => ?_
 refine knil ?_
 refine kcut (fun a w => ∃ x7 : Int, encode_Best_j1 x7 = some r ∧ ∃ m', M.le m m' ∧ inR .i64 x7 ∧ S W0 m' w (L) (TL) ∧ Env 34 a [(3, (.int .i64 x7))]) ?_ ?_
 {
 refine kblock ?_
 refine kloop h (fun (s : (Int × Int × Int)) a w => ∃ m', M.le m m' ∧ inR .i64 s.1 ∧ inR .i64 s.2.1 ∧ inR .i64 s.2.2 ∧ S W0 m' w (L) (TL) ∧ Env 34 a [(0, v0), (3, (.int .i64 s.1)), (4, (.int .i64 s.2.1)), (5, (.int .i64 s.2.2))]) ?_ ?_
 {
 exact ⟨_, (M.le.refl _), (show inR .i64 0 from inR_lit (by decide)), (show inR .i64 (-1) from inR_lit (by decide)), (show inR .i64 0 from inR_lit (by decide)), hS, hE.cut ⟨rfl, rfl, rfl, rfl, trivial⟩⟩
 }
 {
 rintro ⟨x14, x16, x18⟩ a w ⟨m12, hm13, hr15, hr17, hr19, hS, hE⟩ r20 h hb21
 have h : encode_Best_b1 p0 x14 x16 x18 = some r20 := h
 unfold encode_Best_b1 at h
 refine kseq ?_
 refine kseq ?_
 refine kreg ?_
 refine sp hE (r_move hE rfl) rfl fun a hE => ?_
 refine sp hE (r_bin hE rfl rfl b_leq) rfl fun a hE => ?_
 refine knil ?_
 refine kif hE rfl (fun hd24 => ?_) (fun hd24 => ?_)
 {
 have h := ite_T hd24 h
 refine kskip ?_
 refine kseq ?_
 refine kblock ?_
 refine kseq ?_
 refine kreg ?_
 refine sp hE (r_move hE rfl) rfl fun a hE => ?_
 refine sp hE (r_move hE rfl) rfl fun a hE => ?_
 obtain ⟨r27, hr28, h⟩ := ob h
 refine st hE (st_call (vs := [(.int .i64 x18), v0]) hE rfl Try.call24 (c_encode_Encode (hS := hS) hr19 (ha0.mono hm13) hr28)) rfl ?_
 rintro _ a w ⟨m29, hm30, hS, v0_31, v1_32, rfl, hv0_33, hv1_34⟩ hE
 obtain ⟨rfl, hr36⟩ := RV_int hv1_34
 refine sp hE (r_move hE rfl) rfl fun a hE => ?_
 refine sp hE (r_extract hE rfl rfl) rfl fun a hE => ?_
 refine sp hE (r_extract hE rfl rfl) rfl fun a hE => ?_
 refine sp hE (r_assign hE rfl) rfl fun a hE => ?_
 refine sp hE (r_assign hE rfl) rfl fun a hE => ?_
 refine knil ?_
 refine kseq ?_
 refine kcut (fun a w => ∃ x44 : Bool, encode_Best_j2 x14 x16 x18 r27 x44 = some r20 ∧ ∃ m', M.le m29 m' ∧ S W0 m' w (L) (TL) ∧ Env 34 a [(0, v0), (3, (.int .i64 x14)), (4, (.int .i64 x16)), (5, (.int .i64 x18)), (6, v0_31), (29, (.bool x44))]) ?_ ?_
 {
 refine kreg ?_
 refine sp hE (r_move hE rfl) rfl fun a hE => ?_
 refine sp hE (r_bin hE rfl rfl b_eql) rfl fun a hE => ?_
 refine sp hE (r_move hE rfl) rfl fun a hE => ?_
 rcases Bool.eq_false_or_eq_true (r27.2 == 0) with hd65 | hd65
 {
 have h := ite_T hd65 h
 refine spg hE rfl rfl rfl rfl hd65 (r_move hE rfl) rfl fun a hE => ?_
 refine spg hE rfl rfl rfl rfl hd65 (r_bin hE rfl rfl b_lss) rfl fun a hE => ?_
 refine spg hE rfl rfl rfl rfl hd65 (r_move hE rfl) rfl fun a hE => ?_
 rcases Bool.eq_false_or_eq_true (decide (x16 < 0)) with hd69 | hd69
 {
 have h := ite_T hd69 h
 refine sx hE rfl rfl rfl rfl hd69 rfl fun a hE => ?_
 refine sx hE rfl rfl rfl rfl hd69 rfl fun a hE => ?_
 refine sx hE rfl rfl rfl rfl hd69 rfl fun a hE => ?_
 refine sx hE rfl rfl rfl rfl hd69 rfl fun a hE => ?_
 refine spg hE rfl rfl rfl rfl hd65 (r_pickT hE rfl hd69 rfl) rfl fun a hE => ?_
 refine sp hE (r_pickT hE rfl hd65 rfl) rfl fun a hE => ?_
 refine knil ?_
 exact ⟨true, h, _, (M.le.refl _), hS, hE.cut ⟨rfl, rfl, rfl, rfl, rfl, rfl, trivial⟩⟩
 }
 {
 have h := ite_F hd69 h
 refine spg hE rfl rfl rfl rfl hd69 (r_move hE rfl) rfl fun a hE => ?_
 refine spg hE rfl rfl rfl rfl hd69 (r_lenSl (k := (kInt .u8)) hE rfl rfl Try.underlying37 hv0_33) rfl fun a hE => ?_
 refine spg hE rfl rfl rfl rfl hd69 (r_move hE rfl) rfl fun a hE => ?_
 refine spg hE rfl rfl rfl rfl hd69 (r_bin hE rfl rfl b_lss) rfl fun a hE => ?_
 refine spg hE rfl rfl rfl rfl hd65 (r_pickF hE rfl hd69 rfl) rfl fun a hE => ?_
 refine sp hE (r_pickT hE rfl hd65 rfl) rfl fun a hE => ?_
 refine knil ?_
 exact ⟨(decide ((r27.1.length : Int) < x16)), h, _, (M.le.refl _), hS, hE.cut ⟨rfl, rfl, rfl, rfl, rfl, rfl, trivial⟩⟩
 }
 }
 {
 have h := ite_F hd65 h
 refine sx hE rfl rfl rfl rfl hd65 rfl fun a hE => ?_
 refine sx hE rfl rfl rfl rfl hd65 rfl fun a hE => ?_
 refine sx hE rfl rfl rfl rfl hd65 rfl fun a hE => ?_
 refine sxu hE rfl rfl rfl rfl fun a hE => ?_
 refine sxu hE rfl rfl rfl rfl fun a hE => ?_
 refine sxu hE rfl rfl rfl rfl fun a hE => ?_
 refine sxu hE rfl rfl rfl rfl fun a hE => ?_
 refine sx hE rfl rfl rfl rfl hd65 rfl fun a hE => ?_
 refine sp hE (r_pickF hE rfl hd65 rfl) rfl fun a hE => ?_
 refine knil ?_
 exact ⟨false, h, _, (M.le.refl _), hS, hE.cut ⟨rfl, rfl, rfl, rfl, rfl, rfl, trivial⟩⟩
 }
 }
 {
 rintro a w ⟨x44, h, m42, hm43, hS, hE⟩
 unfold encode_Best_j2 at h
 refine kcut (fun a w => ∃ x48 : Int, ∃ x50 : Int, encode_Best_j3 x18 x48 x50 = some r20 ∧ ∃ m', M.le m42 m' ∧ inR .i64 x48 ∧ inR .i64 x50 ∧ S W0 m' w (L) (TL) ∧ Env 34 a [(0, v0), (3, (.int .i64 x48)), (4, (.int .i64 x50)), (5, (.int .i64 x18))]) ?_ ?_
 {
 refine kif hE rfl (fun hd56 => ?_) (fun hd56 => ?_)
 {
 have h := ite_T hd56 h
 refine kreg ?_
 refine sp hE (r_move hE rfl) rfl fun a hE => ?_
 refine sp hE (r_move hE rfl) rfl fun a hE => ?_
 refine sp hE (r_lenSl (k := (kInt .u8)) hE rfl rfl Try.underlying37 (hv0_33.mono hm43)) rfl fun a hE => ?_
 refine sp hE (r_assign hE rfl) rfl fun a hE => ?_
 refine sp hE (r_assign hE rfl) rfl fun a hE => ?_
 refine knil ?_
 exact ⟨x18, (r27.1.length : Int), h, _, (M.le.refl _), hr19, (inR_len (RV_len (hv0_33.mono hm43))), hS, hE.cut ⟨rfl, rfl, rfl, rfl, trivial⟩⟩
 }
 {
 have h := ite_F hd56 h
 refine kskip ?_
 exact ⟨x14, x16, h, _, (M.le.refl _), hr15, hr17, hS, hE.cut ⟨rfl, rfl, rfl, rfl, trivial⟩⟩
 }
 }
 {
 rintro a w ⟨x48, x50, h, m46, hm47, hr49, hr51, hS, hE⟩
 unfold encode_Best_j3 at h
 refine kreg ?_
 refine sp hE (r_move hE rfl) rfl fun a hE => ?_
 refine sp hE (r_bin hE rfl rfl (b_add rfl)) rfl fun a hE => ?_
 refine sp hE (r_assign hE rfl) rfl fun a hE => ?_
 refine knil ?_
 exact ⟨(x48, x50, IntKind.i64.wrap (x18 + 1)), (Option.some.inj h).symm, _, (M.le.trans hm13 (M.le.trans hm30 (M.le.trans hm43 hm47))), hr49, hr51, (inR_wrap _ _), hS, hE.cut ⟨rfl, rfl, rfl, rfl, trivial⟩⟩
 }
 }
 }
 {
 have h := ite_F hd24 h
 refine kexit rfl rfl ?_
 have h := unwrap h hb21
 exact ⟨x14, h, _, hm13, hr15, hS, hE.cut ⟨rfl, trivial⟩⟩
 }
 }
 }
 {
 rintro a w ⟨x7, h, m5, hm6, hr8, hS, hE⟩
 unfold encode_Best_j1 at h
 refine kseq ?_
 refine kreg ?_
 refine sp hE (r_move hE rfl) rfl fun a hE => ?_
 refine sp hE (r_assign hE rfl) rfl fun a hE => ?_
 refine knil ?_
 refine kret ?_
 obtain rfl := Option.some.inj h
 try dsimp only
 refine Fin.mk (fn := Try.f25) hE (rs := [.tmp 2]) rfl (ResL.tmp hE rfl ResL.nil) ?_
 exact ⟨_, hm6, hS, (RV_of_int hr8)⟩
 }
/- 22 -/
theorem c_hayloftlaw06_alive {W0 : World} {m : M} {w : World} {L : List (Nat × List Value)} {TL : List (Nat × Value)} (hS : S W0 m w (L) (TL))  {r : Bool} (h : hayloftlaw06_alive = some r) :
    Calls Try.prog 22 [].toArray w (Ret fun v w' => ∃ m', M.le m m' ∧ S W0 m' w' (L) (TL) ∧ RV kBool m' v r) := by
 refine kcall Try.func22 rfl Try.ntmps22 (Nat.le_of_ble_eq_true rfl) fun a hE => ?_
 have hE : Env 47 a [] := hE
 unfold hayloftlaw06_alive at h
 refine kseq ?_
 refine kreg ?_
 refine sp hE (r_assign hE rfl) rfl fun a hE => ?_
 refine knil ?_
 refine kseq ?_
 refine kreg ?_
 refine st hE (st_build (m := m) (k := kApi_Value) (x0 := Api_Value.zero) (xx := (⟨2, false, 5, []⟩ : Api_Value)) (pl := [(0, 1), (1, 1), (2, 1), (3, 1)]) (pv := [(0, (.int .i64 2)), (2, (.int .i64 5))]) hE rfl Try.underlying53 rfl Try.zeroValue53 zr53 rfl (.cons rfl sf53_0 (RV_of_int (show inR .i64 2 from inR_lit (by decide))) (.cons rfl sf53_2 (RV_of_int (show inR .i64 5 from inR_lit (by decide))) .nil))) rfl ?_
 rintro v3 a _ ⟨rfl, hv2⟩ hE
 refine st hE (st_build (m := m) (k := kApi_Value) (x0 := Api_Value.zero) (xx := (⟨2, false, 5, []⟩ : Api_Value)) (pl := [(0, 1), (1, 1), (2, 1), (3, 1)]) (pv := [(0, (.int .i64 2)), (2, (.int .i64 5))]) hE rfl Try.underlying53 rfl Try.zeroValue53 zr53 rfl (.cons rfl sf53_0 (RV_of_int (show inR .i64 2 from inR_lit (by decide))) (.cons rfl sf53_2 (RV_of_int (show inR .i64 5 from inR_lit (by decide))) .nil))) rfl ?_
 rintro v5 a _ ⟨rfl, hv4⟩ hE
 refine st hE (st_build (m := m) (k := kApi_Value) (x0 := Api_Value.zero) (xx := (⟨2, false, 5, []⟩ : Api_Value)) (pl := [(0, 1), (1, 1), (2, 1), (3, 1)]) (pv := [(0, (.int .i64 2)), (2, (.int .i64 5))]) hE rfl Try.underlying53 rfl Try.zeroValue53 zr53 rfl (.cons rfl sf53_0 (RV_of_int (show inR .i64 2 from inR_lit (by decide))) (.cons rfl sf53_2 (RV_of_int (show inR .i64 5 from inR_lit (by decide))) .nil))) rfl ?_
 rintro v7 a _ ⟨rfl, hv6⟩ hE
 refine st hE (st_lit (k := kApi_Value) (xs := [(⟨2, false, 5, []⟩ : Api_Value), (⟨2, false, 5, []⟩ : Api_Value), (⟨2, false, 5, []⟩ : Api_Value)]) (vs := [v3, v5, v7]) hE hS rfl Try.underlying29 Try.sizeOf53 Try.zeroValue53 ⟨hv2, hv4, hv6, trivial⟩ rfl (by decide)) rfl ?_
 rintro v11 a w ⟨m9, hm10, hS, hv8⟩ hE
 refine sp hE (r_assign hE rfl) rfl fun a hE => ?_
 refine knil ?_
 refine kseq ?_
 refine kreg ?_
 refine sp hE (r_move hE rfl) rfl fun a hE => ?_
 obtain ⟨r14, hr15, h⟩ := ob h
 refine st hE (st_call (vs := [(.int .i64 1), v11]) hE rfl Try.call24 (c_encode_Encode (hS := hS) (show inR .i64 1 from inR_lit (by decide)) hv8 hr15)) rfl ?_
 rintro _ a w ⟨m16, hm17, hS, v0_18, v1_19, rfl, hv0_20, hv1_21⟩ hE
 obtain ⟨rfl, hr23⟩ := RV_int hv1_21
 refine sp hE (r_move hE rfl) rfl fun a hE => ?_
 refine sp hE (r_extract hE rfl rfl) rfl fun a hE => ?_
 refine sp hE (r_extract hE rfl rfl) rfl fun a hE => ?_
 refine sp hE (r_assign hE rfl) rfl fun a hE => ?_
 refine sp hE (r_assign hE rfl) rfl fun a hE => ?_
 refine knil ?_
 refine kseq ?_
 refine kreg ?_
 refine sp hE (r_move hE rfl) rfl fun a hE => ?_
 obtain ⟨r30, hr31, h⟩ := ob h
 refine st hE (st_call (vs := [(.int .i64 1), v0_18, (.int .i64 3)]) hE rfl Try.call20 (c_encode_Decode (hS := hS) (show inR .i64 1 from inR_lit (by decide)) hv0_20 (show inR .i64 3 from inR_lit (by decide)) hr31)) rfl ?_
 rintro _ a w ⟨m32, hm33, hS, v0_34, v1_35, rfl, hv0_36, hv1_37⟩ hE
 obtain ⟨rfl, hr39⟩ := RV_int hv1_37
 refine sp hE (r_move hE rfl) rfl fun a hE => ?_
 refine sp hE (r_extract hE rfl rfl) rfl fun a hE => ?_
 refine sp hE (r_extract hE rfl rfl) rfl fun a hE => ?_
 refine sp hE (r_assign hE rfl) rfl fun a hE => ?_
 refine sp hE (r_assign hE rfl) rfl fun a hE => ?_
 refine knil ?_
 refine kseq ?_
 refine kcut (fun a w => ∃ x47 : Bool, hayloftlaw06_alive_j1 x47 = some r ∧ ∃ m', M.le m32 m' ∧ S W0 m' w (L) (TL) ∧ Env 47 a [(0, (.bool x47))]) ?_ ?_
 {
 refine kreg ?_
 refine sp hE (r_move hE rfl) rfl fun a hE => ?_
 refine sp hE (r_bin hE rfl rfl b_eql) rfl fun a hE => ?_
 refine sp hE (r_move hE rfl) rfl fun a hE => ?_
 rcases Bool.eq_false_or_eq_true (r14.2 == 0) with hd52 | hd52
 {
 have h := ite_T hd52 h
 refine spg hE rfl rfl rfl rfl hd52 (r_move hE rfl) rfl fun a hE => ?_
 refine spg hE rfl rfl rfl rfl hd52 (r_lenSl (k := (kInt .u8)) hE rfl rfl Try.underlying37 (hv0_20.mono hm33)) rfl fun a hE => ?_
 refine spg hE rfl rfl rfl rfl hd52 (r_bin hE rfl rfl b_eql) rfl fun a hE => ?_
 refine sp hE (r_pickT hE rfl hd52 rfl) rfl fun a hE => ?_
 refine sp hE (r_move hE rfl) rfl fun a hE => ?_
 rcases Bool.eq_false_or_eq_true ((r14.1.length : Int) == 10) with hd58 | hd58
 {
 have h := ite_T hd58 h
 refine spg hE rfl rfl rfl rfl hd58 (r_move hE rfl) rfl fun a hE => ?_
 obtain ⟨x60, hx61, h⟩ := ob h
 refine stg hE rfl rfl rfl rfl hd58 (st_index (k := (kInt .u8)) hE rfl rfl Try.underlying37 Try.sizeOf5 (hv0_20.mono hm33) hx61) rfl ?_
 rintro v63 a _ ⟨rfl, hp62⟩ hE
 refine stg hE rfl rfl rfl rfl hd58 (st_loadM hE hS ty5 rfl hp62) rfl ?_
 rintro v65 a _ ⟨rfl, hv64⟩ hE
 obtain ⟨rfl, hr66⟩ := RV_int hv64
 refine spg hE rfl rfl rfl rfl hd58 (r_bin hE rfl rfl b_eql) rfl fun a hE => ?_
 refine sp hE (r_pickT hE rfl hd58 rfl) rfl fun a hE => ?_
 refine sp hE (r_move hE rfl) rfl fun a hE => ?_
 rcases Bool.eq_false_or_eq_true (x60 == 3) with hd70 | hd70
 {
 have h := ite_T hd70 h
 refine spg hE rfl rfl rfl rfl hd70 (r_move hE rfl) rfl fun a hE => ?_
 refine spg hE rfl rfl rfl rfl hd70 (r_bin hE rfl rfl b_eql) rfl fun a hE => ?_
 refine sp hE (r_pickT hE rfl hd70 rfl) rfl fun a hE => ?_
 refine sp hE (r_move hE rfl) rfl fun a hE => ?_
 rcases Bool.eq_false_or_eq_true (r30.2 == 0) with hd75 | hd75
 {
 have h := ite_T hd75 h
 refine spg hE rfl rfl rfl rfl hd75 (r_move hE rfl) rfl fun a hE => ?_
 refine spg hE rfl rfl rfl rfl hd75 (r_lenSl (k := kApi_Value) hE rfl rfl Try.underlying29 hv0_36) rfl fun a hE => ?_
 refine spg hE rfl rfl rfl rfl hd75 (r_bin hE rfl rfl b_eql) rfl fun a hE => ?_
 refine sp hE (r_pickT hE rfl hd75 rfl) rfl fun a hE => ?_
 refine sp hE (r_move hE rfl) rfl fun a hE => ?_
 rcases Bool.eq_false_or_eq_true ((r30.1.length : Int) == 3) with hd81 | hd81
 {
 have h := ite_T hd81 h
 refine spg hE rfl rfl rfl rfl hd81 (r_move hE rfl) rfl fun a hE => ?_
 obtain ⟨r83, hr84, h⟩ := ob h
 refine stg hE rfl rfl rfl rfl hd81 (st_call (vs := [v11]) hE rfl Try.call25 (c_encode_Best (hS := hS) (hv8.mono (M.le.trans hm17 hm33)) hr84)) rfl ?_
 rintro v88 a w ⟨m85, hm86, hS, hv87⟩ hE
 obtain ⟨rfl, hr89⟩ := RV_int hv87
 refine spg hE rfl rfl rfl rfl hd81 (r_bin hE rfl rfl b_eql) rfl fun a hE => ?_
 refine sp hE (r_pickT hE rfl hd81 rfl) rfl fun a hE => ?_
 refine sp hE (r_assign hE rfl) rfl fun a hE => ?_
 refine knil ?_
 exact ⟨(r83 == 4), h, _, hm86, (hS.pickT 1 [] rfl rfl rfl), hE.cut ⟨rfl, trivial⟩⟩
 }
 {
 have h := ite_F hd81 h
 refine sx hE rfl rfl rfl rfl hd81 rfl fun a hE => ?_
 refine sx hE rfl rfl rfl rfl hd81 rfl fun a hE => ?_
 refine sx hE rfl rfl rfl rfl hd81 rfl fun a hE => ?_
 refine sp hE (r_pickF hE rfl hd81 rfl) rfl fun a hE => ?_
 refine sp hE (r_assign hE rfl) rfl fun a hE => ?_
 refine knil ?_
 exact ⟨false, h, _, (M.le.refl _), (hS.pickT 1 [] rfl rfl rfl), hE.cut ⟨rfl, trivial⟩⟩
 }
 }
 {
 have h := ite_F hd75 h
 refine sx hE rfl rfl rfl rfl hd75 rfl fun a hE => ?_
 refine sx hE rfl rfl rfl rfl hd75 rfl fun a hE => ?_
 refine sx hE rfl rfl rfl rfl hd75 rfl fun a hE => ?_
 refine sp hE (r_pickF hE rfl hd75 rfl) rfl fun a hE => ?_
 refine sp hE (r_move hE rfl) rfl fun a hE => ?_
 refine sx hE rfl rfl rfl rfl rfl rfl fun a hE => ?_
 refine sx hE rfl rfl rfl rfl rfl rfl fun a hE => ?_
 refine sx hE rfl rfl rfl rfl rfl rfl fun a hE => ?_
 refine sp hE (r_pickF hE rfl rfl rfl) rfl fun a hE => ?_
 refine sp hE (r_assign hE rfl) rfl fun a hE => ?_
 refine knil ?_
 exact ⟨false, h, _, (M.le.refl _), (hS.pickT 1 [] rfl rfl rfl), hE.cut ⟨rfl, trivial⟩⟩
 }
 }
 {
 have h := ite_F hd70 h
 refine sx hE rfl rfl rfl rfl hd70 rfl fun a hE => ?_
 refine sx hE rfl rfl rfl rfl hd70 rfl fun a hE => ?_
 refine sp hE (r_pickF hE rfl hd70 rfl) rfl fun a hE => ?_
 refine sp hE (r_move hE rfl) rfl fun a hE => ?_
 refine sx hE rfl rfl rfl rfl rfl rfl fun a hE => ?_
 refine sx hE rfl rfl rfl rfl rfl rfl fun a hE => ?_
 refine sx hE rfl rfl rfl rfl rfl rfl fun a hE => ?_
 refine sp hE (r_pickF hE rfl rfl rfl) rfl fun a hE => ?_
 refine sp hE (r_move hE rfl) rfl fun a hE => ?_
 refine sx hE rfl rfl rfl rfl rfl rfl fun a hE => ?_
 refine sx hE rfl rfl rfl rfl rfl rfl fun a hE => ?_
 refine sx hE rfl rfl rfl rfl rfl rfl fun a hE => ?_
 refine sp hE (r_pickF hE rfl rfl rfl) rfl fun a hE => ?_
 refine sp hE (r_assign hE rfl) rfl fun a hE => ?_
 refine knil ?_
 exact ⟨false, h, _, (M.le.refl _), (hS.pickT 1 [] rfl rfl rfl), hE.cut ⟨rfl, trivial⟩⟩
 }
 }
 {
 have h := ite_F hd58 h
 refine sx hE rfl rfl rfl rfl hd58 rfl fun a hE => ?_
 refine sx hE rfl rfl rfl rfl hd58 rfl fun a hE => ?_
 refine sx hE rfl rfl rfl rfl hd58 rfl fun a hE => ?_
 refine sx hE rfl rfl rfl rfl hd58 rfl fun a hE => ?_
 refine sp hE (r_pickF hE rfl hd58 rfl) rfl fun a hE => ?_
 refine sp hE (r_move hE rfl) rfl fun a hE => ?_
 refine sx hE rfl rfl rfl rfl rfl rfl fun a hE => ?_
 refine sx hE rfl rfl rfl rfl rfl rfl fun a hE => ?_
 refine sp hE (r_pickF hE rfl rfl rfl) rfl fun a hE => ?_
 refine sp hE (r_move hE rfl) rfl fun a hE => ?_
 refine sx hE rfl rfl rfl rfl rfl rfl fun a hE => ?_
 refine sx hE rfl rfl rfl rfl rfl rfl fun a hE => ?_
 refine sx hE rfl rfl rfl rfl rfl rfl fun a hE => ?_
 refine sp hE (r_pickF hE rfl rfl rfl) rfl fun a hE => ?_
 refine sp hE (r_move hE rfl) rfl fun a hE => ?_
 refine sx hE rfl rfl rfl rfl rfl rfl fun a hE => ?_
 refine sx hE rfl rfl rfl rfl rfl rfl fun a hE => ?_
 refine sx hE rfl rfl rfl rfl rfl rfl fun a hE => ?_
 refine sp hE (r_pickF hE rfl rfl rfl) rfl fun a hE => ?_
 refine sp hE (r_assign hE rfl) rfl fun a hE => ?_
 refine knil ?_
 exact ⟨false, h, _, (M.le.refl _), (hS.pickT 1 [] rfl rfl rfl), hE.cut ⟨rfl, trivial⟩⟩
 }
 }
 {
 have h := ite_F hd52 h
 refine sx hE rfl rfl rfl rfl hd52 rfl fun a hE => ?_
 refine sx hE rfl rfl rfl rfl hd52 rfl fun a hE => ?_
 refine sx hE rfl rfl rfl rfl hd52 rfl fun a hE => ?_
 refine sp hE (r_pickF hE rfl hd52 rfl) rfl fun a hE => ?_
 refine sp hE (r_move hE rfl) rfl fun a hE => ?_
 refine sx hE rfl rfl rfl rfl rfl rfl fun a hE => ?_
 refine sx hE rfl rfl rfl rfl rfl rfl fun a hE => ?_
 refine sx hE rfl rfl rfl rfl rfl rfl fun a hE => ?_
 refine sx hE rfl rfl rfl rfl rfl rfl fun a hE => ?_
 refine sp hE (r_pickF hE rfl rfl rfl) rfl fun a hE => ?_
 refine sp hE (r_move hE rfl) rfl fun a hE => ?_
 refine sx hE rfl rfl rfl rfl rfl rfl fun a hE => ?_
 refine sx hE rfl rfl rfl rfl rfl rfl fun a hE => ?_
 refine sp hE (r_pickF hE rfl rfl rfl) rfl fun a hE => ?_
 refine sp hE (r_move hE rfl) rfl fun a hE => ?_
 refine sx hE rfl rfl rfl rfl rfl rfl fun a hE => ?_
 refine sx hE rfl rfl rfl rfl rfl rfl fun a hE => ?_
 refine sx hE rfl rfl rfl rfl rfl rfl fun a hE => ?_
 refine sp hE (r_pickF hE rfl rfl rfl) rfl fun a hE => ?_
 refine sp hE (r_move hE rfl) rfl fun a hE => ?_
 refine sx hE rfl rfl rfl rfl rfl rfl fun a hE => ?_
 refine sx hE rfl rfl rfl rfl rfl rfl fun a hE => ?_
 refine sx hE rfl rfl rfl rfl rfl rfl fun a hE => ?_
 refine sp hE (r_pickF hE rfl rfl rfl) rfl fun a hE => ?_
 refine sp hE (r_assign hE rfl) rfl fun a hE => ?_
 refine knil ?_
 exact ⟨false, h, _, (M.le.refl _), (hS.pickT 1 [] rfl rfl rfl), hE.cut ⟨rfl, trivial⟩⟩
 }
 }
 {
 rintro a w ⟨x47, h, m45, hm46, hS, hE⟩
 unfold hayloftlaw06_alive_j1 at h
 refine kret ?_
 obtain rfl := Option.some.inj h
 try dsimp only
 refine Fin.mk (fn := Try.f22) hE (rs := [.tmp 0]) rfl (ResL.tmp hE rfl ResL.nil) ?_
 exact ⟨_, (M.le.trans hm10 (M.le.trans hm17 (M.le.trans hm33 hm46))), hS, RV_of_bool⟩
 }
/- 23 -/
/- 4 -/
/- 5 -/
/- 26 -/
/- 6 -/
end Go.Proofs.Ytifobhaccglckaa.Hay
