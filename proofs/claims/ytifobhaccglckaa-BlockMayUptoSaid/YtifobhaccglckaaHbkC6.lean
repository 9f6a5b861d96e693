import Derived.Test.YtifobhaccglckaaHbkC5
set_option maxRecDepth 100000
set_option maxHeartbeats 4000000
set_option linter.unusedVariables false
namespace Go.Proofs.Ytifobhaccglckaa.Hay
open Go.Proofs
theorem c_hayloftref07_Head {W0 : Bse} {m : M} {w : World} {L : List (Nat × List Value)} {TL : List (Nat × Value)} (hS : S W0 m w (L) (TL)) {v0 : Value} {p0 : (List Int)} (ha0 : RV (kSl (kInt .u8)) m v0 p0) {r : (Hayloftref07_Info × Int × Int)} (h : hayloftref07_Head p0 = some r) :
    Calls Try.prog 36 [v0].toArray w (Ret fun v w' => ∃ m', M.le m m' ∧ S W0 m' w' (L) (TL) ∧ ∃ v0_ v1_ v2_ : Value, v = .tuple #[v0_, v1_, v2_] ∧ RV kHayloftref07_Info m' v0_ r.1 ∧ RV (kInt .i64) m' v1_ r.2.1 ∧ RV (kInt .i64) m' v2_ r.2.2) := by
 refine kcall Try.func36 rfl Try.ntmps36 (Nat.le_of_ble_eq_true rfl) fun a hE => ?_
 have hE : Env 111 a [(0, v0)] := hE
 unfold hayloftref07_Head at h
 refine kseq (kreg ?_)
 refine st hE (st_alloc hS Try.zeroValue72 rfl (cs := zc72)) rfl ?_
 rintro _ a w ⟨b1, rfl, hS⟩ hE
 refine qa hE rfl rfl fun a hE => ?_
 refine qa hE rfl rfl fun a hE => ?_
 refine knil (kseq (kseq ?_))
 refine kcut (fun a w => ∃ x7 : Bool, hayloftref07_Head_j1 p0 x7 = some r ∧ ∃ m', M.le m m' ∧ S W0 m' w ((b1, zc72) :: L) (TL) ∧ Env 111 a [(0, v0), (2, (.pointer (some ⟨b1, 0, none⟩))), (40, (.bool x7))]) ?_ ?_
 {
 rcases Bool.eq_false_or_eq_true (decide ((p0.length : Int) < 3)) with hd258 | hd258
 {
 have h := ite_T hd258 h
 refine kchain (k := 28) (m := m) (es := []) (Φ := (fun i m ws v => match i with | 0 => v = v0 | 1 => v = (.int .i64 (p0.length : Int)) ∧ inR .i64 (p0.length : Int) | 2 => v = (.bool (decide ((p0.length : Int) < 3))) | 3 => v = (.bool (decide ((p0.length : Int) < 3))) | 4 => v = undef | 5 => v = undef | 6 => v = undef | 7 => v = undef | 8 => v = (.bool true) | 9 => v = (.bool true) | 10 => v = undef | 11 => v = undef | 12 => v = undef | 13 => v = undef | 14 => v = (.bool true) | 15 => v = (.bool true) | 16 => v = undef | 17 => v = undef | 18 => v = undef | 19 => v = undef | 20 => v = (.bool true) | 21 => v = (.bool true) | 22 => v = undef | 23 => v = undef | 24 => v = undef | 25 => v = undef | 26 => v = undef | 27 => v = undef | _ => True)) (Q := (fun c m ws L' TL' => match c with | 0 => (b1, zc72) :: L = L' ∧ TL = TL' | _ => False)) (cs := [⟨0, 0, false, [(0, v0)]⟩, ⟨0, 0, false, []⟩, ⟨0, 0, false, []⟩, ⟨0, 0, false, []⟩, ⟨0, 0, false, [(0, v0)]⟩, ⟨0, 0, false, []⟩, ⟨0, 0, false, []⟩, ⟨0, 0, false, []⟩, ⟨0, 0, false, []⟩, ⟨0, 0, false, []⟩, ⟨0, 0, false, [(0, v0)]⟩, ⟨0, 0, false, []⟩, ⟨0, 0, false, []⟩, ⟨0, 0, false, []⟩, ⟨0, 0, false, []⟩, ⟨0, 0, false, []⟩, ⟨0, 0, false, [(0, v0)]⟩, ⟨0, 0, false, []⟩, ⟨0, 0, false, []⟩, ⟨0, 0, false, []⟩, ⟨0, 0, false, []⟩, ⟨0, 0, false, []⟩, ⟨0, 0, false, [(0, v0)]⟩, ⟨0, 0, false, []⟩, ⟨0, 0, false, []⟩, ⟨0, 0, false, [(0, v0)]⟩, ⟨0, 0, false, []⟩, ⟨0, 0, false, []⟩]) mixed hE hS ⟨rfl, rfl⟩ rfl rfl ⟨⟨rfl, trivial⟩, trivial, trivial, trivial, ⟨rfl, trivial⟩, trivial, trivial, trivial, trivial, trivial, ⟨rfl, trivial⟩, trivial, trivial, trivial, trivial, trivial, ⟨rfl, trivial⟩, trivial, trivial, trivial, trivial, trivial, ⟨rfl, trivial⟩, trivial, trivial, ⟨rfl, trivial⟩, trivial, trivial, trivial⟩ (by kernel_rfl) ?_ ?_ ?_ ?_
 {
 intro i m_ m2_ ws v hm_ hp_
 match i, hp_ with
 | 0, hp_ => exact hp_
 | 1, hp_ => exact hp_
 | 2, hp_ => exact hp_
 | 3, hp_ => exact hp_
 | 4, hp_ => exact hp_
 | 5, hp_ => exact hp_
 | 6, hp_ => exact hp_
 | 7, hp_ => exact hp_
 | 8, hp_ => exact hp_
 | 9, hp_ => exact hp_
 | 10, hp_ => exact hp_
 | 11, hp_ => exact hp_
 | 12, hp_ => exact hp_
 | 13, hp_ => exact hp_
 | 14, hp_ => exact hp_
 | 15, hp_ => exact hp_
 | 16, hp_ => exact hp_
 | 17, hp_ => exact hp_
 | 18, hp_ => exact hp_
 | 19, hp_ => exact hp_
 | 20, hp_ => exact hp_
 | 21, hp_ => exact hp_
 | 22, hp_ => exact hp_
 | 23, hp_ => exact hp_
 | 24, hp_ => exact hp_
 | 25, hp_ => exact hp_
 | 26, hp_ => exact hp_
 | 27, hp_ => exact hp_
 | _ + 28, hp_ => exact trivial
 }
 {
 intro c m_ m2_ ws L_ T_ hm_ hq_
 match c, hq_ with
 | 0, ⟨e1_, e2_⟩ => exact ⟨e1_, e2_⟩
 | _ + 1, hq_ => exact hq_.elim
 }
 {
 refine ⟨?_, ?_, ?_, ?_, ?_, ?_, ?_, ?_, ?_, ?_, ?_, ?_, ?_, ?_, ?_, ?_, ?_, ?_, ?_, ?_, ?_, ?_, ?_, ?_, ?_, ?_, ?_, ?_, trivial⟩
 {
 refine cplain fun pre_ post_ L_ T_ m' a' w' hl' hp' hm' hq' hS' hE' hT' => ?_
 obtain rfl := len0 hl'
 refine Step.imp (Run1.pure (r_move hE' rfl)) ?_
 rintro _ _ ⟨rfl, rfl⟩
 exact ⟨_, M.le.refl _, hS', rfl⟩
 }
 {
 refine cplain fun pre_ post_ L_ T_ m' a' w' hl' hp' hm' hq' hS' hE' hT' => ?_
 obtain rfl := len0 hl'
 obtain ⟨v260, e261, q262⟩ : ∃ v, a'.tmps.getD 11 undef = v ∧ (v = v0) := ⟨_, rfl, hT' 0 (by decide) 11 rfl⟩
 have hE := hE'.add (e261.trans q262)
 refine Step.imp (Run1.pure (r_lenSl (k := (kInt .u8)) hE rfl rfl Try.underlying37 (ha0.mono hm'))) ?_
 rintro _ _ ⟨rfl, rfl⟩
 exact ⟨_, M.le.refl _, hS', ⟨rfl, (inR_len (RV_len (ha0.mono hm')))⟩⟩
 }
 {
 refine cplain fun pre_ post_ L_ T_ m' a' w' hl' hp' hm' hq' hS' hE' hT' => ?_
 obtain rfl := len0 hl'
 obtain ⟨v264, e265, q266⟩ : ∃ v, a'.tmps.getD 12 undef = v ∧ (v = (.int .i64 (p0.length : Int)) ∧ inR .i64 (p0.length : Int)) := ⟨_, rfl, hT' 1 (by decide) 12 rfl⟩
 obtain ⟨q266, hr267⟩ := q266
 have hE := hE'.add (e265.trans q266)
 refine Step.imp (Run1.pure (r_bin hE rfl rfl b_lss)) ?_
 rintro _ _ ⟨rfl, rfl⟩
 exact ⟨_, M.le.refl _, hS', rfl⟩
 }
 {
 refine cplain fun pre_ post_ L_ T_ m' a' w' hl' hp' hm' hq' hS' hE' hT' => ?_
 obtain rfl := len0 hl'
 obtain ⟨v269, e270, q271⟩ : ∃ v, a'.tmps.getD 13 undef = v ∧ (v = (.bool (decide ((p0.length : Int) < 3)))) := ⟨_, rfl, hT' 2 (by decide) 13 rfl⟩
 have hE := hE'.add (e270.trans q271)
 refine Step.imp (Run1.pure (r_move hE rfl)) ?_
 rintro _ _ ⟨rfl, rfl⟩
 exact ⟨_, M.le.refl _, hS', rfl⟩
 }
 {
 exact cskip (b := true) rfl rfl (by decide) (fun _ _ _ h_ => Eq.trans h_ (cb hd258)) (by decide) (fun _ _ => rfl)
 }
 {
 exact cskip (b := true) rfl rfl (by decide) (fun _ _ _ h_ => Eq.trans h_ (cb hd258)) (by decide) (fun _ _ => rfl)
 }
 {
 exact cskip (b := true) rfl rfl (by decide) (fun _ _ _ h_ => Eq.trans h_ (cb hd258)) (by decide) (fun _ _ => rfl)
 }
 {
 exact cskip (b := true) rfl rfl (by decide) (fun _ _ _ h_ => Eq.trans h_ (cb hd258)) (by decide) (fun _ _ => rfl)
 }
 {
 refine cplain fun pre_ post_ L_ T_ m' a' w' hl' hp' hm' hq' hS' hE' hT' => ?_
 obtain rfl := len0 hl'
 obtain ⟨v273, e274, q275⟩ : ∃ v, a'.tmps.getD 14 undef = v ∧ (v = (.bool (decide ((p0.length : Int) < 3)))) := ⟨_, rfl, hT' 3 (by decide) 14 rfl⟩
 have hE := hE'.add (e274.trans q275)
 obtain ⟨v276, e277, q278⟩ : ∃ v, a'.tmps.getD 18 undef = v ∧ (v = undef) := ⟨_, rfl, hT' 7 (by decide) 18 rfl⟩
 have hE := hE.add (e277.trans q278)
 refine Step.imp (Run1.pure (r_pickT hE rfl hd258 rfl)) ?_
 rintro _ _ ⟨rfl, rfl⟩
 exact ⟨_, M.le.refl _, hS', rfl⟩
 }
 {
 refine cplain fun pre_ post_ L_ T_ m' a' w' hl' hp' hm' hq' hS' hE' hT' => ?_
 obtain rfl := len0 hl'
 obtain ⟨v280, e281, q282⟩ : ∃ v, a'.tmps.getD 19 undef = v ∧ (v = (.bool true)) := ⟨_, rfl, hT' 8 (by decide) 19 rfl⟩
 have hE := hE'.add (e281.trans q282)
 refine Step.imp (Run1.pure (r_move hE rfl)) ?_
 rintro _ _ ⟨rfl, rfl⟩
 exact ⟨_, M.le.refl _, hS', rfl⟩
 }
 {
 exact cskip (b := true) rfl rfl (by decide) (fun _ _ _ h_ => Eq.trans h_ (cb rfl)) (by decide) (fun _ _ => rfl)
 }
 {
 exact cskip (b := true) rfl rfl (by decide) (fun _ _ _ h_ => Eq.trans h_ (cb rfl)) (by decide) (fun _ _ => rfl)
 }
 {
 exact cskip (b := true) rfl rfl (by decide) (fun _ _ _ h_ => Eq.trans h_ (cb rfl)) (by decide) (fun _ _ => rfl)
 }
 {
 exact cskip (b := true) rfl rfl (by decide) (fun _ _ _ h_ => Eq.trans h_ (cb rfl)) (by decide) (fun _ _ => rfl)
 }
 {
 refine cplain fun pre_ post_ L_ T_ m' a' w' hl' hp' hm' hq' hS' hE' hT' => ?_
 obtain rfl := len0 hl'
 obtain ⟨v284, e285, q286⟩ : ∃ v, a'.tmps.getD 20 undef = v ∧ (v = (.bool true)) := ⟨_, rfl, hT' 9 (by decide) 20 rfl⟩
 have hE := hE'.add (e285.trans q286)
 obtain ⟨v287, e288, q289⟩ : ∃ v, a'.tmps.getD 24 undef = v ∧ (v = undef) := ⟨_, rfl, hT' 13 (by decide) 24 rfl⟩
 have hE := hE.add (e288.trans q289)
 refine Step.imp (Run1.pure (r_pickT hE rfl rfl rfl)) ?_
 rintro _ _ ⟨rfl, rfl⟩
 exact ⟨_, M.le.refl _, hS', rfl⟩
 }
 {
 refine cplain fun pre_ post_ L_ T_ m' a' w' hl' hp' hm' hq' hS' hE' hT' => ?_
 obtain rfl := len0 hl'
 obtain ⟨v291, e292, q293⟩ : ∃ v, a'.tmps.getD 25 undef = v ∧ (v = (.bool true)) := ⟨_, rfl, hT' 14 (by decide) 25 rfl⟩
 have hE := hE'.add (e292.trans q293)
 refine Step.imp (Run1.pure (r_move hE rfl)) ?_
 rintro _ _ ⟨rfl, rfl⟩
 exact ⟨_, M.le.refl _, hS', rfl⟩
 }
 {
 exact cskip (b := true) rfl rfl (by decide) (fun _ _ _ h_ => Eq.trans h_ (cb rfl)) (by decide) (fun _ _ => rfl)
 }
 {
 exact cskip (b := true) rfl rfl (by decide) (fun _ _ _ h_ => Eq.trans h_ (cb rfl)) (by decide) (fun _ _ => rfl)
 }
 {
 exact cskip (b := true) rfl rfl (by decide) (fun _ _ _ h_ => Eq.trans h_ (cb rfl)) (by decide) (fun _ _ => rfl)
 }
 {
 exact cskip (b := true) rfl rfl (by decide) (fun _ _ _ h_ => Eq.trans h_ (cb rfl)) (by decide) (fun _ _ => rfl)
 }
 {
 refine cplain fun pre_ post_ L_ T_ m' a' w' hl' hp' hm' hq' hS' hE' hT' => ?_
 obtain rfl := len0 hl'
 obtain ⟨v295, e296, q297⟩ : ∃ v, a'.tmps.getD 26 undef = v ∧ (v = (.bool true)) := ⟨_, rfl, hT' 15 (by decide) 26 rfl⟩
 have hE := hE'.add (e296.trans q297)
 obtain ⟨v298, e299, q300⟩ : ∃ v, a'.tmps.getD 30 undef = v ∧ (v = undef) := ⟨_, rfl, hT' 19 (by decide) 30 rfl⟩
 have hE := hE.add (e299.trans q300)
 refine Step.imp (Run1.pure (r_pickT hE rfl rfl rfl)) ?_
 rintro _ _ ⟨rfl, rfl⟩
 exact ⟨_, M.le.refl _, hS', rfl⟩
 }
 {
 refine cplain fun pre_ post_ L_ T_ m' a' w' hl' hp' hm' hq' hS' hE' hT' => ?_
 obtain rfl := len0 hl'
 obtain ⟨v302, e303, q304⟩ : ∃ v, a'.tmps.getD 31 undef = v ∧ (v = (.bool true)) := ⟨_, rfl, hT' 20 (by decide) 31 rfl⟩
 have hE := hE'.add (e303.trans q304)
 refine Step.imp (Run1.pure (r_move hE rfl)) ?_
 rintro _ _ ⟨rfl, rfl⟩
 exact ⟨_, M.le.refl _, hS', rfl⟩
 }
 {
 exact cskip (b := true) rfl rfl (by decide) (fun _ _ _ h_ => Eq.trans h_ (cb rfl)) (by decide) (fun _ _ => rfl)
 }
 {
 exact cskip (b := true) rfl rfl (by decide) (fun _ _ _ h_ => Eq.trans h_ (cb rfl)) (by decide) (fun _ _ => rfl)
 }
 {
 exact cskip (b := true) rfl rfl (by decide) (fun _ _ _ h_ => Eq.trans h_ (cb rfl)) (by decide) (fun _ _ => rfl)
 }
 {
 exact cskip (b := true) rfl rfl (by decide) (fun _ _ _ h_ => Eq.trans h_ (cb rfl)) (by decide) (fun _ _ => rfl)
 }
 {
 exact cskip (b := true) rfl rfl (by decide) (fun _ _ _ h_ => Eq.trans h_ (cb rfl)) (by decide) (fun _ _ => rfl)
 }
 {
 exact cskip (b := true) rfl rfl (by decide) (fun _ _ _ h_ => Eq.trans h_ (cb rfl)) (by decide) (fun _ _ => rfl)
 }
 }
 {
 intro ws_ L_ T_ m306 a w hl307 hm308 hq309 hS hd310 hn311 ho312 hT313
 obtain rfl := len0 hl307
 obtain ⟨rfl, rfl⟩ := hq309
 have hE := EnvD.of (k := 28) (l' := [(0, v0), (2, (.pointer (some ⟨b1, 0, none⟩))), (3, (.int .i64 0)), (4, (.int .i64 0))]) hd310 hn311 ho312 ⟨rfl, rfl, rfl, rfl, trivial⟩ rfl
 obtain ⟨v314, e315, q316⟩ : ∃ v, a.tmps.getD 32 undef = v ∧ (v = (.bool true)) := ⟨_, rfl, hT313 21 (by decide) 32 rfl⟩
 have hE := hE.add (e315.trans q316)
 obtain ⟨v317, e318, q319⟩ : ∃ v, a.tmps.getD 35 undef = v ∧ (v = undef) := ⟨_, rfl, hT313 24 (by decide) 35 rfl⟩
 have hE := hE.add (e318.trans q319)
 obtain ⟨v320, e321, q322⟩ : ∃ v, a.tmps.getD 38 undef = v ∧ (v = undef) := ⟨_, rfl, hT313 27 (by decide) 38 rfl⟩
 have hE := hE.add (e321.trans q322)
 refine sx hE rfl rfl rfl rfl rfl rfl fun a hE => ?_
 refine sp hE (r_pickT hE rfl rfl rfl) rfl fun a hE => ?_
 refine knil ?_
 exact ⟨true, h, _, hm308, hS, hE.cut ⟨rfl, rfl, rfl, trivial⟩⟩
 }
 }
 {
 have h := ite_F hd258 h
 obtain ⟨x324, hx325, h⟩ := ob h
 rcases Bool.eq_false_or_eq_true (decide (4 < x324)) with hd329 | hd329
 {
 have h := ite_T hd329 h
 refine kchain (k := 28) (m := m) (es := []) (Φ := (fun i m ws v => match i with | 0 => v = v0 | 1 => v = (.int .i64 (p0.length : Int)) ∧ inR .i64 (p0.length : Int) | 2 => v = (.bool (decide ((p0.length : Int) < 3))) | 3 => v = (.bool (decide ((p0.length : Int) < 3))) | 4 => v = v0 | 5 => PR (kInt .u8) m v x324 | 6 => v = (.int .u8 x324) ∧ inR .u8 x324 | 7 => v = (.bool (decide (4 < x324))) | 8 => v = (.bool (decide (4 < x324))) | 9 => v = (.bool (decide (4 < x324))) | 10 => v = undef | 11 => v = undef | 12 => v = undef | 13 => v = undef | 14 => v = (.bool true) | 15 => v = (.bool true) | 16 => v = undef | 17 => v = undef | 18 => v = undef | 19 => v = undef | 20 => v = (.bool true) | 21 => v = (.bool true) | 22 => v = undef | 23 => v = undef | 24 => v = undef | 25 => v = undef | 26 => v = undef | 27 => v = undef | _ => True)) (Q := (fun c m ws L' TL' => match c with | 0 => (b1, zc72) :: L = L' ∧ TL = TL' | _ => False)) (cs := [⟨0, 0, false, [(0, v0)]⟩, ⟨0, 0, false, []⟩, ⟨0, 0, false, []⟩, ⟨0, 0, false, []⟩, ⟨0, 0, false, [(0, v0)]⟩, ⟨0, 0, false, []⟩, ⟨0, 0, false, []⟩, ⟨0, 0, false, []⟩, ⟨0, 0, false, []⟩, ⟨0, 0, false, []⟩, ⟨0, 0, false, [(0, v0)]⟩, ⟨0, 0, false, []⟩, ⟨0, 0, false, []⟩, ⟨0, 0, false, []⟩, ⟨0, 0, false, []⟩, ⟨0, 0, false, []⟩, ⟨0, 0, false, [(0, v0)]⟩, ⟨0, 0, false, []⟩, ⟨0, 0, false, []⟩, ⟨0, 0, false, []⟩, ⟨0, 0, false, []⟩, ⟨0, 0, false, []⟩, ⟨0, 0, false, [(0, v0)]⟩, ⟨0, 0, false, []⟩, ⟨0, 0, false, []⟩, ⟨0, 0, false, [(0, v0)]⟩, ⟨0, 0, false, []⟩, ⟨0, 0, false, []⟩]) mixed hE hS ⟨rfl, rfl⟩ rfl rfl ⟨⟨rfl, trivial⟩, trivial, trivial, trivial, ⟨rfl, trivial⟩, trivial, trivial, trivial, trivial, trivial, ⟨rfl, trivial⟩, trivial, trivial, trivial, trivial, trivial, ⟨rfl, trivial⟩, trivial, trivial, trivial, trivial, trivial, ⟨rfl, trivial⟩, trivial, trivial, ⟨rfl, trivial⟩, trivial, trivial, trivial⟩ (by kernel_rfl) ?_ ?_ ?_ ?_
 {
 intro i m_ m2_ ws v hm_ hp_
 match i, hp_ with
 | 0, hp_ => exact hp_
 | 1, hp_ => exact hp_
 | 2, hp_ => exact hp_
 | 3, hp_ => exact hp_
 | 4, hp_ => exact hp_
 | 5, hp_ => exact PR.mono hp_ hm_
 | 6, hp_ => exact hp_
 | 7, hp_ => exact hp_
 | 8, hp_ => exact hp_
 | 9, hp_ => exact hp_
 | 10, hp_ => exact hp_
 | 11, hp_ => exact hp_
 | 12, hp_ => exact hp_
 | 13, hp_ => exact hp_
 | 14, hp_ => exact hp_
 | 15, hp_ => exact hp_
 | 16, hp_ => exact hp_
 | 17, hp_ => exact hp_
 | 18, hp_ => exact hp_
 | 19, hp_ => exact hp_
 | 20, hp_ => exact hp_
 | 21, hp_ => exact hp_
 | 22, hp_ => exact hp_
 | 23, hp_ => exact hp_
 | 24, hp_ => exact hp_
 | 25, hp_ => exact hp_
 | 26, hp_ => exact hp_
 | 27, hp_ => exact hp_
 | _ + 28, hp_ => exact trivial
 }
 {
 intro c m_ m2_ ws L_ T_ hm_ hq_
 match c, hq_ with
 | 0, ⟨e1_, e2_⟩ => exact ⟨e1_, e2_⟩
 | _ + 1, hq_ => exact hq_.elim
 }
 {
 refine ⟨?_, ?_, ?_, ?_, ?_, ?_, ?_, ?_, ?_, ?_, ?_, ?_, ?_, ?_, ?_, ?_, ?_, ?_, ?_, ?_, ?_, ?_, ?_, ?_, ?_, ?_, ?_, ?_, trivial⟩
 {
 refine cplain fun pre_ post_ L_ T_ m' a' w' hl' hp' hm' hq' hS' hE' hT' => ?_
 obtain rfl := len0 hl'
 refine Step.imp (Run1.pure (r_move hE' rfl)) ?_
 rintro _ _ ⟨rfl, rfl⟩
 exact ⟨_, M.le.refl _, hS', rfl⟩
 }
 {
 refine cplain fun pre_ post_ L_ T_ m' a' w' hl' hp' hm' hq' hS' hE' hT' => ?_
 obtain rfl := len0 hl'
 obtain ⟨v331, e332, q333⟩ : ∃ v, a'.tmps.getD 11 undef = v ∧ (v = v0) := ⟨_, rfl, hT' 0 (by decide) 11 rfl⟩
 have hE := hE'.add (e332.trans q333)
 refine Step.imp (Run1.pure (r_lenSl (k := (kInt .u8)) hE rfl rfl Try.underlying37 (ha0.mono hm'))) ?_
 rintro _ _ ⟨rfl, rfl⟩
 exact ⟨_, M.le.refl _, hS', ⟨rfl, (inR_len (RV_len (ha0.mono hm')))⟩⟩
 }
 {
 refine cplain fun pre_ post_ L_ T_ m' a' w' hl' hp' hm' hq' hS' hE' hT' => ?_
 obtain rfl := len0 hl'
 obtain ⟨v335, e336, q337⟩ : ∃ v, a'.tmps.getD 12 undef = v ∧ (v = (.int .i64 (p0.length : Int)) ∧ inR .i64 (p0.length : Int)) := ⟨_, rfl, hT' 1 (by decide) 12 rfl⟩
 obtain ⟨q337, hr338⟩ := q337
 have hE := hE'.add (e336.trans q337)
 refine Step.imp (Run1.pure (r_bin hE rfl rfl b_lss)) ?_
 rintro _ _ ⟨rfl, rfl⟩
 exact ⟨_, M.le.refl _, hS', rfl⟩
 }
 {
 refine cplain fun pre_ post_ L_ T_ m' a' w' hl' hp' hm' hq' hS' hE' hT' => ?_
 obtain rfl := len0 hl'
 obtain ⟨v340, e341, q342⟩ : ∃ v, a'.tmps.getD 13 undef = v ∧ (v = (.bool (decide ((p0.length : Int) < 3)))) := ⟨_, rfl, hT' 2 (by decide) 13 rfl⟩
 have hE := hE'.add (e341.trans q342)
 refine Step.imp (Run1.pure (r_move hE rfl)) ?_
 rintro _ _ ⟨rfl, rfl⟩
 exact ⟨_, M.le.refl _, hS', rfl⟩
 }
 {
 refine cguard rfl rfl (by decide) (fun _ _ _ h_ => Eq.trans h_ (cb hd258)) fun pre_ post_ L_ T_ m' a' w' hl' hp' hm' hq' hS' hE' hT' => ?_
 obtain rfl := len0 hl'
 refine Step.imp (Run1.pure (r_move hE' rfl)) ?_
 rintro _ _ ⟨rfl, rfl⟩
 exact ⟨_, M.le.refl _, hS', rfl⟩
 }
 {
 refine cguard rfl rfl (by decide) (fun _ _ _ h_ => Eq.trans h_ (cb hd258)) fun pre_ post_ L_ T_ m' a' w' hl' hp' hm' hq' hS' hE' hT' => ?_
 obtain rfl := len0 hl'
 obtain ⟨v345, e346, q347⟩ : ∃ v, a'.tmps.getD 15 undef = v ∧ (v = v0) := ⟨_, rfl, hT' 4 (by decide) 15 rfl⟩
 have hE := hE'.add (e346.trans q347)
 refine Step.imp (st_index (k := (kInt .u8)) hE rfl rfl Try.underlying37 Try.sizeOf5 (ha0.mono hm') hx325) ?_
 rintro v348 _ ⟨rfl, hp326⟩
 exact ⟨_, M.le.refl _, hS', hp326⟩
 }
 {
 refine cguard rfl rfl (by decide) (fun _ _ _ h_ => Eq.trans h_ (cb hd258)) fun pre_ post_ L_ T_ m' a' w' hl' hp' hm' hq' hS' hE' hT' => ?_
 obtain rfl := len0 hl'
 obtain ⟨v349, e350, q351⟩ : ∃ v, a'.tmps.getD 16 undef = v ∧ (PR (kInt .u8) m' v x324) := ⟨_, rfl, hT' 5 (by decide) 16 rfl⟩
 have hE := hE'.add (e350)
 refine Step.imp (st_loadM hE hS' ty5 rfl q351) ?_
 rintro v352 _ ⟨rfl, hv327⟩
 obtain ⟨rfl, hr353⟩ := RV_int hv327
 exact ⟨_, M.le.refl _, hS', ⟨rfl, hr353⟩⟩
 }
 {
 refine cguard rfl rfl (by decide) (fun _ _ _ h_ => Eq.trans h_ (cb hd258)) fun pre_ post_ L_ T_ m' a' w' hl' hp' hm' hq' hS' hE' hT' => ?_
 obtain rfl := len0 hl'
 obtain ⟨v354, e355, q356⟩ : ∃ v, a'.tmps.getD 17 undef = v ∧ (v = (.int .u8 x324) ∧ inR .u8 x324) := ⟨_, rfl, hT' 6 (by decide) 17 rfl⟩
 obtain ⟨q356, hr357⟩ := q356
 have hE := hE'.add (e355.trans q356)
 refine Step.imp (Run1.pure (r_bin hE rfl rfl b_gtr)) ?_
 rintro _ _ ⟨rfl, rfl⟩
 exact ⟨_, M.le.refl _, hS', rfl⟩
 }
 {
 refine cplain fun pre_ post_ L_ T_ m' a' w' hl' hp' hm' hq' hS' hE' hT' => ?_
 obtain rfl := len0 hl'
 obtain ⟨v359, e360, q361⟩ : ∃ v, a'.tmps.getD 14 undef = v ∧ (v = (.bool (decide ((p0.length : Int) < 3)))) := ⟨_, rfl, hT' 3 (by decide) 14 rfl⟩
 have hE := hE'.add (e360.trans q361)
 obtain ⟨v362, e363, q364⟩ : ∃ v, a'.tmps.getD 18 undef = v ∧ (v = (.bool (decide (4 < x324)))) := ⟨_, rfl, hT' 7 (by decide) 18 rfl⟩
 have hE := hE.add (e363.trans q364)
 refine Step.imp (Run1.pure (r_pickF hE rfl hd258 rfl)) ?_
 rintro _ _ ⟨rfl, rfl⟩
 exact ⟨_, M.le.refl _, hS', rfl⟩
 }
 {
 refine cplain fun pre_ post_ L_ T_ m' a' w' hl' hp' hm' hq' hS' hE' hT' => ?_
 obtain rfl := len0 hl'
 obtain ⟨v366, e367, q368⟩ : ∃ v, a'.tmps.getD 19 undef = v ∧ (v = (.bool (decide (4 < x324)))) := ⟨_, rfl, hT' 8 (by decide) 19 rfl⟩
 have hE := hE'.add (e367.trans q368)
 refine Step.imp (Run1.pure (r_move hE rfl)) ?_
 rintro _ _ ⟨rfl, rfl⟩
 exact ⟨_, M.le.refl _, hS', rfl⟩
 }
 {
 exact cskip (b := true) rfl rfl (by decide) (fun _ _ _ h_ => Eq.trans h_ (cb hd329)) (by decide) (fun _ _ => rfl)
 }
 {
 exact cskip (b := true) rfl rfl (by decide) (fun _ _ _ h_ => Eq.trans h_ (cb hd329)) (by decide) (fun _ _ => rfl)
 }
 {
 exact cskip (b := true) rfl rfl (by decide) (fun _ _ _ h_ => Eq.trans h_ (cb hd329)) (by decide) (fun _ _ => rfl)
 }
 {
 exact cskip (b := true) rfl rfl (by decide) (fun _ _ _ h_ => Eq.trans h_ (cb hd329)) (by decide) (fun _ _ => rfl)
 }
 {
 refine cplain fun pre_ post_ L_ T_ m' a' w' hl' hp' hm' hq' hS' hE' hT' => ?_
 obtain rfl := len0 hl'
 obtain ⟨v370, e371, q372⟩ : ∃ v, a'.tmps.getD 20 undef = v ∧ (v = (.bool (decide (4 < x324)))) := ⟨_, rfl, hT' 9 (by decide) 20 rfl⟩
 have hE := hE'.add (e371.trans q372)
 obtain ⟨v373, e374, q375⟩ : ∃ v, a'.tmps.getD 24 undef = v ∧ (v = undef) := ⟨_, rfl, hT' 13 (by decide) 24 rfl⟩
 have hE := hE.add (e374.trans q375)
 refine Step.imp (Run1.pure (r_pickT hE rfl hd329 rfl)) ?_
 rintro _ _ ⟨rfl, rfl⟩
 exact ⟨_, M.le.refl _, hS', rfl⟩
 }
 {
 refine cplain fun pre_ post_ L_ T_ m' a' w' hl' hp' hm' hq' hS' hE' hT' => ?_
 obtain rfl := len0 hl'
 obtain ⟨v377, e378, q379⟩ : ∃ v, a'.tmps.getD 25 undef = v ∧ (v = (.bool true)) := ⟨_, rfl, hT' 14 (by decide) 25 rfl⟩
 have hE := hE'.add (e378.trans q379)
 refine Step.imp (Run1.pure (r_move hE rfl)) ?_
 rintro _ _ ⟨rfl, rfl⟩
 exact ⟨_, M.le.refl _, hS', rfl⟩
 }
 {
 exact cskip (b := true) rfl rfl (by decide) (fun _ _ _ h_ => Eq.trans h_ (cb rfl)) (by decide) (fun _ _ => rfl)
 }
 {
 exact cskip (b := true) rfl rfl (by decide) (fun _ _ _ h_ => Eq.trans h_ (cb rfl)) (by decide) (fun _ _ => rfl)
 }
 {
 exact cskip (b := true) rfl rfl (by decide) (fun _ _ _ h_ => Eq.trans h_ (cb rfl)) (by decide) (fun _ _ => rfl)
 }
 {
 exact cskip (b := true) rfl rfl (by decide) (fun _ _ _ h_ => Eq.trans h_ (cb rfl)) (by decide) (fun _ _ => rfl)
 }
 {
 refine cplain fun pre_ post_ L_ T_ m' a' w' hl' hp' hm' hq' hS' hE' hT' => ?_
 obtain rfl := len0 hl'
 obtain ⟨v381, e382, q383⟩ : ∃ v, a'.tmps.getD 26 undef = v ∧ (v = (.bool true)) := ⟨_, rfl, hT' 15 (by decide) 26 rfl⟩
 have hE := hE'.add (e382.trans q383)
 obtain ⟨v384, e385, q386⟩ : ∃ v, a'.tmps.getD 30 undef = v ∧ (v = undef) := ⟨_, rfl, hT' 19 (by decide) 30 rfl⟩
 have hE := hE.add (e385.trans q386)
 refine Step.imp (Run1.pure (r_pickT hE rfl rfl rfl)) ?_
 rintro _ _ ⟨rfl, rfl⟩
 exact ⟨_, M.le.refl _, hS', rfl⟩
 }
 {
 refine cplain fun pre_ post_ L_ T_ m' a' w' hl' hp' hm' hq' hS' hE' hT' => ?_
 obtain rfl := len0 hl'
 obtain ⟨v388, e389, q390⟩ : ∃ v, a'.tmps.getD 31 undef = v ∧ (v = (.bool true)) := ⟨_, rfl, hT' 20 (by decide) 31 rfl⟩
 have hE := hE'.add (e389.trans q390)
 refine Step.imp (Run1.pure (r_move hE rfl)) ?_
 rintro _ _ ⟨rfl, rfl⟩
 exact ⟨_, M.le.refl _, hS', rfl⟩
 }
 {
 exact cskip (b := true) rfl rfl (by decide) (fun _ _ _ h_ => Eq.trans h_ (cb rfl)) (by decide) (fun _ _ => rfl)
 }
 {
 exact cskip (b := true) rfl rfl (by decide) (fun _ _ _ h_ => Eq.trans h_ (cb rfl)) (by decide) (fun _ _ => rfl)
 }
 {
 exact cskip (b := true) rfl rfl (by decide) (fun _ _ _ h_ => Eq.trans h_ (cb rfl)) (by decide) (fun _ _ => rfl)
 }
 {
 exact cskip (b := true) rfl rfl (by decide) (fun _ _ _ h_ => Eq.trans h_ (cb rfl)) (by decide) (fun _ _ => rfl)
 }
 {
 exact cskip (b := true) rfl rfl (by decide) (fun _ _ _ h_ => Eq.trans h_ (cb rfl)) (by decide) (fun _ _ => rfl)
 }
 {
 exact cskip (b := true) rfl rfl (by decide) (fun _ _ _ h_ => Eq.trans h_ (cb rfl)) (by decide) (fun _ _ => rfl)
 }
 }
 {
 intro ws_ L_ T_ m392 a w hl393 hm394 hq395 hS hd396 hn397 ho398 hT399
 obtain rfl := len0 hl393
 obtain ⟨rfl, rfl⟩ := hq395
 have hE := EnvD.of (k := 28) (l' := [(0, v0), (2, (.pointer (some ⟨b1, 0, none⟩))), (3, (.int .i64 0)), (4, (.int .i64 0))]) hd396 hn397 ho398 ⟨rfl, rfl, rfl, rfl, trivial⟩ rfl
 obtain ⟨v400, e401, q402⟩ : ∃ v, a.tmps.getD 32 undef = v ∧ (v = (.bool true)) := ⟨_, rfl, hT399 21 (by decide) 32 rfl⟩
 have hE := hE.add (e401.trans q402)
 obtain ⟨v403, e404, q405⟩ : ∃ v, a.tmps.getD 35 undef = v ∧ (v = undef) := ⟨_, rfl, hT399 24 (by decide) 35 rfl⟩
 have hE := hE.add (e404.trans q405)
 obtain ⟨v406, e407, q408⟩ : ∃ v, a.tmps.getD 38 undef = v ∧ (v = undef) := ⟨_, rfl, hT399 27 (by decide) 38 rfl⟩
 have hE := hE.add (e407.trans q408)
 refine sx hE rfl rfl rfl rfl rfl rfl fun a hE => ?_
 refine sp hE (r_pickT hE rfl rfl rfl) rfl fun a hE => ?_
 refine knil ?_
 exact ⟨true, h, _, hm394, hS, hE.cut ⟨rfl, rfl, rfl, trivial⟩⟩
 }
 }
 {
 have h := ite_F hd329 h
 obtain ⟨x410, hx411, h⟩ := ob h
 rcases Bool.eq_false_or_eq_true (x410 == 0) with hd415 | hd415
 {
 have h := ite_T hd415 h
 refine kchain (k := 28) (m := m) (es := []) (Φ := (fun i m ws v => match i with | 0 => v = v0 | 1 => v = (.int .i64 (p0.length : Int)) ∧ inR .i64 (p0.length : Int) | 2 => v = (.bool (decide ((p0.length : Int) < 3))) | 3 => v = (.bool (decide ((p0.length : Int) < 3))) | 4 => v = v0 | 5 => PR (kInt .u8) m v x324 | 6 => v = (.int .u8 x324) ∧ inR .u8 x324 | 7 => v = (.bool (decide (4 < x324))) | 8 => v = (.bool (decide (4 < x324))) | 9 => v = (.bool (decide (4 < x324))) | 10 => v = v0 | 11 => PR (kInt .u8) m v x410 | 12 => v = (.int .u8 x410) ∧ inR .u8 x410 | 13 => v = (.bool (x410 == 0)) | 14 => v = (.bool (x410 == 0)) | 15 => v = (.bool (x410 == 0)) | 16 => v = undef | 17 => v = undef | 18 => v = undef | 19 => v = undef | 20 => v = (.bool true) | 21 => v = (.bool true) | 22 => v = undef | 23 => v = undef | 24 => v = undef | 25 => v = undef | 26 => v = undef | 27 => v = undef | _ => True)) (Q := (fun c m ws L' TL' => match c with | 0 => (b1, zc72) :: L = L' ∧ TL = TL' | _ => False)) (cs := [⟨0, 0, false, [(0, v0)]⟩, ⟨0, 0, false, []⟩, ⟨0, 0, false, []⟩, ⟨0, 0, false, []⟩, ⟨0, 0, false, [(0, v0)]⟩, ⟨0, 0, false, []⟩, ⟨0, 0, false, []⟩, ⟨0, 0, false, []⟩, ⟨0, 0, false, []⟩, ⟨0, 0, false, []⟩, ⟨0, 0, false, [(0, v0)]⟩, ⟨0, 0, false, []⟩, ⟨0, 0, false, []⟩, ⟨0, 0, false, []⟩, ⟨0, 0, false, []⟩, ⟨0, 0, false, []⟩, ⟨0, 0, false, [(0, v0)]⟩, ⟨0, 0, false, []⟩, ⟨0, 0, false, []⟩, ⟨0, 0, false, []⟩, ⟨0, 0, false, []⟩, ⟨0, 0, false, []⟩, ⟨0, 0, false, [(0, v0)]⟩, ⟨0, 0, false, []⟩, ⟨0, 0, false, []⟩, ⟨0, 0, false, [(0, v0)]⟩, ⟨0, 0, false, []⟩, ⟨0, 0, false, []⟩]) mixed hE hS ⟨rfl, rfl⟩ rfl rfl ⟨⟨rfl, trivial⟩, trivial, trivial, trivial, ⟨rfl, trivial⟩, trivial, trivial, trivial, trivial, trivial, ⟨rfl, trivial⟩, trivial, trivial, trivial, trivial, trivial, ⟨rfl, trivial⟩, trivial, trivial, trivial, trivial, trivial, ⟨rfl, trivial⟩, trivial, trivial, ⟨rfl, trivial⟩, trivial, trivial, trivial⟩ (by kernel_rfl) ?_ ?_ ?_ ?_
 {
 intro i m_ m2_ ws v hm_ hp_
 match i, hp_ with
 | 0, hp_ => exact hp_
 | 1, hp_ => exact hp_
 | 2, hp_ => exact hp_
 | 3, hp_ => exact hp_
 | 4, hp_ => exact hp_
 | 5, hp_ => exact PR.mono hp_ hm_
 | 6, hp_ => exact hp_
 | 7, hp_ => exact hp_
 | 8, hp_ => exact hp_
 | 9, hp_ => exact hp_
 | 10, hp_ => exact hp_
 | 11, hp_ => exact PR.mono hp_ hm_
 | 12, hp_ => exact hp_
 | 13, hp_ => exact hp_
 | 14, hp_ => exact hp_
 | 15, hp_ => exact hp_
 | 16, hp_ => exact hp_
 | 17, hp_ => exact hp_
 | 18, hp_ => exact hp_
 | 19, hp_ => exact hp_
 | 20, hp_ => exact hp_
 | 21, hp_ => exact hp_
 | 22, hp_ => exact hp_
 | 23, hp_ => exact hp_
 | 24, hp_ => exact hp_
 | 25, hp_ => exact hp_
 | 26, hp_ => exact hp_
 | 27, hp_ => exact hp_
 | _ + 28, hp_ => exact trivial
 }
 {
 intro c m_ m2_ ws L_ T_ hm_ hq_
 match c, hq_ with
 | 0, ⟨e1_, e2_⟩ => exact ⟨e1_, e2_⟩
 | _ + 1, hq_ => exact hq_.elim
 }
 {
 refine ⟨?_, ?_, ?_, ?_, ?_, ?_, ?_, ?_, ?_, ?_, ?_, ?_, ?_, ?_, ?_, ?_, ?_, ?_, ?_, ?_, ?_, ?_, ?_, ?_, ?_, ?_, ?_, ?_, trivial⟩
 {
 refine cplain fun pre_ post_ L_ T_ m' a' w' hl' hp' hm' hq' hS' hE' hT' => ?_
 obtain rfl := len0 hl'
 refine Step.imp (Run1.pure (r_move hE' rfl)) ?_
 rintro _ _ ⟨rfl, rfl⟩
 exact ⟨_, M.le.refl _, hS', rfl⟩
 }
 {
 refine cplain fun pre_ post_ L_ T_ m' a' w' hl' hp' hm' hq' hS' hE' hT' => ?_
 obtain rfl := len0 hl'
 obtain ⟨v417, e418, q419⟩ : ∃ v, a'.tmps.getD 11 undef = v ∧ (v = v0) := ⟨_, rfl, hT' 0 (by decide) 11 rfl⟩
 have hE := hE'.add (e418.trans q419)
 refine Step.imp (Run1.pure (r_lenSl (k := (kInt .u8)) hE rfl rfl Try.underlying37 (ha0.mono hm'))) ?_
 rintro _ _ ⟨rfl, rfl⟩
 exact ⟨_, M.le.refl _, hS', ⟨rfl, (inR_len (RV_len (ha0.mono hm')))⟩⟩
 }
 {
 refine cplain fun pre_ post_ L_ T_ m' a' w' hl' hp' hm' hq' hS' hE' hT' => ?_
 obtain rfl := len0 hl'
 obtain ⟨v421, e422, q423⟩ : ∃ v, a'.tmps.getD 12 undef = v ∧ (v = (.int .i64 (p0.length : Int)) ∧ inR .i64 (p0.length : Int)) := ⟨_, rfl, hT' 1 (by decide) 12 rfl⟩
 obtain ⟨q423, hr424⟩ := q423
 have hE := hE'.add (e422.trans q423)
 refine Step.imp (Run1.pure (r_bin hE rfl rfl b_lss)) ?_
 rintro _ _ ⟨rfl, rfl⟩
 exact ⟨_, M.le.refl _, hS', rfl⟩
 }
 {
 refine cplain fun pre_ post_ L_ T_ m' a' w' hl' hp' hm' hq' hS' hE' hT' => ?_
 obtain rfl := len0 hl'
 obtain ⟨v426, e427, q428⟩ : ∃ v, a'.tmps.getD 13 undef = v ∧ (v = (.bool (decide ((p0.length : Int) < 3)))) := ⟨_, rfl, hT' 2 (by decide) 13 rfl⟩
 have hE := hE'.add (e427.trans q428)
 refine Step.imp (Run1.pure (r_move hE rfl)) ?_
 rintro _ _ ⟨rfl, rfl⟩
 exact ⟨_, M.le.refl _, hS', rfl⟩
 }
 {
 refine cguard rfl rfl (by decide) (fun _ _ _ h_ => Eq.trans h_ (cb hd258)) fun pre_ post_ L_ T_ m' a' w' hl' hp' hm' hq' hS' hE' hT' => ?_
 obtain rfl := len0 hl'
 refine Step.imp (Run1.pure (r_move hE' rfl)) ?_
 rintro _ _ ⟨rfl, rfl⟩
 exact ⟨_, M.le.refl _, hS', rfl⟩
 }
 {
 refine cguard rfl rfl (by decide) (fun _ _ _ h_ => Eq.trans h_ (cb hd258)) fun pre_ post_ L_ T_ m' a' w' hl' hp' hm' hq' hS' hE' hT' => ?_
 obtain rfl := len0 hl'
 obtain ⟨v431, e432, q433⟩ : ∃ v, a'.tmps.getD 15 undef = v ∧ (v = v0) := ⟨_, rfl, hT' 4 (by decide) 15 rfl⟩
 have hE := hE'.add (e432.trans q433)
 refine Step.imp (st_index (k := (kInt .u8)) hE rfl rfl Try.underlying37 Try.sizeOf5 (ha0.mono hm') hx325) ?_
 rintro v434 _ ⟨rfl, hp326⟩
 exact ⟨_, M.le.refl _, hS', hp326⟩
 }
 {
 refine cguard rfl rfl (by decide) (fun _ _ _ h_ => Eq.trans h_ (cb hd258)) fun pre_ post_ L_ T_ m' a' w' hl' hp' hm' hq' hS' hE' hT' => ?_
 obtain rfl := len0 hl'
 obtain ⟨v435, e436, q437⟩ : ∃ v, a'.tmps.getD 16 undef = v ∧ (PR (kInt .u8) m' v x324) := ⟨_, rfl, hT' 5 (by decide) 16 rfl⟩
 have hE := hE'.add (e436)
 refine Step.imp (st_loadM hE hS' ty5 rfl q437) ?_
 rintro v438 _ ⟨rfl, hv327⟩
 obtain ⟨rfl, hr439⟩ := RV_int hv327
 exact ⟨_, M.le.refl _, hS', ⟨rfl, hr439⟩⟩
 }
 {
 refine cguard rfl rfl (by decide) (fun _ _ _ h_ => Eq.trans h_ (cb hd258)) fun pre_ post_ L_ T_ m' a' w' hl' hp' hm' hq' hS' hE' hT' => ?_
 obtain rfl := len0 hl'
 obtain ⟨v440, e441, q442⟩ : ∃ v, a'.tmps.getD 17 undef = v ∧ (v = (.int .u8 x324) ∧ inR .u8 x324) := ⟨_, rfl, hT' 6 (by decide) 17 rfl⟩
 obtain ⟨q442, hr443⟩ := q442
 have hE := hE'.add (e441.trans q442)
 refine Step.imp (Run1.pure (r_bin hE rfl rfl b_gtr)) ?_
 rintro _ _ ⟨rfl, rfl⟩
 exact ⟨_, M.le.refl _, hS', rfl⟩
 }
 {
 refine cplain fun pre_ post_ L_ T_ m' a' w' hl' hp' hm' hq' hS' hE' hT' => ?_
 obtain rfl := len0 hl'
 obtain ⟨v445, e446, q447⟩ : ∃ v, a'.tmps.getD 14 undef = v ∧ (v = (.bool (decide ((p0.length : Int) < 3)))) := ⟨_, rfl, hT' 3 (by decide) 14 rfl⟩
 have hE := hE'.add (e446.trans q447)
 obtain ⟨v448, e449, q450⟩ : ∃ v, a'.tmps.getD 18 undef = v ∧ (v = (.bool (decide (4 < x324)))) := ⟨_, rfl, hT' 7 (by decide) 18 rfl⟩
 have hE := hE.add (e449.trans q450)
 refine Step.imp (Run1.pure (r_pickF hE rfl hd258 rfl)) ?_
 rintro _ _ ⟨rfl, rfl⟩
 exact ⟨_, M.le.refl _, hS', rfl⟩
 }
 {
 refine cplain fun pre_ post_ L_ T_ m' a' w' hl' hp' hm' hq' hS' hE' hT' => ?_
 obtain rfl := len0 hl'
 obtain ⟨v452, e453, q454⟩ : ∃ v, a'.tmps.getD 19 undef = v ∧ (v = (.bool (decide (4 < x324)))) := ⟨_, rfl, hT' 8 (by decide) 19 rfl⟩
 have hE := hE'.add (e453.trans q454)
 refine Step.imp (Run1.pure (r_move hE rfl)) ?_
 rintro _ _ ⟨rfl, rfl⟩
 exact ⟨_, M.le.refl _, hS', rfl⟩
 }
 {
 refine cguard rfl rfl (by decide) (fun _ _ _ h_ => Eq.trans h_ (cb hd329)) fun pre_ post_ L_ T_ m' a' w' hl' hp' hm' hq' hS' hE' hT' => ?_
 obtain rfl := len0 hl'
 refine Step.imp (Run1.pure (r_move hE' rfl)) ?_
 rintro _ _ ⟨rfl, rfl⟩
 exact ⟨_, M.le.refl _, hS', rfl⟩
 }
 {
 refine cguard rfl rfl (by decide) (fun _ _ _ h_ => Eq.trans h_ (cb hd329)) fun pre_ post_ L_ T_ m' a' w' hl' hp' hm' hq' hS' hE' hT' => ?_
 obtain rfl := len0 hl'
 obtain ⟨v457, e458, q459⟩ : ∃ v, a'.tmps.getD 21 undef = v ∧ (v = v0) := ⟨_, rfl, hT' 10 (by decide) 21 rfl⟩
 have hE := hE'.add (e458.trans q459)
 refine Step.imp (st_index (k := (kInt .u8)) hE rfl rfl Try.underlying37 Try.sizeOf5 (ha0.mono hm') hx411) ?_
 rintro v460 _ ⟨rfl, hp412⟩
 exact ⟨_, M.le.refl _, hS', hp412⟩
 }
 {
 refine cguard rfl rfl (by decide) (fun _ _ _ h_ => Eq.trans h_ (cb hd329)) fun pre_ post_ L_ T_ m' a' w' hl' hp' hm' hq' hS' hE' hT' => ?_
 obtain rfl := len0 hl'
 obtain ⟨v461, e462, q463⟩ : ∃ v, a'.tmps.getD 22 undef = v ∧ (PR (kInt .u8) m' v x410) := ⟨_, rfl, hT' 11 (by decide) 22 rfl⟩
 have hE := hE'.add (e462)
 refine Step.imp (st_loadM hE hS' ty5 rfl q463) ?_
 rintro v464 _ ⟨rfl, hv413⟩
 obtain ⟨rfl, hr465⟩ := RV_int hv413
 exact ⟨_, M.le.refl _, hS', ⟨rfl, hr465⟩⟩
 }
 {
 refine cguard rfl rfl (by decide) (fun _ _ _ h_ => Eq.trans h_ (cb hd329)) fun pre_ post_ L_ T_ m' a' w' hl' hp' hm' hq' hS' hE' hT' => ?_
 obtain rfl := len0 hl'
 obtain ⟨v466, e467, q468⟩ : ∃ v, a'.tmps.getD 23 undef = v ∧ (v = (.int .u8 x410) ∧ inR .u8 x410) := ⟨_, rfl, hT' 12 (by decide) 23 rfl⟩
 obtain ⟨q468, hr469⟩ := q468
 have hE := hE'.add (e467.trans q468)
 refine Step.imp (Run1.pure (r_bin hE rfl rfl b_eql)) ?_
 rintro _ _ ⟨rfl, rfl⟩
 exact ⟨_, M.le.refl _, hS', rfl⟩
 }
 {
 refine cplain fun pre_ post_ L_ T_ m' a' w' hl' hp' hm' hq' hS' hE' hT' => ?_
 obtain rfl := len0 hl'
 obtain ⟨v471, e472, q473⟩ : ∃ v, a'.tmps.getD 20 undef = v ∧ (v = (.bool (decide (4 < x324)))) := ⟨_, rfl, hT' 9 (by decide) 20 rfl⟩
 have hE := hE'.add (e472.trans q473)
 obtain ⟨v474, e475, q476⟩ : ∃ v, a'.tmps.getD 24 undef = v ∧ (v = (.bool (x410 == 0))) := ⟨_, rfl, hT' 13 (by decide) 24 rfl⟩
 have hE := hE.add (e475.trans q476)
 refine Step.imp (Run1.pure (r_pickF hE rfl hd329 rfl)) ?_
 rintro _ _ ⟨rfl, rfl⟩
 exact ⟨_, M.le.refl _, hS', rfl⟩
 }
 {
 refine cplain fun pre_ post_ L_ T_ m' a' w' hl' hp' hm' hq' hS' hE' hT' => ?_
 obtain rfl := len0 hl'
 obtain ⟨v478, e479, q480⟩ : ∃ v, a'.tmps.getD 25 undef = v ∧ (v = (.bool (x410 == 0))) := ⟨_, rfl, hT' 14 (by decide) 25 rfl⟩
 have hE := hE'.add (e479.trans q480)
 refine Step.imp (Run1.pure (r_move hE rfl)) ?_
 rintro _ _ ⟨rfl, rfl⟩
 exact ⟨_, M.le.refl _, hS', rfl⟩
 }
 {
 exact cskip (b := true) rfl rfl (by decide) (fun _ _ _ h_ => Eq.trans h_ (cb hd415)) (by decide) (fun _ _ => rfl)
 }
 {
 exact cskip (b := true) rfl rfl (by decide) (fun _ _ _ h_ => Eq.trans h_ (cb hd415)) (by decide) (fun _ _ => rfl)
 }
 {
 exact cskip (b := true) rfl rfl (by decide) (fun _ _ _ h_ => Eq.trans h_ (cb hd415)) (by decide) (fun _ _ => rfl)
 }
 {
 exact cskip (b := true) rfl rfl (by decide) (fun _ _ _ h_ => Eq.trans h_ (cb hd415)) (by decide) (fun _ _ => rfl)
 }
 {
 refine cplain fun pre_ post_ L_ T_ m' a' w' hl' hp' hm' hq' hS' hE' hT' => ?_
 obtain rfl := len0 hl'
 obtain ⟨v482, e483, q484⟩ : ∃ v, a'.tmps.getD 26 undef = v ∧ (v = (.bool (x410 == 0))) := ⟨_, rfl, hT' 15 (by decide) 26 rfl⟩
 have hE := hE'.add (e483.trans q484)
 obtain ⟨v485, e486, q487⟩ : ∃ v, a'.tmps.getD 30 undef = v ∧ (v = undef) := ⟨_, rfl, hT' 19 (by decide) 30 rfl⟩
 have hE := hE.add (e486.trans q487)
 refine Step.imp (Run1.pure (r_pickT hE rfl hd415 rfl)) ?_
 rintro _ _ ⟨rfl, rfl⟩
 exact ⟨_, M.le.refl _, hS', rfl⟩
 }
 {
 refine cplain fun pre_ post_ L_ T_ m' a' w' hl' hp' hm' hq' hS' hE' hT' => ?_
 obtain rfl := len0 hl'
 obtain ⟨v489, e490, q491⟩ : ∃ v, a'.tmps.getD 31 undef = v ∧ (v = (.bool true)) := ⟨_, rfl, hT' 20 (by decide) 31 rfl⟩
 have hE := hE'.add (e490.trans q491)
 refine Step.imp (Run1.pure (r_move hE rfl)) ?_
 rintro _ _ ⟨rfl, rfl⟩
 exact ⟨_, M.le.refl _, hS', rfl⟩
 }
 {
 exact cskip (b := true) rfl rfl (by decide) (fun _ _ _ h_ => Eq.trans h_ (cb rfl)) (by decide) (fun _ _ => rfl)
 }
 {
 exact cskip (b := true) rfl rfl (by decide) (fun _ _ _ h_ => Eq.trans h_ (cb rfl)) (by decide) (fun _ _ => rfl)
 }
 {
 exact cskip (b := true) rfl rfl (by decide) (fun _ _ _ h_ => Eq.trans h_ (cb rfl)) (by decide) (fun _ _ => rfl)
 }
 {
 exact cskip (b := true) rfl rfl (by decide) (fun _ _ _ h_ => Eq.trans h_ (cb rfl)) (by decide) (fun _ _ => rfl)
 }
 {
 exact cskip (b := true) rfl rfl (by decide) (fun _ _ _ h_ => Eq.trans h_ (cb rfl)) (by decide) (fun _ _ => rfl)
 }
 {
 exact cskip (b := true) rfl rfl (by decide) (fun _ _ _ h_ => Eq.trans h_ (cb rfl)) (by decide) (fun _ _ => rfl)
 }
 }
 {
 intro ws_ L_ T_ m493 a w hl494 hm495 hq496 hS hd497 hn498 ho499 hT500
 obtain rfl := len0 hl494
 obtain ⟨rfl, rfl⟩ := hq496
 have hE := EnvD.of (k := 28) (l' := [(0, v0), (2, (.pointer (some ⟨b1, 0, none⟩))), (3, (.int .i64 0)), (4, (.int .i64 0))]) hd497 hn498 ho499 ⟨rfl, rfl, rfl, rfl, trivial⟩ rfl
 obtain ⟨v501, e502, q503⟩ : ∃ v, a.tmps.getD 32 undef = v ∧ (v = (.bool true)) := ⟨_, rfl, hT500 21 (by decide) 32 rfl⟩
 have hE := hE.add (e502.trans q503)
 obtain ⟨v504, e505, q506⟩ : ∃ v, a.tmps.getD 35 undef = v ∧ (v = undef) := ⟨_, rfl, hT500 24 (by decide) 35 rfl⟩
 have hE := hE.add (e505.trans q506)
 obtain ⟨v507, e508, q509⟩ : ∃ v, a.tmps.getD 38 undef = v ∧ (v = undef) := ⟨_, rfl, hT500 27 (by decide) 38 rfl⟩
 have hE := hE.add (e508.trans q509)
 refine sx hE rfl rfl rfl rfl rfl rfl fun a hE => ?_
 refine sp hE (r_pickT hE rfl rfl rfl) rfl fun a hE => ?_
 refine knil ?_
 exact ⟨true, h, _, hm495, hS, hE.cut ⟨rfl, rfl, rfl, trivial⟩⟩
 }
 }
 {
 have h := ite_F hd415 h
 obtain ⟨x511, hx512, h⟩ := ob h
 rcases Bool.eq_false_or_eq_true (decide (64 < x511)) with hd516 | hd516
 {
 have h := ite_T hd516 h
 refine kchain (k := 28) (m := m) (es := []) (Φ := (fun i m ws v => match i with | 0 => v = v0 | 1 => v = (.int .i64 (p0.length : Int)) ∧ inR .i64 (p0.length : Int) | 2 => v = (.bool (decide ((p0.length : Int) < 3))) | 3 => v = (.bool (decide ((p0.length : Int) < 3))) | 4 => v = v0 | 5 => PR (kInt .u8) m v x324 | 6 => v = (.int .u8 x324) ∧ inR .u8 x324 | 7 => v = (.bool (decide (4 < x324))) | 8 => v = (.bool (decide (4 < x324))) | 9 => v = (.bool (decide (4 < x324))) | 10 => v = v0 | 11 => PR (kInt .u8) m v x410 | 12 => v = (.int .u8 x410) ∧ inR .u8 x410 | 13 => v = (.bool (x410 == 0)) | 14 => v = (.bool (x410 == 0)) | 15 => v = (.bool (x410 == 0)) | 16 => v = v0 | 17 => PR (kInt .u8) m v x511 | 18 => v = (.int .u8 x511) ∧ inR .u8 x511 | 19 => v = (.bool (decide (64 < x511))) | 20 => v = (.bool (decide (64 < x511))) | 21 => v = (.bool (decide (64 < x511))) | 22 => v = undef | 23 => v = undef | 24 => v = undef | 25 => v = undef | 26 => v = undef | 27 => v = undef | _ => True)) (Q := (fun c m ws L' TL' => match c with | 0 => (b1, zc72) :: L = L' ∧ TL = TL' | _ => False)) (cs := [⟨0, 0, false, [(0, v0)]⟩, ⟨0, 0, false, []⟩, ⟨0, 0, false, []⟩, ⟨0, 0, false, []⟩, ⟨0, 0, false, [(0, v0)]⟩, ⟨0, 0, false, []⟩, ⟨0, 0, false, []⟩, ⟨0, 0, false, []⟩, ⟨0, 0, false, []⟩, ⟨0, 0, false, []⟩, ⟨0, 0, false, [(0, v0)]⟩, ⟨0, 0, false, []⟩, ⟨0, 0, false, []⟩, ⟨0, 0, false, []⟩, ⟨0, 0, false, []⟩, ⟨0, 0, false, []⟩, ⟨0, 0, false, [(0, v0)]⟩, ⟨0, 0, false, []⟩, ⟨0, 0, false, []⟩, ⟨0, 0, false, []⟩, ⟨0, 0, false, []⟩, ⟨0, 0, false, []⟩, ⟨0, 0, false, [(0, v0)]⟩, ⟨0, 0, false, []⟩, ⟨0, 0, false, []⟩, ⟨0, 0, false, [(0, v0)]⟩, ⟨0, 0, false, []⟩, ⟨0, 0, false, []⟩]) mixed hE hS ⟨rfl, rfl⟩ rfl rfl ⟨⟨rfl, trivial⟩, trivial, trivial, trivial, ⟨rfl, trivial⟩, trivial, trivial, trivial, trivial, trivial, ⟨rfl, trivial⟩, trivial, trivial, trivial, trivial, trivial, ⟨rfl, trivial⟩, trivial, trivial, trivial, trivial, trivial, ⟨rfl, trivial⟩, trivial, trivial, ⟨rfl, trivial⟩, trivial, trivial, trivial⟩ (by kernel_rfl) ?_ ?_ ?_ ?_
 {
 intro i m_ m2_ ws v hm_ hp_
 match i, hp_ with
 | 0, hp_ => exact hp_
 | 1, hp_ => exact hp_
 | 2, hp_ => exact hp_
 | 3, hp_ => exact hp_
 | 4, hp_ => exact hp_
 | 5, hp_ => exact PR.mono hp_ hm_
 | 6, hp_ => exact hp_
 | 7, hp_ => exact hp_
 | 8, hp_ => exact hp_
 | 9, hp_ => exact hp_
 | 10, hp_ => exact hp_
 | 11, hp_ => exact PR.mono hp_ hm_
 | 12, hp_ => exact hp_
 | 13, hp_ => exact hp_
 | 14, hp_ => exact hp_
 | 15, hp_ => exact hp_
 | 16, hp_ => exact hp_
 | 17, hp_ => exact PR.mono hp_ hm_
 | 18, hp_ => exact hp_
 | 19, hp_ => exact hp_
 | 20, hp_ => exact hp_
 | 21, hp_ => exact hp_
 | 22, hp_ => exact hp_
 | 23, hp_ => exact hp_
 | 24, hp_ => exact hp_
 | 25, hp_ => exact hp_
 | 26, hp_ => exact hp_
 | 27, hp_ => exact hp_
 | _ + 28, hp_ => exact trivial
 }
 {
 intro c m_ m2_ ws L_ T_ hm_ hq_
 match c, hq_ with
 | 0, ⟨e1_, e2_⟩ => exact ⟨e1_, e2_⟩
 | _ + 1, hq_ => exact hq_.elim
 }
 {
 refine ⟨?_, ?_, ?_, ?_, ?_, ?_, ?_, ?_, ?_, ?_, ?_, ?_, ?_, ?_, ?_, ?_, ?_, ?_, ?_, ?_, ?_, ?_, ?_, ?_, ?_, ?_, ?_, ?_, trivial⟩
 {
 refine cplain fun pre_ post_ L_ T_ m' a' w' hl' hp' hm' hq' hS' hE' hT' => ?_
 obtain rfl := len0 hl'
 refine Step.imp (Run1.pure (r_move hE' rfl)) ?_
 rintro _ _ ⟨rfl, rfl⟩
 exact ⟨_, M.le.refl _, hS', rfl⟩
 }
 {
 refine cplain fun pre_ post_ L_ T_ m' a' w' hl' hp' hm' hq' hS' hE' hT' => ?_
 obtain rfl := len0 hl'
 obtain ⟨v518, e519, q520⟩ : ∃ v, a'.tmps.getD 11 undef = v ∧ (v = v0) := ⟨_, rfl, hT' 0 (by decide) 11 rfl⟩
 have hE := hE'.add (e519.trans q520)
 refine Step.imp (Run1.pure (r_lenSl (k := (kInt .u8)) hE rfl rfl Try.underlying37 (ha0.mono hm'))) ?_
 rintro _ _ ⟨rfl, rfl⟩
 exact ⟨_, M.le.refl _, hS', ⟨rfl, (inR_len (RV_len (ha0.mono hm')))⟩⟩
 }
 {
 refine cplain fun pre_ post_ L_ T_ m' a' w' hl' hp' hm' hq' hS' hE' hT' => ?_
 obtain rfl := len0 hl'
 obtain ⟨v522, e523, q524⟩ : ∃ v, a'.tmps.getD 12 undef = v ∧ (v = (.int .i64 (p0.length : Int)) ∧ inR .i64 (p0.length : Int)) := ⟨_, rfl, hT' 1 (by decide) 12 rfl⟩
 obtain ⟨q524, hr525⟩ := q524
 have hE := hE'.add (e523.trans q524)
 refine Step.imp (Run1.pure (r_bin hE rfl rfl b_lss)) ?_
 rintro _ _ ⟨rfl, rfl⟩
 exact ⟨_, M.le.refl _, hS', rfl⟩
 }
 {
 refine cplain fun pre_ post_ L_ T_ m' a' w' hl' hp' hm' hq' hS' hE' hT' => ?_
 obtain rfl := len0 hl'
 obtain ⟨v527, e528, q529⟩ : ∃ v, a'.tmps.getD 13 undef = v ∧ (v = (.bool (decide ((p0.length : Int) < 3)))) := ⟨_, rfl, hT' 2 (by decide) 13 rfl⟩
 have hE := hE'.add (e528.trans q529)
 refine Step.imp (Run1.pure (r_move hE rfl)) ?_
 rintro _ _ ⟨rfl, rfl⟩
 exact ⟨_, M.le.refl _, hS', rfl⟩
 }
 {
 refine cguard rfl rfl (by decide) (fun _ _ _ h_ => Eq.trans h_ (cb hd258)) fun pre_ post_ L_ T_ m' a' w' hl' hp' hm' hq' hS' hE' hT' => ?_
 obtain rfl := len0 hl'
 refine Step.imp (Run1.pure (r_move hE' rfl)) ?_
 rintro _ _ ⟨rfl, rfl⟩
 exact ⟨_, M.le.refl _, hS', rfl⟩
 }
 {
 refine cguard rfl rfl (by decide) (fun _ _ _ h_ => Eq.trans h_ (cb hd258)) fun pre_ post_ L_ T_ m' a' w' hl' hp' hm' hq' hS' hE' hT' => ?_
 obtain rfl := len0 hl'
 obtain ⟨v532, e533, q534⟩ : ∃ v, a'.tmps.getD 15 undef = v ∧ (v = v0) := ⟨_, rfl, hT' 4 (by decide) 15 rfl⟩
 have hE := hE'.add (e533.trans q534)
 refine Step.imp (st_index (k := (kInt .u8)) hE rfl rfl Try.underlying37 Try.sizeOf5 (ha0.mono hm') hx325) ?_
 rintro v535 _ ⟨rfl, hp326⟩
 exact ⟨_, M.le.refl _, hS', hp326⟩
 }
 {
 refine cguard rfl rfl (by decide) (fun _ _ _ h_ => Eq.trans h_ (cb hd258)) fun pre_ post_ L_ T_ m' a' w' hl' hp' hm' hq' hS' hE' hT' => ?_
 obtain rfl := len0 hl'
 obtain ⟨v536, e537, q538⟩ : ∃ v, a'.tmps.getD 16 undef = v ∧ (PR (kInt .u8) m' v x324) := ⟨_, rfl, hT' 5 (by decide) 16 rfl⟩
 have hE := hE'.add (e537)
 refine Step.imp (st_loadM hE hS' ty5 rfl q538) ?_
 rintro v539 _ ⟨rfl, hv327⟩
 obtain ⟨rfl, hr540⟩ := RV_int hv327
 exact ⟨_, M.le.refl _, hS', ⟨rfl, hr540⟩⟩
 }
 {
 refine cguard rfl rfl (by decide) (fun _ _ _ h_ => Eq.trans h_ (cb hd258)) fun pre_ post_ L_ T_ m' a' w' hl' hp' hm' hq' hS' hE' hT' => ?_
 obtain rfl := len0 hl'
 obtain ⟨v541, e542, q543⟩ : ∃ v, a'.tmps.getD 17 undef = v ∧ (v = (.int .u8 x324) ∧ inR .u8 x324) := ⟨_, rfl, hT' 6 (by decide) 17 rfl⟩
 obtain ⟨q543, hr544⟩ := q543
 have hE := hE'.add (e542.trans q543)
 refine Step.imp (Run1.pure (r_bin hE rfl rfl b_gtr)) ?_
 rintro _ _ ⟨rfl, rfl⟩
 exact ⟨_, M.le.refl _, hS', rfl⟩
 }
 {
 refine cplain fun pre_ post_ L_ T_ m' a' w' hl' hp' hm' hq' hS' hE' hT' => ?_
 obtain rfl := len0 hl'
 obtain ⟨v546, e547, q548⟩ : ∃ v, a'.tmps.getD 14 undef = v ∧ (v = (.bool (decide ((p0.length : Int) < 3)))) := ⟨_, rfl, hT' 3 (by decide) 14 rfl⟩
 have hE := hE'.add (e547.trans q548)
 obtain ⟨v549, e550, q551⟩ : ∃ v, a'.tmps.getD 18 undef = v ∧ (v = (.bool (decide (4 < x324)))) := ⟨_, rfl, hT' 7 (by decide) 18 rfl⟩
 have hE := hE.add (e550.trans q551)
 refine Step.imp (Run1.pure (r_pickF hE rfl hd258 rfl)) ?_
 rintro _ _ ⟨rfl, rfl⟩
 exact ⟨_, M.le.refl _, hS', rfl⟩
 }
 {
 refine cplain fun pre_ post_ L_ T_ m' a' w' hl' hp' hm' hq' hS' hE' hT' => ?_
 obtain rfl := len0 hl'
 obtain ⟨v553, e554, q555⟩ : ∃ v, a'.tmps.getD 19 undef = v ∧ (v = (.bool (decide (4 < x324)))) := ⟨_, rfl, hT' 8 (by decide) 19 rfl⟩
 have hE := hE'.add (e554.trans q555)
 refine Step.imp (Run1.pure (r_move hE rfl)) ?_
 rintro _ _ ⟨rfl, rfl⟩
 exact ⟨_, M.le.refl _, hS', rfl⟩
 }
 {
 refine cguard rfl rfl (by decide) (fun _ _ _ h_ => Eq.trans h_ (cb hd329)) fun pre_ post_ L_ T_ m' a' w' hl' hp' hm' hq' hS' hE' hT' => ?_
 obtain rfl := len0 hl'
 refine Step.imp (Run1.pure (r_move hE' rfl)) ?_
 rintro _ _ ⟨rfl, rfl⟩
 exact ⟨_, M.le.refl _, hS', rfl⟩
 }
 {
 refine cguard rfl rfl (by decide) (fun _ _ _ h_ => Eq.trans h_ (cb hd329)) fun pre_ post_ L_ T_ m' a' w' hl' hp' hm' hq' hS' hE' hT' => ?_
 obtain rfl := len0 hl'
 obtain ⟨v558, e559, q560⟩ : ∃ v, a'.tmps.getD 21 undef = v ∧ (v = v0) := ⟨_, rfl, hT' 10 (by decide) 21 rfl⟩
 have hE := hE'.add (e559.trans q560)
 refine Step.imp (st_index (k := (kInt .u8)) hE rfl rfl Try.underlying37 Try.sizeOf5 (ha0.mono hm') hx411) ?_
 rintro v561 _ ⟨rfl, hp412⟩
 exact ⟨_, M.le.refl _, hS', hp412⟩
 }
 {
 refine cguard rfl rfl (by decide) (fun _ _ _ h_ => Eq.trans h_ (cb hd329)) fun pre_ post_ L_ T_ m' a' w' hl' hp' hm' hq' hS' hE' hT' => ?_
 obtain rfl := len0 hl'
 obtain ⟨v562, e563, q564⟩ : ∃ v, a'.tmps.getD 22 undef = v ∧ (PR (kInt .u8) m' v x410) := ⟨_, rfl, hT' 11 (by decide) 22 rfl⟩
 have hE := hE'.add (e563)
 refine Step.imp (st_loadM hE hS' ty5 rfl q564) ?_
 rintro v565 _ ⟨rfl, hv413⟩
 obtain ⟨rfl, hr566⟩ := RV_int hv413
 exact ⟨_, M.le.refl _, hS', ⟨rfl, hr566⟩⟩
 }
 {
 refine cguard rfl rfl (by decide) (fun _ _ _ h_ => Eq.trans h_ (cb hd329)) fun pre_ post_ L_ T_ m' a' w' hl' hp' hm' hq' hS' hE' hT' => ?_
 obtain rfl := len0 hl'
 obtain ⟨v567, e568, q569⟩ : ∃ v, a'.tmps.getD 23 undef = v ∧ (v = (.int .u8 x410) ∧ inR .u8 x410) := ⟨_, rfl, hT' 12 (by decide) 23 rfl⟩
 obtain ⟨q569, hr570⟩ := q569
 have hE := hE'.add (e568.trans q569)
 refine Step.imp (Run1.pure (r_bin hE rfl rfl b_eql)) ?_
 rintro _ _ ⟨rfl, rfl⟩
 exact ⟨_, M.le.refl _, hS', rfl⟩
 }
 {
 refine cplain fun pre_ post_ L_ T_ m' a' w' hl' hp' hm' hq' hS' hE' hT' => ?_
 obtain rfl := len0 hl'
 obtain ⟨v572, e573, q574⟩ : ∃ v, a'.tmps.getD 20 undef = v ∧ (v = (.bool (decide (4 < x324)))) := ⟨_, rfl, hT' 9 (by decide) 20 rfl⟩
 have hE := hE'.add (e573.trans q574)
 obtain ⟨v575, e576, q577⟩ : ∃ v, a'.tmps.getD 24 undef = v ∧ (v = (.bool (x410 == 0))) := ⟨_, rfl, hT' 13 (by decide) 24 rfl⟩
 have hE := hE.add (e576.trans q577)
 refine Step.imp (Run1.pure (r_pickF hE rfl hd329 rfl)) ?_
 rintro _ _ ⟨rfl, rfl⟩
 exact ⟨_, M.le.refl _, hS', rfl⟩
 }
 {
 refine cplain fun pre_ post_ L_ T_ m' a' w' hl' hp' hm' hq' hS' hE' hT' => ?_
 obtain rfl := len0 hl'
 obtain ⟨v579, e580, q581⟩ : ∃ v, a'.tmps.getD 25 undef = v ∧ (v = (.bool (x410 == 0))) := ⟨_, rfl, hT' 14 (by decide) 25 rfl⟩
 have hE := hE'.add (e580.trans q581)
 refine Step.imp (Run1.pure (r_move hE rfl)) ?_
 rintro _ _ ⟨rfl, rfl⟩
 exact ⟨_, M.le.refl _, hS', rfl⟩
 }
 {
 refine cguard rfl rfl (by decide) (fun _ _ _ h_ => Eq.trans h_ (cb hd415)) fun pre_ post_ L_ T_ m' a' w' hl' hp' hm' hq' hS' hE' hT' => ?_
 obtain rfl := len0 hl'
 refine Step.imp (Run1.pure (r_move hE' rfl)) ?_
 rintro _ _ ⟨rfl, rfl⟩
 exact ⟨_, M.le.refl _, hS', rfl⟩
 }
 {
 refine cguard rfl rfl (by decide) (fun _ _ _ h_ => Eq.trans h_ (cb hd415)) fun pre_ post_ L_ T_ m' a' w' hl' hp' hm' hq' hS' hE' hT' => ?_
 obtain rfl := len0 hl'
 obtain ⟨v584, e585, q586⟩ : ∃ v, a'.tmps.getD 27 undef = v ∧ (v = v0) := ⟨_, rfl, hT' 16 (by decide) 27 rfl⟩
 have hE := hE'.add (e585.trans q586)
 refine Step.imp (st_index (k := (kInt .u8)) hE rfl rfl Try.underlying37 Try.sizeOf5 (ha0.mono hm') hx512) ?_
 rintro v587 _ ⟨rfl, hp513⟩
 exact ⟨_, M.le.refl _, hS', hp513⟩
 }
 {
 refine cguard rfl rfl (by decide) (fun _ _ _ h_ => Eq.trans h_ (cb hd415)) fun pre_ post_ L_ T_ m' a' w' hl' hp' hm' hq' hS' hE' hT' => ?_
 obtain rfl := len0 hl'
 obtain ⟨v588, e589, q590⟩ : ∃ v, a'.tmps.getD 28 undef = v ∧ (PR (kInt .u8) m' v x511) := ⟨_, rfl, hT' 17 (by decide) 28 rfl⟩
 have hE := hE'.add (e589)
 refine Step.imp (st_loadM hE hS' ty5 rfl q590) ?_
 rintro v591 _ ⟨rfl, hv514⟩
 obtain ⟨rfl, hr592⟩ := RV_int hv514
 exact ⟨_, M.le.refl _, hS', ⟨rfl, hr592⟩⟩
 }
 {
 refine cguard rfl rfl (by decide) (fun _ _ _ h_ => Eq.trans h_ (cb hd415)) fun pre_ post_ L_ T_ m' a' w' hl' hp' hm' hq' hS' hE' hT' => ?_
 obtain rfl := len0 hl'
 obtain ⟨v593, e594, q595⟩ : ∃ v, a'.tmps.getD 29 undef = v ∧ (v = (.int .u8 x511) ∧ inR .u8 x511) := ⟨_, rfl, hT' 18 (by decide) 29 rfl⟩
 obtain ⟨q595, hr596⟩ := q595
 have hE := hE'.add (e594.trans q595)
 refine Step.imp (Run1.pure (r_bin hE rfl rfl b_gtr)) ?_
 rintro _ _ ⟨rfl, rfl⟩
 exact ⟨_, M.le.refl _, hS', rfl⟩
 }
 {
 refine cplain fun pre_ post_ L_ T_ m' a' w' hl' hp' hm' hq' hS' hE' hT' => ?_
 obtain rfl := len0 hl'
 obtain ⟨v598, e599, q600⟩ : ∃ v, a'.tmps.getD 26 undef = v ∧ (v = (.bool (x410 == 0))) := ⟨_, rfl, hT' 15 (by decide) 26 rfl⟩
 have hE := hE'.add (e599.trans q600)
 obtain ⟨v601, e602, q603⟩ : ∃ v, a'.tmps.getD 30 undef = v ∧ (v = (.bool (decide (64 < x511)))) := ⟨_, rfl, hT' 19 (by decide) 30 rfl⟩
 have hE := hE.add (e602.trans q603)
 refine Step.imp (Run1.pure (r_pickF hE rfl hd415 rfl)) ?_
 rintro _ _ ⟨rfl, rfl⟩
 exact ⟨_, M.le.refl _, hS', rfl⟩
 }
 {
 refine cplain fun pre_ post_ L_ T_ m' a' w' hl' hp' hm' hq' hS' hE' hT' => ?_
 obtain rfl := len0 hl'
 obtain ⟨v605, e606, q607⟩ : ∃ v, a'.tmps.getD 31 undef = v ∧ (v = (.bool (decide (64 < x511)))) := ⟨_, rfl, hT' 20 (by decide) 31 rfl⟩
 have hE := hE'.add (e606.trans q607)
 refine Step.imp (Run1.pure (r_move hE rfl)) ?_
 rintro _ _ ⟨rfl, rfl⟩
 exact ⟨_, M.le.refl _, hS', rfl⟩
 }
 {
 exact cskip (b := true) rfl rfl (by decide) (fun _ _ _ h_ => Eq.trans h_ (cb hd516)) (by decide) (fun _ _ => rfl)
 }
 {
 exact cskip (b := true) rfl rfl (by decide) (fun _ _ _ h_ => Eq.trans h_ (cb hd516)) (by decide) (fun _ _ => rfl)
 }
 {
 exact cskip (b := true) rfl rfl (by decide) (fun _ _ _ h_ => Eq.trans h_ (cb hd516)) (by decide) (fun _ _ => rfl)
 }
 {
 exact cskip (b := true) rfl rfl (by decide) (fun _ _ _ h_ => Eq.trans h_ (cb hd516)) (by decide) (fun _ _ => rfl)
 }
 {
 exact cskip (b := true) rfl rfl (by decide) (fun _ _ _ h_ => Eq.trans h_ (cb hd516)) (by decide) (fun _ _ => rfl)
 }
 {
 exact cskip (b := true) rfl rfl (by decide) (fun _ _ _ h_ => Eq.trans h_ (cb hd516)) (by decide) (fun _ _ => rfl)
 }
 }
 {
 intro ws_ L_ T_ m609 a w hl610 hm611 hq612 hS hd613 hn614 ho615 hT616
 obtain rfl := len0 hl610
 obtain ⟨rfl, rfl⟩ := hq612
 have hE := EnvD.of (k := 28) (l' := [(0, v0), (2, (.pointer (some ⟨b1, 0, none⟩))), (3, (.int .i64 0)), (4, (.int .i64 0))]) hd613 hn614 ho615 ⟨rfl, rfl, rfl, rfl, trivial⟩ rfl
 obtain ⟨v617, e618, q619⟩ : ∃ v, a.tmps.getD 32 undef = v ∧ (v = (.bool (decide (64 < x511)))) := ⟨_, rfl, hT616 21 (by decide) 32 rfl⟩
 have hE := hE.add (e618.trans q619)
 obtain ⟨v620, e621, q622⟩ : ∃ v, a.tmps.getD 35 undef = v ∧ (v = undef) := ⟨_, rfl, hT616 24 (by decide) 35 rfl⟩
 have hE := hE.add (e621.trans q622)
 obtain ⟨v623, e624, q625⟩ : ∃ v, a.tmps.getD 38 undef = v ∧ (v = undef) := ⟨_, rfl, hT616 27 (by decide) 38 rfl⟩
 have hE := hE.add (e624.trans q625)
 refine sx hE rfl rfl rfl rfl hd516 rfl fun a hE => ?_
 refine sp hE (r_pickT hE rfl hd516 rfl) rfl fun a hE => ?_
 refine knil ?_
 exact ⟨true, h, _, hm611, hS, hE.cut ⟨rfl, rfl, rfl, trivial⟩⟩
 }
 }
 {
 have h := ite_F hd516 h
 obtain ⟨x627, hx628, h⟩ := ob h
 obtain ⟨x632, hx633, h⟩ := ob h
 refine kchain (k := 28) (m := m) (es := []) (Φ := (fun i m ws v => match i with | 0 => v = v0 | 1 => v = (.int .i64 (p0.length : Int)) ∧ inR .i64 (p0.length : Int) | 2 => v = (.bool (decide ((p0.length : Int) < 3))) | 3 => v = (.bool (decide ((p0.length : Int) < 3))) | 4 => v = v0 | 5 => PR (kInt .u8) m v x324 | 6 => v = (.int .u8 x324) ∧ inR .u8 x324 | 7 => v = (.bool (decide (4 < x324))) | 8 => v = (.bool (decide (4 < x324))) | 9 => v = (.bool (decide (4 < x324))) | 10 => v = v0 | 11 => PR (kInt .u8) m v x410 | 12 => v = (.int .u8 x410) ∧ inR .u8 x410 | 13 => v = (.bool (x410 == 0)) | 14 => v = (.bool (x410 == 0)) | 15 => v = (.bool (x410 == 0)) | 16 => v = v0 | 17 => PR (kInt .u8) m v x511 | 18 => v = (.int .u8 x511) ∧ inR .u8 x511 | 19 => v = (.bool (decide (64 < x511))) | 20 => v = (.bool (decide (64 < x511))) | 21 => v = (.bool (decide (64 < x511))) | 22 => v = v0 | 23 => PR (kInt .u8) m v x627 | 24 => v = (.int .u8 x627) ∧ inR .u8 x627 | 25 => v = v0 | 26 => PR (kInt .u8) m v x632 | 27 => v = (.int .u8 x632) ∧ inR .u8 x632 | _ => True)) (Q := (fun c m ws L' TL' => match c with | 0 => (b1, zc72) :: L = L' ∧ TL = TL' | _ => False)) (cs := [⟨0, 0, false, [(0, v0)]⟩, ⟨0, 0, false, []⟩, ⟨0, 0, false, []⟩, ⟨0, 0, false, []⟩, ⟨0, 0, false, [(0, v0)]⟩, ⟨0, 0, false, []⟩, ⟨0, 0, false, []⟩, ⟨0, 0, false, []⟩, ⟨0, 0, false, []⟩, ⟨0, 0, false, []⟩, ⟨0, 0, false, [(0, v0)]⟩, ⟨0, 0, false, []⟩, ⟨0, 0, false, []⟩, ⟨0, 0, false, []⟩, ⟨0, 0, false, []⟩, ⟨0, 0, false, []⟩, ⟨0, 0, false, [(0, v0)]⟩, ⟨0, 0, false, []⟩, ⟨0, 0, false, []⟩, ⟨0, 0, false, []⟩, ⟨0, 0, false, []⟩, ⟨0, 0, false, []⟩, ⟨0, 0, false, [(0, v0)]⟩, ⟨0, 0, false, []⟩, ⟨0, 0, false, []⟩, ⟨0, 0, false, [(0, v0)]⟩, ⟨0, 0, false, []⟩, ⟨0, 0, false, []⟩]) mixed hE hS ⟨rfl, rfl⟩ rfl rfl ⟨⟨rfl, trivial⟩, trivial, trivial, trivial, ⟨rfl, trivial⟩, trivial, trivial, trivial, trivial, trivial, ⟨rfl, trivial⟩, trivial, trivial, trivial, trivial, trivial, ⟨rfl, trivial⟩, trivial, trivial, trivial, trivial, trivial, ⟨rfl, trivial⟩, trivial, trivial, ⟨rfl, trivial⟩, trivial, trivial, trivial⟩ (by kernel_rfl) ?_ ?_ ?_ ?_
 {
 intro i m_ m2_ ws v hm_ hp_
 match i, hp_ with
 | 0, hp_ => exact hp_
 | 1, hp_ => exact hp_
 | 2, hp_ => exact hp_
 | 3, hp_ => exact hp_
 | 4, hp_ => exact hp_
 | 5, hp_ => exact PR.mono hp_ hm_
 | 6, hp_ => exact hp_
 | 7, hp_ => exact hp_
 | 8, hp_ => exact hp_
 | 9, hp_ => exact hp_
 | 10, hp_ => exact hp_
 | 11, hp_ => exact PR.mono hp_ hm_
 | 12, hp_ => exact hp_
 | 13, hp_ => exact hp_
 | 14, hp_ => exact hp_
 | 15, hp_ => exact hp_
 | 16, hp_ => exact hp_
 | 17, hp_ => exact PR.mono hp_ hm_
 | 18, hp_ => exact hp_
 | 19, hp_ => exact hp_
 | 20, hp_ => exact hp_
 | 21, hp_ => exact hp_
 | 22, hp_ => exact hp_
 | 23, hp_ => exact PR.mono hp_ hm_
 | 24, hp_ => exact hp_
 | 25, hp_ => exact hp_
 | 26, hp_ => exact PR.mono hp_ hm_
 | 27, hp_ => exact hp_
 | _ + 28, hp_ => exact trivial
 }
 {
 intro c m_ m2_ ws L_ T_ hm_ hq_
 match c, hq_ with
 | 0, ⟨e1_, e2_⟩ => exact ⟨e1_, e2_⟩
 | _ + 1, hq_ => exact hq_.elim
 }
 {
 refine ⟨?_, ?_, ?_, ?_, ?_, ?_, ?_, ?_, ?_, ?_, ?_, ?_, ?_, ?_, ?_, ?_, ?_, ?_, ?_, ?_, ?_, ?_, ?_, ?_, ?_, ?_, ?_, ?_, trivial⟩
 {
 refine cplain fun pre_ post_ L_ T_ m' a' w' hl' hp' hm' hq' hS' hE' hT' => ?_
 obtain rfl := len0 hl'
 refine Step.imp (Run1.pure (r_move hE' rfl)) ?_
 rintro _ _ ⟨rfl, rfl⟩
 exact ⟨_, M.le.refl _, hS', rfl⟩
 }
 {
 refine cplain fun pre_ post_ L_ T_ m' a' w' hl' hp' hm' hq' hS' hE' hT' => ?_
 obtain rfl := len0 hl'
 obtain ⟨v638, e639, q640⟩ : ∃ v, a'.tmps.getD 11 undef = v ∧ (v = v0) := ⟨_, rfl, hT' 0 (by decide) 11 rfl⟩
 have hE := hE'.add (e639.trans q640)
 refine Step.imp (Run1.pure (r_lenSl (k := (kInt .u8)) hE rfl rfl Try.underlying37 (ha0.mono hm'))) ?_
 rintro _ _ ⟨rfl, rfl⟩
 exact ⟨_, M.le.refl _, hS', ⟨rfl, (inR_len (RV_len (ha0.mono hm')))⟩⟩
 }
 {
 refine cplain fun pre_ post_ L_ T_ m' a' w' hl' hp' hm' hq' hS' hE' hT' => ?_
 obtain rfl := len0 hl'
 obtain ⟨v642, e643, q644⟩ : ∃ v, a'.tmps.getD 12 undef = v ∧ (v = (.int .i64 (p0.length : Int)) ∧ inR .i64 (p0.length : Int)) := ⟨_, rfl, hT' 1 (by decide) 12 rfl⟩
 obtain ⟨q644, hr645⟩ := q644
 have hE := hE'.add (e643.trans q644)
 refine Step.imp (Run1.pure (r_bin hE rfl rfl b_lss)) ?_
 rintro _ _ ⟨rfl, rfl⟩
 exact ⟨_, M.le.refl _, hS', rfl⟩
 }
 {
 refine cplain fun pre_ post_ L_ T_ m' a' w' hl' hp' hm' hq' hS' hE' hT' => ?_
 obtain rfl := len0 hl'
 obtain ⟨v647, e648, q649⟩ : ∃ v, a'.tmps.getD 13 undef = v ∧ (v = (.bool (decide ((p0.length : Int) < 3)))) := ⟨_, rfl, hT' 2 (by decide) 13 rfl⟩
 have hE := hE'.add (e648.trans q649)
 refine Step.imp (Run1.pure (r_move hE rfl)) ?_
 rintro _ _ ⟨rfl, rfl⟩
 exact ⟨_, M.le.refl _, hS', rfl⟩
 }
 {
 refine cguard rfl rfl (by decide) (fun _ _ _ h_ => Eq.trans h_ (cb hd258)) fun pre_ post_ L_ T_ m' a' w' hl' hp' hm' hq' hS' hE' hT' => ?_
 obtain rfl := len0 hl'
 refine Step.imp (Run1.pure (r_move hE' rfl)) ?_
 rintro _ _ ⟨rfl, rfl⟩
 exact ⟨_, M.le.refl _, hS', rfl⟩
 }
 {
 refine cguard rfl rfl (by decide) (fun _ _ _ h_ => Eq.trans h_ (cb hd258)) fun pre_ post_ L_ T_ m' a' w' hl' hp' hm' hq' hS' hE' hT' => ?_
 obtain rfl := len0 hl'
 obtain ⟨v652, e653, q654⟩ : ∃ v, a'.tmps.getD 15 undef = v ∧ (v = v0) := ⟨_, rfl, hT' 4 (by decide) 15 rfl⟩
 have hE := hE'.add (e653.trans q654)
 refine Step.imp (st_index (k := (kInt .u8)) hE rfl rfl Try.underlying37 Try.sizeOf5 (ha0.mono hm') hx325) ?_
 rintro v655 _ ⟨rfl, hp326⟩
 exact ⟨_, M.le.refl _, hS', hp326⟩
 }
 {
 refine cguard rfl rfl (by decide) (fun _ _ _ h_ => Eq.trans h_ (cb hd258)) fun pre_ post_ L_ T_ m' a' w' hl' hp' hm' hq' hS' hE' hT' => ?_
 obtain rfl := len0 hl'
 obtain ⟨v656, e657, q658⟩ : ∃ v, a'.tmps.getD 16 undef = v ∧ (PR (kInt .u8) m' v x324) := ⟨_, rfl, hT' 5 (by decide) 16 rfl⟩
 have hE := hE'.add (e657)
 refine Step.imp (st_loadM hE hS' ty5 rfl q658) ?_
 rintro v659 _ ⟨rfl, hv327⟩
 obtain ⟨rfl, hr660⟩ := RV_int hv327
 exact ⟨_, M.le.refl _, hS', ⟨rfl, hr660⟩⟩
 }
 {
 refine cguard rfl rfl (by decide) (fun _ _ _ h_ => Eq.trans h_ (cb hd258)) fun pre_ post_ L_ T_ m' a' w' hl' hp' hm' hq' hS' hE' hT' => ?_
 obtain rfl := len0 hl'
 obtain ⟨v661, e662, q663⟩ : ∃ v, a'.tmps.getD 17 undef = v ∧ (v = (.int .u8 x324) ∧ inR .u8 x324) := ⟨_, rfl, hT' 6 (by decide) 17 rfl⟩
 obtain ⟨q663, hr664⟩ := q663
 have hE := hE'.add (e662.trans q663)
 refine Step.imp (Run1.pure (r_bin hE rfl rfl b_gtr)) ?_
 rintro _ _ ⟨rfl, rfl⟩
 exact ⟨_, M.le.refl _, hS', rfl⟩
 }
 {
 refine cplain fun pre_ post_ L_ T_ m' a' w' hl' hp' hm' hq' hS' hE' hT' => ?_
 obtain rfl := len0 hl'
 obtain ⟨v666, e667, q668⟩ : ∃ v, a'.tmps.getD 14 undef = v ∧ (v = (.bool (decide ((p0.length : Int) < 3)))) := ⟨_, rfl, hT' 3 (by decide) 14 rfl⟩
 have hE := hE'.add (e667.trans q668)
 obtain ⟨v669, e670, q671⟩ : ∃ v, a'.tmps.getD 18 undef = v ∧ (v = (.bool (decide (4 < x324)))) := ⟨_, rfl, hT' 7 (by decide) 18 rfl⟩
 have hE := hE.add (e670.trans q671)
 refine Step.imp (Run1.pure (r_pickF hE rfl hd258 rfl)) ?_
 rintro _ _ ⟨rfl, rfl⟩
 exact ⟨_, M.le.refl _, hS', rfl⟩
 }
 {
 refine cplain fun pre_ post_ L_ T_ m' a' w' hl' hp' hm' hq' hS' hE' hT' => ?_
 obtain rfl := len0 hl'
 obtain ⟨v673, e674, q675⟩ : ∃ v, a'.tmps.getD 19 undef = v ∧ (v = (.bool (decide (4 < x324)))) := ⟨_, rfl, hT' 8 (by decide) 19 rfl⟩
 have hE := hE'.add (e674.trans q675)
 refine Step.imp (Run1.pure (r_move hE rfl)) ?_
 rintro _ _ ⟨rfl, rfl⟩
 exact ⟨_, M.le.refl _, hS', rfl⟩
 }
 {
 refine cguard rfl rfl (by decide) (fun _ _ _ h_ => Eq.trans h_ (cb hd329)) fun pre_ post_ L_ T_ m' a' w' hl' hp' hm' hq' hS' hE' hT' => ?_
 obtain rfl := len0 hl'
 refine Step.imp (Run1.pure (r_move hE' rfl)) ?_
 rintro _ _ ⟨rfl, rfl⟩
 exact ⟨_, M.le.refl _, hS', rfl⟩
 }
 {
 refine cguard rfl rfl (by decide) (fun _ _ _ h_ => Eq.trans h_ (cb hd329)) fun pre_ post_ L_ T_ m' a' w' hl' hp' hm' hq' hS' hE' hT' => ?_
 obtain rfl := len0 hl'
 obtain ⟨v678, e679, q680⟩ : ∃ v, a'.tmps.getD 21 undef = v ∧ (v = v0) := ⟨_, rfl, hT' 10 (by decide) 21 rfl⟩
 have hE := hE'.add (e679.trans q680)
 refine Step.imp (st_index (k := (kInt .u8)) hE rfl rfl Try.underlying37 Try.sizeOf5 (ha0.mono hm') hx411) ?_
 rintro v681 _ ⟨rfl, hp412⟩
 exact ⟨_, M.le.refl _, hS', hp412⟩
 }
 {
 refine cguard rfl rfl (by decide) (fun _ _ _ h_ => Eq.trans h_ (cb hd329)) fun pre_ post_ L_ T_ m' a' w' hl' hp' hm' hq' hS' hE' hT' => ?_
 obtain rfl := len0 hl'
 obtain ⟨v682, e683, q684⟩ : ∃ v, a'.tmps.getD 22 undef = v ∧ (PR (kInt .u8) m' v x410) := ⟨_, rfl, hT' 11 (by decide) 22 rfl⟩
 have hE := hE'.add (e683)
 refine Step.imp (st_loadM hE hS' ty5 rfl q684) ?_
 rintro v685 _ ⟨rfl, hv413⟩
 obtain ⟨rfl, hr686⟩ := RV_int hv413
 exact ⟨_, M.le.refl _, hS', ⟨rfl, hr686⟩⟩
 }
 {
 refine cguard rfl rfl (by decide) (fun _ _ _ h_ => Eq.trans h_ (cb hd329)) fun pre_ post_ L_ T_ m' a' w' hl' hp' hm' hq' hS' hE' hT' => ?_
 obtain rfl := len0 hl'
 obtain ⟨v687, e688, q689⟩ : ∃ v, a'.tmps.getD 23 undef = v ∧ (v = (.int .u8 x410) ∧ inR .u8 x410) := ⟨_, rfl, hT' 12 (by decide) 23 rfl⟩
 obtain ⟨q689, hr690⟩ := q689
 have hE := hE'.add (e688.trans q689)
 refine Step.imp (Run1.pure (r_bin hE rfl rfl b_eql)) ?_
 rintro _ _ ⟨rfl, rfl⟩
 exact ⟨_, M.le.refl _, hS', rfl⟩
 }
 {
 refine cplain fun pre_ post_ L_ T_ m' a' w' hl' hp' hm' hq' hS' hE' hT' => ?_
 obtain rfl := len0 hl'
 obtain ⟨v692, e693, q694⟩ : ∃ v, a'.tmps.getD 20 undef = v ∧ (v = (.bool (decide (4 < x324)))) := ⟨_, rfl, hT' 9 (by decide) 20 rfl⟩
 have hE := hE'.add (e693.trans q694)
 obtain ⟨v695, e696, q697⟩ : ∃ v, a'.tmps.getD 24 undef = v ∧ (v = (.bool (x410 == 0))) := ⟨_, rfl, hT' 13 (by decide) 24 rfl⟩
 have hE := hE.add (e696.trans q697)
 refine Step.imp (Run1.pure (r_pickF hE rfl hd329 rfl)) ?_
 rintro _ _ ⟨rfl, rfl⟩
 exact ⟨_, M.le.refl _, hS', rfl⟩
 }
 {
 refine cplain fun pre_ post_ L_ T_ m' a' w' hl' hp' hm' hq' hS' hE' hT' => ?_
 obtain rfl := len0 hl'
 obtain ⟨v699, e700, q701⟩ : ∃ v, a'.tmps.getD 25 undef = v ∧ (v = (.bool (x410 == 0))) := ⟨_, rfl, hT' 14 (by decide) 25 rfl⟩
 have hE := hE'.add (e700.trans q701)
 refine Step.imp (Run1.pure (r_move hE rfl)) ?_
 rintro _ _ ⟨rfl, rfl⟩
 exact ⟨_, M.le.refl _, hS', rfl⟩
 }
 {
 refine cguard rfl rfl (by decide) (fun _ _ _ h_ => Eq.trans h_ (cb hd415)) fun pre_ post_ L_ T_ m' a' w' hl' hp' hm' hq' hS' hE' hT' => ?_
 obtain rfl := len0 hl'
 refine Step.imp (Run1.pure (r_move hE' rfl)) ?_
 rintro _ _ ⟨rfl, rfl⟩
 exact ⟨_, M.le.refl _, hS', rfl⟩
 }
 {
 refine cguard rfl rfl (by decide) (fun _ _ _ h_ => Eq.trans h_ (cb hd415)) fun pre_ post_ L_ T_ m' a' w' hl' hp' hm' hq' hS' hE' hT' => ?_
 obtain rfl := len0 hl'
 obtain ⟨v704, e705, q706⟩ : ∃ v, a'.tmps.getD 27 undef = v ∧ (v = v0) := ⟨_, rfl, hT' 16 (by decide) 27 rfl⟩
 have hE := hE'.add (e705.trans q706)
 refine Step.imp (st_index (k := (kInt .u8)) hE rfl rfl Try.underlying37 Try.sizeOf5 (ha0.mono hm') hx512) ?_
 rintro v707 _ ⟨rfl, hp513⟩
 exact ⟨_, M.le.refl _, hS', hp513⟩
 }
 {
 refine cguard rfl rfl (by decide) (fun _ _ _ h_ => Eq.trans h_ (cb hd415)) fun pre_ post_ L_ T_ m' a' w' hl' hp' hm' hq' hS' hE' hT' => ?_
 obtain rfl := len0 hl'
 obtain ⟨v708, e709, q710⟩ : ∃ v, a'.tmps.getD 28 undef = v ∧ (PR (kInt .u8) m' v x511) := ⟨_, rfl, hT' 17 (by decide) 28 rfl⟩
 have hE := hE'.add (e709)
 refine Step.imp (st_loadM hE hS' ty5 rfl q710) ?_
 rintro v711 _ ⟨rfl, hv514⟩
 obtain ⟨rfl, hr712⟩ := RV_int hv514
 exact ⟨_, M.le.refl _, hS', ⟨rfl, hr712⟩⟩
 }
 {
 refine cguard rfl rfl (by decide) (fun _ _ _ h_ => Eq.trans h_ (cb hd415)) fun pre_ post_ L_ T_ m' a' w' hl' hp' hm' hq' hS' hE' hT' => ?_
 obtain rfl := len0 hl'
 obtain ⟨v713, e714, q715⟩ : ∃ v, a'.tmps.getD 29 undef = v ∧ (v = (.int .u8 x511) ∧ inR .u8 x511) := ⟨_, rfl, hT' 18 (by decide) 29 rfl⟩
 obtain ⟨q715, hr716⟩ := q715
 have hE := hE'.add (e714.trans q715)
 refine Step.imp (Run1.pure (r_bin hE rfl rfl b_gtr)) ?_
 rintro _ _ ⟨rfl, rfl⟩
 exact ⟨_, M.le.refl _, hS', rfl⟩
 }
 {
 refine cplain fun pre_ post_ L_ T_ m' a' w' hl' hp' hm' hq' hS' hE' hT' => ?_
 obtain rfl := len0 hl'
 obtain ⟨v718, e719, q720⟩ : ∃ v, a'.tmps.getD 26 undef = v ∧ (v = (.bool (x410 == 0))) := ⟨_, rfl, hT' 15 (by decide) 26 rfl⟩
 have hE := hE'.add (e719.trans q720)
 obtain ⟨v721, e722, q723⟩ : ∃ v, a'.tmps.getD 30 undef = v ∧ (v = (.bool (decide (64 < x511)))) := ⟨_, rfl, hT' 19 (by decide) 30 rfl⟩
 have hE := hE.add (e722.trans q723)
 refine Step.imp (Run1.pure (r_pickF hE rfl hd415 rfl)) ?_
 rintro _ _ ⟨rfl, rfl⟩
 exact ⟨_, M.le.refl _, hS', rfl⟩
 }
 {
 refine cplain fun pre_ post_ L_ T_ m' a' w' hl' hp' hm' hq' hS' hE' hT' => ?_
 obtain rfl := len0 hl'
 obtain ⟨v725, e726, q727⟩ : ∃ v, a'.tmps.getD 31 undef = v ∧ (v = (.bool (decide (64 < x511)))) := ⟨_, rfl, hT' 20 (by decide) 31 rfl⟩
 have hE := hE'.add (e726.trans q727)
 refine Step.imp (Run1.pure (r_move hE rfl)) ?_
 rintro _ _ ⟨rfl, rfl⟩
 exact ⟨_, M.le.refl _, hS', rfl⟩
 }
 {
 refine cguard rfl rfl (by decide) (fun _ _ _ h_ => Eq.trans h_ (cb hd516)) fun pre_ post_ L_ T_ m' a' w' hl' hp' hm' hq' hS' hE' hT' => ?_
 obtain rfl := len0 hl'
 refine Step.imp (Run1.pure (r_move hE' rfl)) ?_
 rintro _ _ ⟨rfl, rfl⟩
 exact ⟨_, M.le.refl _, hS', rfl⟩
 }
 {
 refine cguard rfl rfl (by decide) (fun _ _ _ h_ => Eq.trans h_ (cb hd516)) fun pre_ post_ L_ T_ m' a' w' hl' hp' hm' hq' hS' hE' hT' => ?_
 obtain rfl := len0 hl'
 obtain ⟨v730, e731, q732⟩ : ∃ v, a'.tmps.getD 33 undef = v ∧ (v = v0) := ⟨_, rfl, hT' 22 (by decide) 33 rfl⟩
 have hE := hE'.add (e731.trans q732)
 refine Step.imp (st_index (k := (kInt .u8)) hE rfl rfl Try.underlying37 Try.sizeOf5 (ha0.mono hm') hx628) ?_
 rintro v733 _ ⟨rfl, hp629⟩
 exact ⟨_, M.le.refl _, hS', hp629⟩
 }
 {
 refine cguard rfl rfl (by decide) (fun _ _ _ h_ => Eq.trans h_ (cb hd516)) fun pre_ post_ L_ T_ m' a' w' hl' hp' hm' hq' hS' hE' hT' => ?_
 obtain rfl := len0 hl'
 obtain ⟨v734, e735, q736⟩ : ∃ v, a'.tmps.getD 34 undef = v ∧ (PR (kInt .u8) m' v x627) := ⟨_, rfl, hT' 23 (by decide) 34 rfl⟩
 have hE := hE'.add (e735)
 refine Step.imp (st_loadM hE hS' ty5 rfl q736) ?_
 rintro v737 _ ⟨rfl, hv630⟩
 obtain ⟨rfl, hr738⟩ := RV_int hv630
 exact ⟨_, M.le.refl _, hS', ⟨rfl, hr738⟩⟩
 }
 {
 refine cguard rfl rfl (by decide) (fun _ _ _ h_ => Eq.trans h_ (cb hd516)) fun pre_ post_ L_ T_ m' a' w' hl' hp' hm' hq' hS' hE' hT' => ?_
 obtain rfl := len0 hl'
 refine Step.imp (Run1.pure (r_move hE' rfl)) ?_
 rintro _ _ ⟨rfl, rfl⟩
 exact ⟨_, M.le.refl _, hS', rfl⟩
 }
 {
 refine cguard rfl rfl (by decide) (fun _ _ _ h_ => Eq.trans h_ (cb hd516)) fun pre_ post_ L_ T_ m' a' w' hl' hp' hm' hq' hS' hE' hT' => ?_
 obtain rfl := len0 hl'
 obtain ⟨v740, e741, q742⟩ : ∃ v, a'.tmps.getD 36 undef = v ∧ (v = v0) := ⟨_, rfl, hT' 25 (by decide) 36 rfl⟩
 have hE := hE'.add (e741.trans q742)
 refine Step.imp (st_index (k := (kInt .u8)) hE rfl rfl Try.underlying37 Try.sizeOf5 (ha0.mono hm') hx633) ?_
 rintro v743 _ ⟨rfl, hp634⟩
 exact ⟨_, M.le.refl _, hS', hp634⟩
 }
 {
 refine cguard rfl rfl (by decide) (fun _ _ _ h_ => Eq.trans h_ (cb hd516)) fun pre_ post_ L_ T_ m' a' w' hl' hp' hm' hq' hS' hE' hT' => ?_
 obtain rfl := len0 hl'
 obtain ⟨v744, e745, q746⟩ : ∃ v, a'.tmps.getD 37 undef = v ∧ (PR (kInt .u8) m' v x632) := ⟨_, rfl, hT' 26 (by decide) 37 rfl⟩
 have hE := hE'.add (e745)
 refine Step.imp (st_loadM hE hS' ty5 rfl q746) ?_
 rintro v747 _ ⟨rfl, hv635⟩
 obtain ⟨rfl, hr748⟩ := RV_int hv635
 exact ⟨_, M.le.refl _, hS', ⟨rfl, hr748⟩⟩
 }
 }
 {
 intro ws_ L_ T_ m749 a w hl750 hm751 hq752 hS hd753 hn754 ho755 hT756
 obtain rfl := len0 hl750
 obtain ⟨rfl, rfl⟩ := hq752
 have hE := EnvD.of (k := 28) (l' := [(0, v0), (2, (.pointer (some ⟨b1, 0, none⟩))), (3, (.int .i64 0)), (4, (.int .i64 0))]) hd753 hn754 ho755 ⟨rfl, rfl, rfl, rfl, trivial⟩ rfl
 obtain ⟨v757, e758, q759⟩ : ∃ v, a.tmps.getD 32 undef = v ∧ (v = (.bool (decide (64 < x511)))) := ⟨_, rfl, hT756 21 (by decide) 32 rfl⟩
 have hE := hE.add (e758.trans q759)
 obtain ⟨v760, e761, q762⟩ : ∃ v, a.tmps.getD 35 undef = v ∧ (v = (.int .u8 x627) ∧ inR .u8 x627) := ⟨_, rfl, hT756 24 (by decide) 35 rfl⟩
 obtain ⟨q762, hr763⟩ := q762
 have hE := hE.add (e761.trans q762)
 obtain ⟨v764, e765, q766⟩ : ∃ v, a.tmps.getD 38 undef = v ∧ (v = (.int .u8 x632) ∧ inR .u8 x632) := ⟨_, rfl, hT756 27 (by decide) 38 rfl⟩
 obtain ⟨q766, hr767⟩ := q766
 have hE := hE.add (e765.trans q766)
 refine spg hE rfl rfl rfl rfl hd516 (r_bin hE rfl rfl b_gtr) rfl fun a hE => ?_
 refine sp hE (r_pickF hE rfl hd516 rfl) rfl fun a hE => ?_
 refine knil ?_
 exact ⟨(decide (x632 < x627)), h, _, hm751, hS, hE.cut ⟨rfl, rfl, rfl, trivial⟩⟩
 }
 }
 }
 }
 }
 }
 {
 rintro a w ⟨x7, h, m5, hm6, hS, hE⟩
 unfold hayloftref07_Head_j1 at h
 refine kif hE rfl (fun hd9 => ?_) (fun hd9 => ?_)
 {
 have h := ite_T hd9 h
 refine kseq (kreg ?_)
 refine st hE (st_build (m := m5) (k := kHayloftref07_Info) (x0 := Hayloftref07_Info.zero) (xx := (⟨0, 0, AV.zero, AV.zero, 0, 0⟩ : Hayloftref07_Info)) (pl := [(0, 1), (1, 1), (2, 4), (6, 4), (10, 1), (11, 1)]) (pv := []) hE rfl Try.underlying72 rfl Try.zeroValue72 zr72 rfl .nil) rfl ?_
 rintro v11 a _ ⟨rfl, hv10⟩ hE
 refine st0 hE (st_storeF hE hS ty72 StF_self rfl rfl hv10 (i := 0) rfl (zr72 _)) ?_
 rintro _ w ⟨cs12, hc13, hS⟩ hE
 refine qa hE rfl rfl fun a hE => ?_
 refine qa hE rfl rfl fun a hE => ?_
 refine knil (kret ?_)
 obtain rfl := oi h
 try dsimp only
 refine Fin.mk hE (rs := [.cell 2 72, .tmp 3, .tmp 4]) rfl (ResL.cell hE hS ty72 rfl (i := 0) rfl (R_whole hc13) (ResL.tmp hE rfl (ResL.tmp hE rfl ResL.nil))) ?_
 exact ⟨_, hm6, (hS.dropL 1), _, _, _, rfl, (RV_of_R (R_whole hc13)), (RV_of_int (show inR .i64 0 from inR_lit (by decide))), (RV_of_int (show inR .i64 70 from inR_lit (by decide)))⟩
 }
 {
 have h := ite_F hd9 h
 refine kskip (kseq ?_)
 obtain ⟨x17, hx18, h⟩ := ob h
 obtain ⟨x22, hx23, h⟩ := ob h
 obtain ⟨x27, hx28, h⟩ := ob h
 refine kchain (k := 14) (m := m5) (es := [13]) (Φ := (fun i m ws v => match i with | 0 => v = v0 | 1 => PR (kInt .u8) m v x17 | 2 => v = (.int .u8 x17) ∧ inR .u8 x17 | 3 => v = (.int .i64 (IntKind.i64.wrap x17)) ∧ inR .i64 (IntKind.i64.wrap x17) | 4 => v = v0 | 5 => PR (kInt .u8) m v x22 | 6 => v = (.int .u8 x22) ∧ inR .u8 x22 | 7 => v = (.int .i64 (IntKind.i64.wrap x22)) ∧ inR .i64 (IntKind.i64.wrap x22) | 8 => v = v0 | 9 => PR (kInt .u8) m v x27 | 10 => v = (.int .u8 x27) ∧ inR .u8 x27 | 11 => v = (.int .i64 (IntKind.i64.wrap x27)) ∧ inR .i64 (IntKind.i64.wrap x27) | 12 => RV kHayloftref07_Info m v (⟨IntKind.i64.wrap x17, IntKind.i64.wrap x22, AV.zero, AV.zero, IntKind.i64.wrap x27, 0⟩ : Hayloftref07_Info) | 13 => v = (.pointer (some ⟨(wi ws 0).b, 0, none⟩)) | _ => True)) (Q := (fun c m ws L' TL' => match c with | 0 => (b1, zc72) :: L = L' ∧ TL = TL' | 1 => ((wi ws 0).b, zc72) :: (b1, zc72) :: L = L' ∧ TL = TL' | _ => False)) (cs := [⟨0, 1, false, [(0, v0)]⟩, ⟨0, 1, false, []⟩, ⟨0, 1, false, []⟩, ⟨0, 1, false, []⟩, ⟨0, 1, false, [(0, v0)]⟩, ⟨0, 1, false, []⟩, ⟨0, 1, false, []⟩, ⟨0, 1, false, []⟩, ⟨0, 1, false, [(0, v0)]⟩, ⟨0, 1, false, []⟩, ⟨0, 1, false, []⟩, ⟨0, 1, false, []⟩, ⟨0, 1, false, []⟩, ⟨0, 0, true, []⟩]) mixed hE hS ⟨rfl, rfl⟩ rfl rfl ⟨⟨rfl, trivial⟩, trivial, trivial, trivial, ⟨rfl, trivial⟩, trivial, trivial, trivial, ⟨rfl, trivial⟩, trivial, trivial, trivial, trivial, trivial, trivial⟩ (by kernel_rfl) ?_ ?_ ?_ ?_
 {
 intro i m_ m2_ ws v hm_ hp_
 match i, hp_ with
 | 0, hp_ => exact hp_
 | 1, hp_ => exact PR.mono hp_ hm_
 | 2, hp_ => exact hp_
 | 3, hp_ => exact hp_
 | 4, hp_ => exact hp_
 | 5, hp_ => exact PR.mono hp_ hm_
 | 6, hp_ => exact hp_
 | 7, hp_ => exact hp_
 | 8, hp_ => exact hp_
 | 9, hp_ => exact PR.mono hp_ hm_
 | 10, hp_ => exact hp_
 | 11, hp_ => exact hp_
 | 12, hp_ => exact RV.mono hp_ hm_
 | 13, hp_ => exact hp_
 | _ + 14, hp_ => exact trivial
 }
 {
 intro c m_ m2_ ws L_ T_ hm_ hq_
 match c, hq_ with
 | 0, ⟨e1_, e2_⟩ => exact ⟨e1_, e2_⟩
 | 1, ⟨e1_, e2_⟩ => exact ⟨e1_, e2_⟩
 | _ + 2, hq_ => exact hq_.elim
 }
 {
 refine ⟨?_, ?_, ?_, ?_, ?_, ?_, ?_, ?_, ?_, ?_, ?_, ?_, ?_, ?_, trivial⟩
 {
 refine cplain fun pre_ post_ L_ T_ m' a' w' hl' hp' hm' hq' hS' hE' hT' => ?_
 obtain rfl := len0 hl'
 refine Step.imp (Run1.pure (r_move hE' rfl)) ?_
 rintro _ _ ⟨rfl, rfl⟩
 exact ⟨_, M.le.refl _, hS', rfl⟩
 }
 {
 refine cplain fun pre_ post_ L_ T_ m' a' w' hl' hp' hm' hq' hS' hE' hT' => ?_
 obtain rfl := len0 hl'
 obtain ⟨v36, e37, q38⟩ : ∃ v, a'.tmps.getD 42 undef = v ∧ (v = v0) := ⟨_, rfl, hT' 0 (by decide) 42 rfl⟩
 have hE := hE'.add (e37.trans q38)
 refine Step.imp (st_index (k := (kInt .u8)) hE rfl rfl Try.underlying37 Try.sizeOf5 (ha0.mono (M.le.trans hm6 hm')) hx18) ?_
 rintro v39 _ ⟨rfl, hp19⟩
 exact ⟨_, M.le.refl _, hS', hp19⟩
 }
 {
 refine cplain fun pre_ post_ L_ T_ m' a' w' hl' hp' hm' hq' hS' hE' hT' => ?_
 obtain rfl := len0 hl'
 obtain ⟨v40, e41, q42⟩ : ∃ v, a'.tmps.getD 43 undef = v ∧ (PR (kInt .u8) m' v x17) := ⟨_, rfl, hT' 1 (by decide) 43 rfl⟩
 have hE := hE'.add (e41)
 refine Step.imp (st_loadM hE hS' ty5 rfl q42) ?_
 rintro v43 _ ⟨rfl, hv20⟩
 obtain ⟨rfl, hr44⟩ := RV_int hv20
 exact ⟨_, M.le.refl _, hS', ⟨rfl, hr44⟩⟩
 }
 {
 refine cplain fun pre_ post_ L_ T_ m' a' w' hl' hp' hm' hq' hS' hE' hT' => ?_
 obtain rfl := len0 hl'
 obtain ⟨v45, e46, q47⟩ : ∃ v, a'.tmps.getD 44 undef = v ∧ (v = (.int .u8 x17) ∧ inR .u8 x17) := ⟨_, rfl, hT' 2 (by decide) 44 rfl⟩
 obtain ⟨q47, hr48⟩ := q47
 have hE := hE'.add (e46.trans q47)
 refine Step.imp (Run1.pure (r_conv hE rfl Try.underlying5 Try.underlying3 rfl)) ?_
 rintro _ _ ⟨rfl, rfl⟩
 exact ⟨_, M.le.refl _, hS', ⟨rfl, (inR_wrap _ _)⟩⟩
 }
 {
 refine cplain fun pre_ post_ L_ T_ m' a' w' hl' hp' hm' hq' hS' hE' hT' => ?_
 obtain rfl := len0 hl'
 refine Step.imp (Run1.pure (r_move hE' rfl)) ?_
 rintro _ _ ⟨rfl, rfl⟩
 exact ⟨_, M.le.refl _, hS', rfl⟩
 }
 {
 refine cplain fun pre_ post_ L_ T_ m' a' w' hl' hp' hm' hq' hS' hE' hT' => ?_
 obtain rfl := len0 hl'
 obtain ⟨v51, e52, q53⟩ : ∃ v, a'.tmps.getD 46 undef = v ∧ (v = v0) := ⟨_, rfl, hT' 4 (by decide) 46 rfl⟩
 have hE := hE'.add (e52.trans q53)
 refine Step.imp (st_index (k := (kInt .u8)) hE rfl rfl Try.underlying37 Try.sizeOf5 (ha0.mono (M.le.trans hm6 hm')) hx23) ?_
 rintro v54 _ ⟨rfl, hp24⟩
 exact ⟨_, M.le.refl _, hS', hp24⟩
 }
 {
 refine cplain fun pre_ post_ L_ T_ m' a' w' hl' hp' hm' hq' hS' hE' hT' => ?_
 obtain rfl := len0 hl'
 obtain ⟨v55, e56, q57⟩ : ∃ v, a'.tmps.getD 47 undef = v ∧ (PR (kInt .u8) m' v x22) := ⟨_, rfl, hT' 5 (by decide) 47 rfl⟩
 have hE := hE'.add (e56)
 refine Step.imp (st_loadM hE hS' ty5 rfl q57) ?_
 rintro v58 _ ⟨rfl, hv25⟩
 obtain ⟨rfl, hr59⟩ := RV_int hv25
 exact ⟨_, M.le.refl _, hS', ⟨rfl, hr59⟩⟩
 }
 {
 refine cplain fun pre_ post_ L_ T_ m' a' w' hl' hp' hm' hq' hS' hE' hT' => ?_
 obtain rfl := len0 hl'
 obtain ⟨v60, e61, q62⟩ : ∃ v, a'.tmps.getD 48 undef = v ∧ (v = (.int .u8 x22) ∧ inR .u8 x22) := ⟨_, rfl, hT' 6 (by decide) 48 rfl⟩
 obtain ⟨q62, hr63⟩ := q62
 have hE := hE'.add (e61.trans q62)
 refine Step.imp (Run1.pure (r_conv hE rfl Try.underlying5 Try.underlying3 rfl)) ?_
 rintro _ _ ⟨rfl, rfl⟩
 exact ⟨_, M.le.refl _, hS', ⟨rfl, (inR_wrap _ _)⟩⟩
 }
 {
 refine cplain fun pre_ post_ L_ T_ m' a' w' hl' hp' hm' hq' hS' hE' hT' => ?_
 obtain rfl := len0 hl'
 refine Step.imp (Run1.pure (r_move hE' rfl)) ?_
 rintro _ _ ⟨rfl, rfl⟩
 exact ⟨_, M.le.refl _, hS', rfl⟩
 }
 {
 refine cplain fun pre_ post_ L_ T_ m' a' w' hl' hp' hm' hq' hS' hE' hT' => ?_
 obtain rfl := len0 hl'
 obtain ⟨v66, e67, q68⟩ : ∃ v, a'.tmps.getD 50 undef = v ∧ (v = v0) := ⟨_, rfl, hT' 8 (by decide) 50 rfl⟩
 have hE := hE'.add (e67.trans q68)
 refine Step.imp (st_index (k := (kInt .u8)) hE rfl rfl Try.underlying37 Try.sizeOf5 (ha0.mono (M.le.trans hm6 hm')) hx28) ?_
 rintro v69 _ ⟨rfl, hp29⟩
 exact ⟨_, M.le.refl _, hS', hp29⟩
 }
 {
 refine cplain fun pre_ post_ L_ T_ m' a' w' hl' hp' hm' hq' hS' hE' hT' => ?_
 obtain rfl := len0 hl'
 obtain ⟨v70, e71, q72⟩ : ∃ v, a'.tmps.getD 51 undef = v ∧ (PR (kInt .u8) m' v x27) := ⟨_, rfl, hT' 9 (by decide) 51 rfl⟩
 have hE := hE'.add (e71)
 refine Step.imp (st_loadM hE hS' ty5 rfl q72) ?_
 rintro v73 _ ⟨rfl, hv30⟩
 obtain ⟨rfl, hr74⟩ := RV_int hv30
 exact ⟨_, M.le.refl _, hS', ⟨rfl, hr74⟩⟩
 }
 {
 refine cplain fun pre_ post_ L_ T_ m' a' w' hl' hp' hm' hq' hS' hE' hT' => ?_
 obtain rfl := len0 hl'
 obtain ⟨v75, e76, q77⟩ : ∃ v, a'.tmps.getD 52 undef = v ∧ (v = (.int .u8 x27) ∧ inR .u8 x27) := ⟨_, rfl, hT' 10 (by decide) 52 rfl⟩
 obtain ⟨q77, hr78⟩ := q77
 have hE := hE'.add (e76.trans q77)
 refine Step.imp (Run1.pure (r_conv hE rfl Try.underlying5 Try.underlying3 rfl)) ?_
 rintro _ _ ⟨rfl, rfl⟩
 exact ⟨_, M.le.refl _, hS', ⟨rfl, (inR_wrap _ _)⟩⟩
 }
 {
 refine cplain fun pre_ post_ L_ T_ m' a' w' hl' hp' hm' hq' hS' hE' hT' => ?_
 obtain rfl := len0 hl'
 obtain ⟨v80, e81, q82⟩ : ∃ v, a'.tmps.getD 45 undef = v ∧ (v = (.int .i64 (IntKind.i64.wrap x17)) ∧ inR .i64 (IntKind.i64.wrap x17)) := ⟨_, rfl, hT' 3 (by decide) 45 rfl⟩
 obtain ⟨q82, hr83⟩ := q82
 have hE := hE'.add (e81.trans q82)
 obtain ⟨v84, e85, q86⟩ : ∃ v, a'.tmps.getD 49 undef = v ∧ (v = (.int .i64 (IntKind.i64.wrap x22)) ∧ inR .i64 (IntKind.i64.wrap x22)) := ⟨_, rfl, hT' 7 (by decide) 49 rfl⟩
 obtain ⟨q86, hr87⟩ := q86
 have hE := hE.add (e85.trans q86)
 obtain ⟨v88, e89, q90⟩ : ∃ v, a'.tmps.getD 53 undef = v ∧ (v = (.int .i64 (IntKind.i64.wrap x27)) ∧ inR .i64 (IntKind.i64.wrap x27)) := ⟨_, rfl, hT' 11 (by decide) 53 rfl⟩
 obtain ⟨q90, hr91⟩ := q90
 have hE := hE.add (e89.trans q90)
 refine Step.imp (st_build (m := m') (k := kHayloftref07_Info) (x0 := Hayloftref07_Info.zero) (xx := (⟨IntKind.i64.wrap x17, IntKind.i64.wrap x22, AV.zero, AV.zero, IntKind.i64.wrap x27, 0⟩ : Hayloftref07_Info)) (pl := [(0, 1), (1, 1), (2, 4), (6, 4), (10, 1), (11, 1)]) (pv := [(0, (.int .i64 (IntKind.i64.wrap x17))), (1, (.int .i64 (IntKind.i64.wrap x22))), (4, (.int .i64 (IntKind.i64.wrap x27)))]) hE rfl Try.underlying72 rfl Try.zeroValue72 zr72 rfl (.cons rfl sf72_0 (RV_of_int hr83) (.cons rfl sf72_1 (RV_of_int hr87) (.cons rfl sf72_4 (RV_of_int hr91) .nil)))) ?_
 rintro v92 _ ⟨rfl, hv32⟩
 exact ⟨_, M.le.refl _, hS', hv32⟩
 }
 {
 refine cturn fun pre_ L_ T_ m' a' w' hl' hm' hq' hS' hE' hT' => ?_
 obtain rfl := len0 hl'
 obtain ⟨rfl, rfl⟩ := hq'
 refine Step.imp (st_alloc hS' Try.zeroValue72 rfl (cs := zc72)) ?_
 rintro vv34 w ⟨b33, rfl, hS⟩
 exact ⟨_, ⟨b33, undef, [], [], []⟩, _, _, M.le.refl _, hS, ⟨rfl, rfl⟩, rfl⟩
 }
 }
 {
 intro ws_ L_ T_ m93 a w hl94 hm95 hq96 hS hd97 hn98 ho99 hT100
 obtain ⟨⟨b33, _, _, _, _⟩, rfl⟩ := len1 hl94
 obtain ⟨rfl, rfl⟩ := hq96
 have hE := EnvD.of (k := 14) (l' := [(0, v0), (2, (.pointer (some ⟨b1, 0, none⟩))), (40, (.bool x7))]) hd97 hn98 ho99 ⟨rfl, rfl, rfl, trivial⟩ rfl
 obtain ⟨v101, e102, q103⟩ : ∃ v, a.tmps.getD 54 undef = v ∧ (RV kHayloftref07_Info m93 v (⟨IntKind.i64.wrap x17, IntKind.i64.wrap x22, AV.zero, AV.zero, IntKind.i64.wrap x27, 0⟩ : Hayloftref07_Info)) := ⟨_, rfl, hT100 12 (by decide) 54 rfl⟩
 have hE := hE.add (e102)
 obtain ⟨v104, e105, q106⟩ : ∃ v, a.tmps.getD 5 undef = v ∧ (v = (.pointer (some ⟨b33, 0, none⟩))) := ⟨_, rfl, hT100 13 (by decide) 5 rfl⟩
 have hE := hE.add (e105.trans q106)
 refine st0 hE (st_storeF hE hS ty72 StF_self rfl rfl q103 (i := 0) rfl (zr72 _)) ?_
 rintro _ w ⟨cs107, hc108, hS⟩ hE
 refine knil (kseq (kreg ?_))
 refine qm hE rfl rfl fun a hE => ?_
 obtain ⟨x111, hx112, h⟩ := ob h
 refine st hE (st_slice (k := (kInt .u8)) hE rfl Try.underlying37 Try.sizeOf5 (ha0.mono (M.le.trans hm6 hm95)) ⟨_, rfl⟩ rfl hx112 (xl := (some (.const (.int .i64 3)))) (xh := none)) rfl ?_
 rintro v114 a _ ⟨rfl, hv113⟩ hE
 obtain ⟨r115, hr116, h⟩ := ob h
 refine st hE (st_call (vs := [v114]) hE rfl Try.call72 (c_hayloftref03_Front (hS := hS) hv113 hr116)) rfl ?_
 rintro _ a w ⟨m117, hm118, hS, v0_119, v1_120, rfl, hv0_121, hv1_122⟩ hE
 obtain ⟨rfl, hr124⟩ := RV_int hv1_122
 refine qm hE rfl rfl fun a hE => ?_
 refine sp hE (r_extract hE rfl rfl) rfl fun a hE => ?_
 refine sp hE (r_extract hE rfl rfl) rfl fun a hE => ?_
 refine st hE (st_alloc hS Try.zeroValue53 rfl (cs := zc53)) rfl ?_
 rintro _ a w ⟨b128, rfl, hS⟩ hE
 refine st0 hE (st_storeF hE hS ty53 StF_self rfl rfl hv0_121 (i := 0) rfl (zr53 _)) ?_
 rintro _ w ⟨cs130, hc131, hS⟩ hE
 refine qa hE rfl rfl fun a hE => ?_
 refine knil (kseq (kseq (kreg ?_)))
 refine qm hE rfl rfl fun a hE => ?_
 refine sp hE (r_bin hE rfl rfl b_eql) rfl fun a hE => ?_
 refine knil ?_
 refine kif hE rfl (fun hd136 => ?_) (fun hd136 => ?_)
 {
 have h := ite_T hd136 h
 refine kseq (kreg ?_)
 refine st hE (st_build (m := m117) (k := kHayloftref07_Info) (x0 := Hayloftref07_Info.zero) (xx := (⟨0, 0, AV.zero, AV.zero, 0, 0⟩ : Hayloftref07_Info)) (pl := [(0, 1), (1, 1), (2, 4), (6, 4), (10, 1), (11, 1)]) (pv := []) hE rfl Try.underlying72 rfl Try.zeroValue72 zr72 rfl .nil) rfl ?_
 rintro v138 a _ ⟨rfl, hv137⟩ hE
 refine st0 hE (st_storeF hE hS ty72 StF_self rfl rfl hv137 (i := 2) rfl (zr72 _)) ?_
 rintro _ w ⟨cs139, hc140, hS⟩ hE
 refine qa hE rfl rfl fun a hE => ?_
 refine qa hE rfl rfl fun a hE => ?_
 refine knil (kret ?_)
 obtain rfl := oi h
 try dsimp only
 refine Fin.mk hE (rs := [.cell 2 72, .tmp 3, .tmp 4]) rfl (ResL.cell hE hS ty72 rfl (i := 2) rfl (R_whole hc140) (ResL.tmp hE rfl (ResL.tmp hE rfl ResL.nil))) ?_
 exact ⟨_, (M.le.trans hm6 (M.le.trans hm95 hm118)), (hS.dropL 3), _, _, _, rfl, (RV_of_R (R_whole hc140)), (RV_of_int (show inR .i64 0 from inR_lit (by decide))), (RV_of_int (show inR .i64 70 from inR_lit (by decide)))⟩
 }
 {
 have h := ite_F hd136 h
 refine kskip (kseq (kreg ?_))
 refine qm hE rfl rfl fun a hE => ?_
 refine qm hE rfl rfl fun a hE => ?_
 refine sp hE (r_bin hE rfl rfl (b_add rfl)) rfl fun a hE => ?_
 obtain ⟨x147, hx148, h⟩ := ob h
 refine st hE (st_slice (k := (kInt .u8)) hE rfl Try.underlying37 Try.sizeOf5 (ha0.mono (M.le.trans hm6 (M.le.trans hm95 hm118))) ⟨_, rfl⟩ rfl hx148 (xl := (some (.tmp 67))) (xh := none)) rfl ?_
 rintro v150 a _ ⟨rfl, hv149⟩ hE
 obtain ⟨r151, hr152, h⟩ := ob h
 refine st hE (st_call (vs := [v150]) hE rfl Try.call72 (c_hayloftref03_Front (hS := hS) hv149 hr152)) rfl ?_
 rintro _ a w ⟨m153, hm154, hS, v0_155, v1_156, rfl, hv0_157, hv1_158⟩ hE
 obtain ⟨rfl, hr160⟩ := RV_int hv1_158
 refine qm hE rfl rfl fun a hE => ?_
 refine sp hE (r_extract hE rfl rfl) rfl fun a hE => ?_
 refine sp hE (r_extract hE rfl rfl) rfl fun a hE => ?_
 refine st hE (st_alloc hS Try.zeroValue53 rfl (cs := zc53)) rfl ?_
 rintro _ a w ⟨b164, rfl, hS⟩ hE
 refine st0 hE (st_storeF hE hS ty53 StF_self rfl rfl hv0_157 (i := 0) rfl (zr53 _)) ?_
 rintro _ w ⟨cs166, hc167, hS⟩ hE
 refine qa hE rfl rfl fun a hE => ?_
 refine knil (kseq (kreg ?_))
 refine qm hE rfl rfl fun a hE => ?_
 refine sp hE (r_bin hE rfl rfl (b_add rfl)) rfl fun a hE => ?_
 refine qm hE rfl rfl fun a hE => ?_
 refine sp hE (r_bin hE rfl rfl (b_add rfl)) rfl fun a hE => ?_
 refine qa hE rfl rfl fun a hE => ?_
 refine knil (kseq (kseq ?_))
 refine kcut (fun a w => ∃ x177 : Bool, hayloftref07_Head_j2 p0 x17 x22 x27 r115 r151 x177 = some r ∧ ∃ m', M.le m153 m' ∧ S W0 m' w ((b164, cs166) :: (b128, cs130) :: (b33, cs107) :: (b1, zc72) :: L) (TL) ∧ Env 111 a [(0, v0), (2, (.pointer (some ⟨b1, 0, none⟩))), (5, (.pointer (some ⟨b33, 0, none⟩))), (6, (.pointer (some ⟨b128, 0, none⟩))), (8, (.pointer (some ⟨b164, 0, none⟩))), (10, (.int .i64 (IntKind.i64.wrap ((IntKind.i64.wrap (3 + r115.2)) + r151.2)))), (84, (.bool x177))]) ?_ ?_
 {
 refine kreg ?_
 refine qm hE rfl rfl fun a hE => ?_
 refine sp hE (r_bin hE rfl rfl b_eql) rfl fun a hE => ?_
 refine qm hE rfl rfl fun a hE => ?_
 rcases Bool.eq_false_or_eq_true (r151.2 == 0) with hd250 | hd250
 {
 have h := ite_T hd250 h
 refine sx hE rfl rfl rfl rfl hd250 rfl fun a hE => ?_
 refine sx hE rfl rfl rfl rfl hd250 rfl fun a hE => ?_
 refine sx hE rfl rfl rfl rfl hd250 rfl fun a hE => ?_
 refine sx hE rfl rfl rfl rfl hd250 rfl fun a hE => ?_
 refine sx hE rfl rfl rfl rfl hd250 rfl fun a hE => ?_
 refine sp hE (r_pickT hE rfl hd250 rfl) rfl fun a hE => ?_
 refine knil ?_
 exact ⟨true, h, _, (M.le.refl _), hS, hE.cut ⟨rfl, rfl, rfl, rfl, rfl, rfl, rfl, trivial⟩⟩
 }
 {
 have h := ite_F hd250 h
 refine spg hE rfl rfl rfl rfl hd250 (r_move hE rfl) rfl fun a hE => ?_
 refine spg hE rfl rfl rfl rfl hd250 (r_lenSl (k := (kInt .u8)) hE rfl rfl Try.underlying37 (ha0.mono (M.le.trans hm6 (M.le.trans hm95 (M.le.trans hm118 hm154))))) rfl fun a hE => ?_
 refine spg hE rfl rfl rfl rfl hd250 (r_move hE rfl) rfl fun a hE => ?_
 refine spg hE rfl rfl rfl rfl hd250 (r_bin hE rfl rfl (b_add rfl)) rfl fun a hE => ?_
 refine spg hE rfl rfl rfl rfl hd250 (r_bin hE rfl rfl b_lss) rfl fun a hE => ?_
 refine sp hE (r_pickF hE rfl hd250 rfl) rfl fun a hE => ?_
 refine knil ?_
 exact ⟨(decide ((p0.length : Int) < (IntKind.i64.wrap ((IntKind.i64.wrap ((IntKind.i64.wrap (3 + r115.2)) + r151.2)) + 2)))), h, _, (M.le.refl _), hS, hE.cut ⟨rfl, rfl, rfl, rfl, rfl, rfl, rfl, trivial⟩⟩
 }
 }
 {
 rintro a w ⟨x177, h, m175, hm176, hS, hE⟩
 unfold hayloftref07_Head_j2 at h
 refine kif hE rfl (fun hd179 => ?_) (fun hd179 => ?_)
 {
 have h := ite_T hd179 h
 refine kseq (kreg ?_)
 refine st hE (st_build (m := m175) (k := kHayloftref07_Info) (x0 := Hayloftref07_Info.zero) (xx := (⟨0, 0, AV.zero, AV.zero, 0, 0⟩ : Hayloftref07_Info)) (pl := [(0, 1), (1, 1), (2, 4), (6, 4), (10, 1), (11, 1)]) (pv := []) hE rfl Try.underlying72 rfl Try.zeroValue72 zr72 rfl .nil) rfl ?_
 rintro v181 a _ ⟨rfl, hv180⟩ hE
 refine st0 hE (st_storeF hE hS ty72 StF_self rfl rfl hv180 (i := 3) rfl (zr72 _)) ?_
 rintro _ w ⟨cs182, hc183, hS⟩ hE
 refine qa hE rfl rfl fun a hE => ?_
 refine qa hE rfl rfl fun a hE => ?_
 refine knil (kret ?_)
 obtain rfl := oi h
 try dsimp only
 refine Fin.mk hE (rs := [.cell 2 72, .tmp 3, .tmp 4]) rfl (ResL.cell hE hS ty72 rfl (i := 3) rfl (R_whole hc183) (ResL.tmp hE rfl (ResL.tmp hE rfl ResL.nil))) ?_
 exact ⟨_, (M.le.trans hm6 (M.le.trans hm95 (M.le.trans hm118 (M.le.trans hm154 hm176)))), (hS.dropL 4), _, _, _, rfl, (RV_of_R (R_whole hc183)), (RV_of_int (show inR .i64 0 from inR_lit (by decide))), (RV_of_int (show inR .i64 70 from inR_lit (by decide)))⟩
 }
 {
 have h := ite_F hd179 h
 refine kskip (kseq (kreg ?_))
 refine st hE (st_loadL hE hS ty53 rfl (i := 1) rfl (R_whole (kAV.mono (M.le.trans hm154 hm176) hc131))) rfl ?_
 rintro v188 a _ ⟨rfl, hv187⟩ hE
 refine sp hE (r_fieldL hE fo72_2 rfl) rfl fun a hE => ?_
 refine st0 hE (st_storeF hE hS ty53 sf72_2 rfl rfl hv187 (i := 2) rfl (kHayloftref07_Info.mono (M.le.trans hm118 (M.le.trans hm154 hm176)) hc108)) ?_
 rintro _ w ⟨cs190, hc191, hS⟩ hE
 refine knil (kseq (kreg ?_))
 refine st hE (st_loadL hE hS ty53 rfl (i := 0) rfl (R_whole (kAV.mono hm176 hc167))) rfl ?_
 rintro v194 a _ ⟨rfl, hv193⟩ hE
 refine sp hE (r_fieldL hE fo72_3 rfl) rfl fun a hE => ?_
 refine st0 hE (st_storeF hE hS ty53 sf72_3 rfl rfl hv193 (i := 2) rfl hc191) ?_
 rintro _ w ⟨cs196, hc197, hS⟩ hE
 refine knil (kseq (kreg ?_))
 refine qm hE rfl rfl fun a hE => ?_
 refine sp hE (r_bin hE rfl rfl (b_add rfl)) rfl fun a hE => ?_
 refine qm hE rfl rfl fun a hE => ?_
 refine qm hE rfl rfl fun a hE => ?_
 refine qm hE rfl rfl fun a hE => ?_
 refine sp hE (r_bin hE rfl rfl (b_add rfl)) rfl fun a hE => ?_
 obtain ⟨x205, hx206, h⟩ := ob h
 refine st hE (st_slice (k := (kInt .u8)) hE rfl Try.underlying37 Try.sizeOf5 (ha0.mono (M.le.trans hm6 (M.le.trans hm95 (M.le.trans hm118 (M.le.trans hm154 hm176))))) ⟨_, rfl⟩ ⟨_, rfl⟩ hx206 (xl := (some (.tmp 93))) (xh := (some (.tmp 95)))) rfl ?_
 rintro v208 a _ ⟨rfl, hv207⟩ hE
 obtain ⟨r209, hr210, h⟩ := ob h
 refine st hE (st_call (vs := [v208]) hE rfl Try.call73 (c_hayloftref03_Said (hS := hS) hv207 hr210)) rfl ?_
 rintro v214 a w ⟨m211, hm212, hS, hv213⟩ hE
 obtain ⟨rfl, hr215⟩ := RV_int hv213
 refine sp hE (r_conv hE rfl Try.underlying24 Try.underlying3 rfl) rfl fun a hE => ?_
 refine sp hE (r_bin hE rfl rfl (b_add rfl)) rfl fun a hE => ?_
 refine sp hE (r_bin hE rfl rfl (b_add rfl)) rfl fun a hE => ?_
 refine sp hE (r_fieldL hE fo72_5 rfl) rfl fun a hE => ?_
 refine st0 hE (st_storeF hE hS ty3 sf72_5 rfl rfl (RV_of_int (inR_wrap _ _)) (i := 2) rfl (kHayloftref07_Info.mono hm212 hc197)) ?_
 rintro _ w ⟨cs220, hc221, hS⟩ hE
 refine knil (kseq (kseq (kreg ?_)))
 refine qm hE rfl rfl fun a hE => ?_
 refine sp hE (r_lenSl (k := (kInt .u8)) hE rfl rfl Try.underlying37 (ha0.mono (M.le.trans hm6 (M.le.trans hm95 (M.le.trans hm118 (M.le.trans hm154 (M.le.trans hm176 hm212))))))) rfl fun a hE => ?_
 refine sp hE (r_fieldL hE fo72_5 rfl) rfl fun a hE => ?_
 refine st hE (st_loadL hE hS ty3 rfl (i := 2) rfl (fl72_5.R_drop (R_whole hc221))) rfl ?_
 rintro v227 a _ ⟨rfl, hv226⟩ hE
 obtain ⟨rfl, hr228⟩ := RV_int hv226
 refine sp hE (r_bin hE rfl rfl b_lss) rfl fun a hE => ?_
 refine knil ?_
 refine kif hE rfl (fun hd230 => ?_) (fun hd230 => ?_)
 {
 have h := ite_T hd230 h
 refine kseq (kreg ?_)
 refine st hE (st_build (m := m211) (k := kHayloftref07_Info) (x0 := Hayloftref07_Info.zero) (xx := (⟨0, 0, AV.zero, AV.zero, 0, 0⟩ : Hayloftref07_Info)) (pl := [(0, 1), (1, 1), (2, 4), (6, 4), (10, 1), (11, 1)]) (pv := []) hE rfl Try.underlying72 rfl Try.zeroValue72 zr72 rfl .nil) rfl ?_
 rintro v232 a _ ⟨rfl, hv231⟩ hE
 refine st0 hE (st_storeF hE hS ty72 StF_self rfl rfl hv231 (i := 3) rfl (zr72 _)) ?_
 rintro _ w ⟨cs233, hc234, hS⟩ hE
 refine qa hE rfl rfl fun a hE => ?_
 refine qa hE rfl rfl fun a hE => ?_
 refine knil (kret ?_)
 obtain rfl := oi h
 try dsimp only
 refine Fin.mk hE (rs := [.cell 2 72, .tmp 3, .tmp 4]) rfl (ResL.cell hE hS ty72 rfl (i := 3) rfl (R_whole hc234) (ResL.tmp hE rfl (ResL.tmp hE rfl ResL.nil))) ?_
 exact ⟨_, (M.le.trans hm6 (M.le.trans hm95 (M.le.trans hm118 (M.le.trans hm154 (M.le.trans hm176 hm212))))), (hS.dropL 4), _, _, _, rfl, (RV_of_R (R_whole hc234)), (RV_of_int (show inR .i64 0 from inR_lit (by decide))), (RV_of_int (show inR .i64 70 from inR_lit (by decide)))⟩
 }
 {
 have h := ite_F hd230 h
 refine kskip (kseq (kreg ?_))
 refine st hE (st_loadL hE hS ty72 rfl (i := 2) rfl (R_whole hc221)) rfl ?_
 rintro v239 a _ ⟨rfl, hv238⟩ hE
 refine qm hE rfl rfl fun a hE => ?_
 refine sp hE (r_bin hE rfl rfl (b_add rfl)) rfl fun a hE => ?_
 refine st0 hE (st_storeF hE hS ty72 StF_self rfl rfl hv238 (i := 3) rfl (zr72 _)) ?_
 rintro _ w ⟨cs242, hc243, hS⟩ hE
 refine qa hE rfl rfl fun a hE => ?_
 refine qa hE rfl rfl fun a hE => ?_
 refine knil (kret ?_)
 obtain rfl := oi h
 try dsimp only
 refine Fin.mk hE (rs := [.cell 2 72, .tmp 3, .tmp 4]) rfl (ResL.cell hE hS ty72 rfl (i := 3) rfl (R_whole hc243) (ResL.tmp hE rfl (ResL.tmp hE rfl ResL.nil))) ?_
 exact ⟨_, (M.le.trans hm6 (M.le.trans hm95 (M.le.trans hm118 (M.le.trans hm154 (M.le.trans hm176 hm212))))), (hS.dropL 4), _, _, _, rfl, (RV_of_R (R_whole hc243)), (RV_of_int (inR_wrap _ _)), (RV_of_int (show inR .i64 0 from inR_lit (by decide)))⟩
 }
 }
 }
 }
 }
 }
 }
theorem c_block_May {W0 : Bse} {m : M} {w : World} {L : List (Nat × List Value)} {TL : List (Nat × Value)} (hS : S W0 m w (L) (TL)) {v0 : Value} {p0 : Block_Info} (ha0 : RV kBlock_Info m v0 p0) {v1 : Value} {p1 : Api_Term} (ha1 : RV kApi_Term m v1 p1) {r : Bool} (h : block_May p0 p1 = some r) :
    Calls Try.prog 37 [v0, v1].toArray w (Ret fun v w' => ∃ m', M.le m m' ∧ S W0 m' w' (L) (TL) ∧ RV kBool m' v r) := by
 refine kcall Try.func37 rfl Try.ntmps37 (Nat.le_of_ble_eq_true rfl) fun a hE => ?_
 have hE : Env 89 a [(0, v0), (1, v1)] := hE
 unfold block_May at h
 refine kseq (kreg ?_)
 refine st hE (st_box (k := kBlock_Info) hE hS rfl ha0) rfl ?_
 rintro _ a w ⟨b1, cs2, rfl, hc3, hS⟩ hE
 refine st hE (st_box (k := kApi_Term) hE hS rfl ha1) rfl ?_
 rintro _ a w ⟨b5, cs6, rfl, hc7, hS⟩ hE
 refine qa hE rfl rfl fun a hE => ?_
 refine knil (kseq ?_)
 obtain ⟨r12, hr13, h⟩ := ob h
 refine kchain (k := 9) (m := m) (es := []) (Φ := (fun i m ws v => match i with | 0 => v = (.pointer (some ⟨b1, 2, none⟩)) | 1 => RV kAV m v p0.fMin | 2 => v = (.pointer (some ⟨b5, 2, none⟩)) | 3 => RV kAV m v p1.fValue | 4 => v = (.int .i64 r12) ∧ inR .i64 r12 | 5 => v = (.pointer (some ⟨b1, 6, none⟩)) | 6 => RV kAV m v p0.fMax | 7 => v = (.pointer (some ⟨b5, 2, none⟩)) | 8 => RV kAV m v p1.fValue | _ => True)) (Q := (fun c m ws L' TL' => match c with | 0 => (b5, cs6) :: (b1, cs2) :: L = L' ∧ TL = TL' | _ => False)) (cs := [⟨0, 0, false, [(2, (.pointer (some ⟨b1, 0, none⟩)))]⟩, ⟨0, 0, false, []⟩, ⟨0, 0, false, [(3, (.pointer (some ⟨b5, 0, none⟩)))]⟩, ⟨0, 0, false, []⟩, ⟨0, 0, false, []⟩, ⟨0, 0, false, [(2, (.pointer (some ⟨b1, 0, none⟩)))]⟩, ⟨0, 0, false, []⟩, ⟨0, 0, false, [(3, (.pointer (some ⟨b5, 0, none⟩)))]⟩, ⟨0, 0, false, []⟩]) mixed hE hS ⟨rfl, rfl⟩ rfl rfl ⟨⟨rfl, trivial⟩, trivial, ⟨rfl, trivial⟩, trivial, trivial, ⟨rfl, trivial⟩, trivial, ⟨rfl, trivial⟩, trivial, trivial⟩ (by kernel_rfl) ?_ ?_ ?_ ?_
 {
 intro i m_ m2_ ws v hm_ hp_
 match i, hp_ with
 | 0, hp_ => exact hp_
 | 1, hp_ => exact RV.mono hp_ hm_
 | 2, hp_ => exact hp_
 | 3, hp_ => exact RV.mono hp_ hm_
 | 4, hp_ => exact hp_
 | 5, hp_ => exact hp_
 | 6, hp_ => exact RV.mono hp_ hm_
 | 7, hp_ => exact hp_
 | 8, hp_ => exact RV.mono hp_ hm_
 | _ + 9, hp_ => exact trivial
 }
 {
 intro c m_ m2_ ws L_ T_ hm_ hq_
 match c, hq_ with
 | 0, ⟨e1_, e2_⟩ => exact ⟨e1_, e2_⟩
 | _ + 1, hq_ => exact hq_.elim
 }
 {
 refine ⟨?_, ?_, ?_, ?_, ?_, ?_, ?_, ?_, ?_, trivial⟩
 {
 refine cplain fun pre_ post_ L_ T_ m' a' w' hl' hp' hm' hq' hS' hE' hT' => ?_
 obtain rfl := len0 hl'
 refine Step.imp (Run1.pure (r_fieldL hE' fo62_2 rfl)) ?_
 rintro _ _ ⟨rfl, rfl⟩
 exact ⟨_, M.le.refl _, hS', rfl⟩
 }
 {
 refine cplain fun pre_ post_ L_ T_ m' a' w' hl' hp' hm' hq' hS' hE' hT' => ?_
 obtain rfl := len0 hl'
 obtain rfl := len0 (lenz (a := 0) hp')
 obtain ⟨rfl, rfl⟩ := hq'
 obtain ⟨v21, e22, q23⟩ : ∃ v, a'.tmps.getD 8 undef = v ∧ (v = (.pointer (some ⟨b1, 2, none⟩))) := ⟨_, rfl, hT' 0 (by decide) 8 rfl⟩
 have hE := hE'.add (e22.trans q23)
 refine Step.imp (st_loadL hE hS' ty53 rfl (i := 1) rfl (fl62_2.R_drop (R_whole (kBlock_Info.mono hm' hc3)))) ?_
 rintro v24 _ ⟨rfl, hv10⟩
 exact ⟨_, M.le.refl _, hS', hv10⟩
 }
 {
 refine cplain fun pre_ post_ L_ T_ m' a' w' hl' hp' hm' hq' hS' hE' hT' => ?_
 obtain rfl := len0 hl'
 refine Step.imp (Run1.pure (r_fieldL hE' fo71_2 rfl)) ?_
 rintro _ _ ⟨rfl, rfl⟩
 exact ⟨_, M.le.refl _, hS', rfl⟩
 }
 {
 refine cplain fun pre_ post_ L_ T_ m' a' w' hl' hp' hm' hq' hS' hE' hT' => ?_
 obtain rfl := len0 hl'
 obtain rfl := len0 (lenz (a := 0) hp')
 obtain ⟨rfl, rfl⟩ := hq'
 obtain ⟨v26, e27, q28⟩ : ∃ v, a'.tmps.getD 10 undef = v ∧ (v = (.pointer (some ⟨b5, 2, none⟩))) := ⟨_, rfl, hT' 2 (by decide) 10 rfl⟩
 have hE := hE'.add (e27.trans q28)
 refine Step.imp (st_loadL hE hS' ty53 rfl (i := 0) rfl (fl71_2.R_drop (R_whole (kApi_Term.mono hm' hc7)))) ?_
 rintro v29 _ ⟨rfl, hv11⟩
 exact ⟨_, M.le.refl _, hS', hv11⟩
 }
 {
 refine cplain fun pre_ post_ L_ T_ m' a' w' hl' hp' hm' hq' hS' hE' hT' => ?_
 obtain rfl := len0 hl'
 obtain ⟨v30, e31, q32⟩ : ∃ v, a'.tmps.getD 9 undef = v ∧ (RV kAV m' v p0.fMin) := ⟨_, rfl, hT' 1 (by decide) 9 rfl⟩
 have hE := hE'.add (e31)
 obtain ⟨v33, e34, q35⟩ : ∃ v, a'.tmps.getD 11 undef = v ∧ (RV kAV m' v p1.fValue) := ⟨_, rfl, hT' 3 (by decide) 11 rfl⟩
 have hE := hE.add (e34)
 refine Step.imp (st_call (vs := [v30, v33]) hE rfl Try.call74 (c_value_Compare (hS := hS') q32 q35 hr13)) ?_
 rintro v36 w ⟨m14, hm15, hS, hv16⟩
 obtain ⟨rfl, hr37⟩ := RV_int hv16
 exact ⟨_, hm15, hS, ⟨rfl, hr37⟩⟩
 }
 {
 refine cplain fun pre_ post_ L_ T_ m' a' w' hl' hp' hm' hq' hS' hE' hT' => ?_
 obtain rfl := len0 hl'
 refine Step.imp (Run1.pure (r_fieldL hE' fo62_3 rfl)) ?_
 rintro _ _ ⟨rfl, rfl⟩
 exact ⟨_, M.le.refl _, hS', rfl⟩
 }
 {
 refine cplain fun pre_ post_ L_ T_ m' a' w' hl' hp' hm' hq' hS' hE' hT' => ?_
 obtain rfl := len0 hl'
 obtain rfl := len0 (lenz (a := 0) hp')
 obtain ⟨rfl, rfl⟩ := hq'
 obtain ⟨v39, e40, q41⟩ : ∃ v, a'.tmps.getD 13 undef = v ∧ (v = (.pointer (some ⟨b1, 6, none⟩))) := ⟨_, rfl, hT' 5 (by decide) 13 rfl⟩
 have hE := hE'.add (e40.trans q41)
 refine Step.imp (st_loadL hE hS' ty53 rfl (i := 1) rfl (fl62_3.R_drop (R_whole (kBlock_Info.mono hm' hc3)))) ?_
 rintro v42 _ ⟨rfl, hv18⟩
 exact ⟨_, M.le.refl _, hS', hv18⟩
 }
 {
 refine cplain fun pre_ post_ L_ T_ m' a' w' hl' hp' hm' hq' hS' hE' hT' => ?_
 obtain rfl := len0 hl'
 refine Step.imp (Run1.pure (r_fieldL hE' fo71_2 rfl)) ?_
 rintro _ _ ⟨rfl, rfl⟩
 exact ⟨_, M.le.refl _, hS', rfl⟩
 }
 {
 refine cplain fun pre_ post_ L_ T_ m' a' w' hl' hp' hm' hq' hS' hE' hT' => ?_
 obtain rfl := len0 hl'
 obtain rfl := len0 (lenz (a := 0) hp')
 obtain ⟨rfl, rfl⟩ := hq'
 obtain ⟨v44, e45, q46⟩ : ∃ v, a'.tmps.getD 15 undef = v ∧ (v = (.pointer (some ⟨b5, 2, none⟩))) := ⟨_, rfl, hT' 7 (by decide) 15 rfl⟩
 have hE := hE'.add (e45.trans q46)
 refine Step.imp (st_loadL hE hS' ty53 rfl (i := 0) rfl (fl71_2.R_drop (R_whole (kApi_Term.mono hm' hc7)))) ?_
 rintro v47 _ ⟨rfl, hv19⟩
 exact ⟨_, M.le.refl _, hS', hv19⟩
 }
 }
 {
 intro ws_ L_ T_ m48 a w hl49 hm50 hq51 hS hd52 hn53 ho54 hT55
 obtain rfl := len0 hl49
 obtain ⟨rfl, rfl⟩ := hq51
 have hE := EnvD.of (k := 9) (l' := [(0, v0), (1, v1), (2, (.pointer (some ⟨b1, 0, none⟩))), (3, (.pointer (some ⟨b5, 0, none⟩))), (4, (.bool false))]) hd52 hn53 ho54 ⟨rfl, rfl, rfl, rfl, rfl, trivial⟩ rfl
 obtain ⟨v56, e57, q58⟩ : ∃ v, a.tmps.getD 12 undef = v ∧ (v = (.int .i64 r12) ∧ inR .i64 r12) := ⟨_, rfl, hT55 4 (by decide) 12 rfl⟩
 obtain ⟨q58, hr59⟩ := q58
 have hE := hE.add (e57.trans q58)
 obtain ⟨v60, e61, q62⟩ : ∃ v, a.tmps.getD 14 undef = v ∧ (RV kAV m48 v p0.fMax) := ⟨_, rfl, hT55 6 (by decide) 14 rfl⟩
 have hE := hE.add (e61)
 obtain ⟨v63, e64, q65⟩ : ∃ v, a.tmps.getD 16 undef = v ∧ (RV kAV m48 v p1.fValue) := ⟨_, rfl, hT55 8 (by decide) 16 rfl⟩
 have hE := hE.add (e64)
 obtain ⟨r66, hr67, h⟩ := ob h
 refine st hE (st_call (vs := [v60, v63]) hE rfl Try.call74 (c_value_Compare (hS := hS) q62 q65 hr67)) rfl ?_
 rintro v71 a w ⟨m68, hm69, hS, hv70⟩ hE
 obtain ⟨rfl, hr72⟩ := RV_int hv70
 refine qa hE rfl rfl fun a hE => ?_
 refine qa hE rfl rfl fun a hE => ?_
 refine knil (kseq ?_)
 refine kcut (fun a w => ∃ x77 : Bool, block_May_j1 p0 p1 r12 r66 x77 = some r ∧ ∃ m', M.le m68 m' ∧ S W0 m' w ((b5, cs6) :: (b1, cs2) :: L) (TL) ∧ Env 89 a [(2, (.pointer (some ⟨b1, 0, none⟩))), (3, (.pointer (some ⟨b5, 0, none⟩))), (5, (.int .i64 r12)), (6, (.int .i64 r66)), (7, (.bool x77))]) ?_ ?_
 {
 refine kreg ?_
 refine sp hE (r_fieldL hE fo62_4 rfl) rfl fun a hE => ?_
 refine st hE (st_loadL hE hS ty3 rfl (i := 1) rfl (fl62_4.R_drop (R_whole (kBlock_Info.mono (M.le.trans hm50 hm69) hc3)))) rfl ?_
 rintro v214 a _ ⟨rfl, hv213⟩ hE
 obtain ⟨rfl, hr215⟩ := RV_int hv213
 refine sp hE (r_fieldL hE fo62_1 rfl) rfl fun a hE => ?_
 refine st hE (st_loadL hE hS ty3 rfl (i := 1) rfl (fl62_1.R_drop (R_whole (kBlock_Info.mono (M.le.trans hm50 hm69) hc3)))) rfl ?_
 rintro v218 a _ ⟨rfl, hv217⟩ hE
 obtain ⟨rfl, hr219⟩ := RV_int hv217
 refine sp hE (r_bin hE rfl rfl b_lss) rfl fun a hE => ?_
 refine qm hE rfl rfl fun a hE => ?_
 rcases Bool.eq_false_or_eq_true (decide (p0.fNulls < p0.fMany)) with hd222 | hd222
 {
 have h := ite_T hd222 h
 refine spg hE rfl rfl rfl rfl hd222 (r_fieldL hE fo71_2 rfl) rfl fun a hE => ?_
 refine spg hE rfl rfl rfl rfl hd222 (r_fieldL hE fo53_0 rfl) rfl fun a hE => ?_
 refine stg hE rfl rfl rfl rfl hd222 (st_loadL hE hS ty3 rfl (i := 0) rfl (fl53_0.R_drop (fl71_2.R_drop (R_whole (kApi_Term.mono (M.le.trans hm50 hm69) hc7))))) rfl ?_
 rintro v226 a _ ⟨rfl, hv225⟩ hE
 obtain ⟨rfl, hr227⟩ := RV_int hv225
 refine spg hE rfl rfl rfl rfl hd222 (r_bin hE rfl rfl b_neq) rfl fun a hE => ?_
 refine sp hE (r_pickT hE rfl hd222 rfl) rfl fun a hE => ?_
 refine qa hE rfl rfl fun a hE => ?_
 refine knil ?_
 exact ⟨(p1.fValue.fKind != 0), h, _, (M.le.refl _), hS, hE.cut ⟨rfl, rfl, rfl, rfl, rfl, trivial⟩⟩
 }
 {
 have h := ite_F hd222 h
 refine sx hE rfl rfl rfl rfl hd222 rfl fun a hE => ?_
 refine sx hE rfl rfl rfl rfl hd222 rfl fun a hE => ?_
 refine sx hE rfl rfl rfl rfl hd222 rfl fun a hE => ?_
 refine sx hE rfl rfl rfl rfl hd222 rfl fun a hE => ?_
 refine sp hE (r_pickF hE rfl hd222 rfl) rfl fun a hE => ?_
 refine qa hE rfl rfl fun a hE => ?_
 refine knil ?_
 exact ⟨false, h, _, (M.le.refl _), hS, hE.cut ⟨rfl, rfl, rfl, rfl, rfl, trivial⟩⟩
 }
 }
 {
 rintro a w ⟨x77, h, m75, hm76, hS, hE⟩
 unfold block_May_j1 at h
 refine kseq (kseq (kreg ?_))
 refine sp hE (r_fieldL hE fo71_1 rfl) rfl fun a hE => ?_
 refine st hE (st_loadL hE hS ty3 rfl (i := 0) rfl (fl71_1.R_drop (R_whole (kApi_Term.mono (M.le.trans hm50 (M.le.trans hm69 hm76)) hc7)))) rfl ?_
 rintro v81 a _ ⟨rfl, hv80⟩ hE
 obtain ⟨rfl, hr82⟩ := RV_int hv80
 refine knil ?_
 refine kcut (fun a w => block_May_j2 = some r ∧ ∃ m', M.le m75 m' ∧ S W0 m' w ((b5, cs6) :: (b1, cs2) :: L) (TL) ∧ Env 89 a []) ?_ ?_
 {
 refine kblock (kseq ?_)
 refine kcut (fun a w => block_May_j3 r66 x77 = some r ∧ ∃ m', M.le m75 m' ∧ S W0 m' w ((b5, cs6) :: (b1, cs2) :: L) (TL) ∧ Env 89 a [(6, (.int .i64 r66)), (7, (.bool x77))]) ?_ ?_
 {
 refine kblock (kseq (kblock (kseq ?_)))
 refine kcut (fun a w => block_May_j5 r12 x77 = some r ∧ ∃ m', M.le m75 m' ∧ S W0 m' w ((b5, cs6) :: (b1, cs2) :: L) (TL) ∧ Env 89 a [(5, (.int .i64 r12)), (7, (.bool x77))]) ?_ ?_
 {
 refine kblock (kseq (kblock (kseq (kblock (kseq (kblock (kseq (kblock (kseq (kblock (kseq (kseq (kseq (kreg ?_))))))))))))))
 refine sp hE (r_bin hE rfl rfl b_eql) rfl fun a hE => ?_
 refine qa hE rfl rfl fun a hE => ?_
 refine knil ?_
 refine kif hE rfl (fun hd121 => ?_) (fun hd121 => ?_)
 {
 have h := ite_T hd121 h
 refine kexit rfl rfl ?_
 refine kseq (kseq (kreg ?_))
 refine sp hE (r_fieldL hE fo62_4 rfl) rfl fun a hE => ?_
 refine st hE (st_loadL hE hS ty3 rfl (i := 1) rfl (fl62_4.R_drop (R_whole (kBlock_Info.mono (M.le.trans hm50 (M.le.trans hm69 hm76)) hc3)))) rfl ?_
 rintro v124 a _ ⟨rfl, hv123⟩ hE
 obtain ⟨rfl, hr125⟩ := RV_int hv123
 refine sp hE (r_bin hE rfl rfl b_gtr) rfl fun a hE => ?_
 refine qa hE rfl rfl fun a hE => ?_
 refine knil (kret ?_)
 obtain rfl := oi h
 try dsimp only
 refine Fin.mk hE (rs := [.tmp 4]) rfl (ResL.tmp hE rfl ResL.nil) ?_
 exact ⟨_, (M.le.trans hm50 (M.le.trans hm69 hm76)), (hS.dropL 2), RV_of_bool⟩
 }
 {
 have h := ite_F hd121 h
 refine kskip (kseq (kseq (kreg ?_)))
 refine sp hE (r_bin hE rfl rfl b_eql) rfl fun a hE => ?_
 refine qa hE rfl rfl fun a hE => ?_
 refine knil ?_
 refine kif hE rfl (fun hd130 => ?_) (fun hd130 => ?_)
 {
 have h := ite_T hd130 h
 refine kexit rfl rfl ?_
 refine kseq (kseq (kreg ?_))
 refine sp hE (r_fieldL hE fo62_4 rfl) rfl fun a hE => ?_
 refine st hE (st_loadL hE hS ty3 rfl (i := 1) rfl (fl62_4.R_drop (R_whole (kBlock_Info.mono (M.le.trans hm50 (M.le.trans hm69 hm76)) hc3)))) rfl ?_
 rintro v133 a _ ⟨rfl, hv132⟩ hE
 obtain ⟨rfl, hr134⟩ := RV_int hv132
 refine sp hE (r_fieldL hE fo62_1 rfl) rfl fun a hE => ?_
 refine st hE (st_loadL hE hS ty3 rfl (i := 1) rfl (fl62_1.R_drop (R_whole (kBlock_Info.mono (M.le.trans hm50 (M.le.trans hm69 hm76)) hc3)))) rfl ?_
 rintro v137 a _ ⟨rfl, hv136⟩ hE
 obtain ⟨rfl, hr138⟩ := RV_int hv136
 refine sp hE (r_bin hE rfl rfl b_lss) rfl fun a hE => ?_
 refine qa hE rfl rfl fun a hE => ?_
 refine knil (kret ?_)
 obtain rfl := oi h
 try dsimp only
 refine Fin.mk hE (rs := [.tmp 4]) rfl (ResL.tmp hE rfl ResL.nil) ?_
 exact ⟨_, (M.le.trans hm50 (M.le.trans hm69 hm76)), (hS.dropL 2), RV_of_bool⟩
 }
 {
 have h := ite_F hd130 h
 refine kskip (kseq (kseq (kreg ?_)))
 refine sp hE (r_bin hE rfl rfl b_eql) rfl fun a hE => ?_
 refine qa hE rfl rfl fun a hE => ?_
 refine knil ?_
 refine kif hE rfl (fun hd143 => ?_) (fun hd143 => ?_)
 {
 have h := ite_T hd143 h
 refine kexit rfl rfl ?_
 refine kseq (kseq ?_)
 refine kcut (fun a w => ∃ x146 : Bool, block_May_j7 x146 = some r ∧ ∃ m', M.le m75 m' ∧ S W0 m' w ((b5, cs6) :: (b1, cs2) :: L) (TL) ∧ Env 89 a [(4, (.bool x146))]) ?_ ?_
 {
 refine kreg ?_
 refine qm hE rfl rfl fun a hE => ?_
 refine qm hE rfl rfl fun a hE => ?_
 rcases Bool.eq_false_or_eq_true x77 with hd150 | hd150
 {
 have h := ite_T hd150 h
 refine spg hE rfl rfl rfl rfl hd150 (r_move hE rfl) rfl fun a hE => ?_
 refine spg hE rfl rfl rfl rfl hd150 (r_bin hE rfl rfl b_leq) rfl fun a hE => ?_
 refine sp hE (r_pickT hE rfl hd150 rfl) rfl fun a hE => ?_
 refine qm hE rfl rfl fun a hE => ?_
 rcases Bool.eq_false_or_eq_true (decide (r12 ≤ 0)) with hd155 | hd155
 {
 have h := ite_T hd155 h
 refine spg hE rfl rfl rfl rfl hd155 (r_move hE rfl) rfl fun a hE => ?_
 refine spg hE rfl rfl rfl rfl hd155 (r_bin hE rfl rfl b_geq) rfl fun a hE => ?_
 refine sp hE (r_pickT hE rfl hd155 rfl) rfl fun a hE => ?_
 refine qa hE rfl rfl fun a hE => ?_
 refine knil ?_
 exact ⟨(decide (0 ≤ r66)), h, _, (M.le.refl _), hS, hE.cut ⟨rfl, trivial⟩⟩
 }
 {
 have h := ite_F hd155 h
 refine sx hE rfl rfl rfl rfl hd155 rfl fun a hE => ?_
 refine sx hE rfl rfl rfl rfl hd155 rfl fun a hE => ?_
 refine sp hE (r_pickF hE rfl hd155 rfl) rfl fun a hE => ?_
 refine qa hE rfl rfl fun a hE => ?_
 refine knil ?_
 exact ⟨false, h, _, (M.le.refl _), hS, hE.cut ⟨rfl, trivial⟩⟩
 }
 }
 {
 have h := ite_F hd150 h
 refine sx hE rfl rfl rfl rfl hd150 rfl fun a hE => ?_
 refine sx hE rfl rfl rfl rfl hd150 rfl fun a hE => ?_
 refine sp hE (r_pickF hE rfl hd150 rfl) rfl fun a hE => ?_
 refine qm hE rfl rfl fun a hE => ?_
 refine sx hE rfl rfl rfl rfl rfl rfl fun a hE => ?_
 refine sx hE rfl rfl rfl rfl rfl rfl fun a hE => ?_
 refine sp hE (r_pickF hE rfl rfl rfl) rfl fun a hE => ?_
 refine qa hE rfl rfl fun a hE => ?_
 refine knil ?_
 exact ⟨false, h, _, (M.le.refl _), hS, hE.cut ⟨rfl, trivial⟩⟩
 }
 }
 {
 rintro a w ⟨x146, h, m144, hm145, hS, hE⟩
 unfold block_May_j7 at h
 refine kret ?_
 obtain rfl := oi h
 try dsimp only
 refine Fin.mk hE (rs := [.tmp 4]) rfl (ResL.tmp hE rfl ResL.nil) ?_
 exact ⟨_, (M.le.trans hm50 (M.le.trans hm69 (M.le.trans hm76 hm145))), (hS.dropL 2), RV_of_bool⟩
 }
 }
 {
 have h := ite_F hd143 h
 refine kskip (kseq (kseq (kreg ?_)))
 refine sp hE (r_bin hE rfl rfl b_eql) rfl fun a hE => ?_
 refine qa hE rfl rfl fun a hE => ?_
 refine knil ?_
 refine kif hE rfl (fun hd168 => ?_) (fun hd168 => ?_)
 {
 have h := ite_T hd168 h
 refine kexit rfl rfl ?_
 refine kseq (kseq ?_)
 refine kcut (fun a w => ∃ x171 : Bool, block_May_j8 x171 = some r ∧ ∃ m', M.le m75 m' ∧ S W0 m' w ((b5, cs6) :: (b1, cs2) :: L) (TL) ∧ Env 89 a [(4, (.bool x171))]) ?_ ?_
 {
 refine kreg ?_
 refine qm hE rfl rfl fun a hE => ?_
 refine qm hE rfl rfl fun a hE => ?_
 rcases Bool.eq_false_or_eq_true x77 with hd175 | hd175
 {
 have h := ite_T hd175 h
 refine spg hE rfl rfl rfl rfl hd175 (r_move hE rfl) rfl fun a hE => ?_
 refine spg hE rfl rfl rfl rfl hd175 (r_bin hE rfl rfl b_neq) rfl fun a hE => ?_
 refine spg hE rfl rfl rfl rfl hd175 (r_move hE rfl) rfl fun a hE => ?_
 rcases Bool.eq_false_or_eq_true (r12 != 0) with hd179 | hd179
 {
 have h := ite_T hd179 h
 refine sx hE rfl rfl rfl rfl hd179 rfl fun a hE => ?_
 refine sx hE rfl rfl rfl rfl hd179 rfl fun a hE => ?_
 refine spg hE rfl rfl rfl rfl hd175 (r_pickT hE rfl hd179 rfl) rfl fun a hE => ?_
 refine sp hE (r_pickT hE rfl hd175 rfl) rfl fun a hE => ?_
 refine qa hE rfl rfl fun a hE => ?_
 refine knil ?_
 exact ⟨true, h, _, (M.le.refl _), hS, hE.cut ⟨rfl, trivial⟩⟩
 }
 {
 have h := ite_F hd179 h
 refine spg hE rfl rfl rfl rfl hd179 (r_move hE rfl) rfl fun a hE => ?_
 refine spg hE rfl rfl rfl rfl hd179 (r_bin hE rfl rfl b_neq) rfl fun a hE => ?_
 refine spg hE rfl rfl rfl rfl hd175 (r_pickF hE rfl hd179 rfl) rfl fun a hE => ?_
 refine sp hE (r_pickT hE rfl hd175 rfl) rfl fun a hE => ?_
 refine qa hE rfl rfl fun a hE => ?_
 refine knil ?_
 exact ⟨(r66 != 0), h, _, (M.le.refl _), hS, hE.cut ⟨rfl, trivial⟩⟩
 }
 }
 {
 have h := ite_F hd175 h
 refine sx hE rfl rfl rfl rfl hd175 rfl fun a hE => ?_
 refine sx hE rfl rfl rfl rfl hd175 rfl fun a hE => ?_
 refine sx hE rfl rfl rfl rfl hd175 rfl fun a hE => ?_
 refine sxu hE rfl rfl rfl rfl fun a hE => ?_
 refine sxu hE rfl rfl rfl rfl fun a hE => ?_
 refine sx hE rfl rfl rfl rfl hd175 rfl fun a hE => ?_
 refine sp hE (r_pickF hE rfl hd175 rfl) rfl fun a hE => ?_
 refine qa hE rfl rfl fun a hE => ?_
 refine knil ?_
 exact ⟨false, h, _, (M.le.refl _), hS, hE.cut ⟨rfl, trivial⟩⟩
 }
 }
 {
 rintro a w ⟨x171, h, m169, hm170, hS, hE⟩
 unfold block_May_j8 at h
 refine kret ?_
 obtain rfl := oi h
 try dsimp only
 refine Fin.mk hE (rs := [.tmp 4]) rfl (ResL.tmp hE rfl ResL.nil) ?_
 exact ⟨_, (M.le.trans hm50 (M.le.trans hm69 (M.le.trans hm76 hm170))), (hS.dropL 2), RV_of_bool⟩
 }
 }
 {
 have h := ite_F hd168 h
 refine kskip (kseq (kseq (kreg ?_)))
 refine sp hE (r_bin hE rfl rfl b_eql) rfl fun a hE => ?_
 refine qa hE rfl rfl fun a hE => ?_
 refine knil ?_
 refine kif hE rfl (fun hd192 => ?_) (fun hd192 => ?_)
 {
 have h := ite_T hd192 h
 refine kexit rfl rfl ?_
 refine kseq (kreg ?_)
 refine qm hE rfl rfl fun a hE => ?_
 refine sp hE (r_bin hE rfl rfl b_eql) rfl fun a hE => ?_
 refine knil ?_
 refine kif hE rfl (fun hd195 => ?_) (fun hd195 => ?_)
 {
 have h := ite_T hd195 h
 refine kseq (kreg ?_)
 refine qm hE rfl rfl fun a hE => ?_
 refine qa hE rfl rfl fun a hE => ?_
 refine knil (kret ?_)
 obtain rfl := oi h
 try dsimp only
 refine Fin.mk hE (rs := [.tmp 4]) rfl (ResL.tmp hE rfl ResL.nil) ?_
 exact ⟨_, (M.le.trans hm50 (M.le.trans hm69 hm76)), (hS.dropL 2), RV_of_bool⟩
 }
 {
 have h := ite_F hd195 h
 refine kskip ?_
 exact ⟨h, _, (M.le.refl _), hS, hE.cut ⟨rfl, rfl, trivial⟩⟩
 }
 }
 {
 have h := ite_F hd192 h
 refine kskip (kseq (kseq (kreg ?_)))
 refine sp hE (r_bin hE rfl rfl b_eql) rfl fun a hE => ?_
 refine qa hE rfl rfl fun a hE => ?_
 refine knil ?_
 refine kif hE rfl (fun hd200 => ?_) (fun hd200 => ?_)
 {
 have h := ite_T hd200 h
 refine kexit rfl rfl ?_
 exact ⟨h, _, (M.le.refl _), hS, hE.cut ⟨rfl, rfl, trivial⟩⟩
 }
 {
 have h := ite_F hd200 h
 refine kskip (kseq (kseq (kreg ?_)))
 refine sp hE (r_bin hE rfl rfl b_eql) rfl fun a hE => ?_
 refine qa hE rfl rfl fun a hE => ?_
 refine knil ?_
 refine kif hE rfl (fun hd203 => ?_) (fun hd203 => ?_)
 {
 have h := ite_T hd203 h
 refine kexit rfl rfl ?_
 refine kseq (kreg ?_)
 refine qm hE rfl rfl fun a hE => ?_
 refine sp hE (r_bin hE rfl rfl b_eql) rfl fun a hE => ?_
 refine knil ?_
 refine kif hE rfl (fun hd206 => ?_) (fun hd206 => ?_)
 {
 have h := ite_T hd206 h
 refine kseq (kreg ?_)
 refine qm hE rfl rfl fun a hE => ?_
 refine qa hE rfl rfl fun a hE => ?_
 refine knil (kret ?_)
 obtain rfl := oi h
 try dsimp only
 refine Fin.mk hE (rs := [.tmp 4]) rfl (ResL.tmp hE rfl ResL.nil) ?_
 exact ⟨_, (M.le.trans hm50 (M.le.trans hm69 hm76)), (hS.dropL 2), RV_of_bool⟩
 }
 {
 have h := ite_F hd206 h
 refine kskip ?_
 exact ⟨h, _, (M.le.refl _), hS, hE.cut ⟨rfl, rfl, trivial⟩⟩
 }
 }
 {
 have h := ite_F hd203 h
 refine kskip (kseq (kreg ?_))
 refine sp hE (r_bin hE rfl rfl b_eql) rfl fun a hE => ?_
 refine qa hE rfl rfl fun a hE => ?_
 refine knil ?_
 refine kif hE rfl (fun hd211 => ?_) (fun hd211 => ?_)
 {
 have h := ite_T hd211 h
 refine kexit rfl rfl ?_
 exact ⟨h, _, (M.le.refl _), hS, hE.cut ⟨rfl, rfl, trivial⟩⟩
 }
 {
 have h := ite_F hd211 h
 refine kskip ?_
 refine kexit rfl rfl ?_
 exact ⟨h, _, (M.le.refl _), hS, hE.cut trivial⟩
 }
 }
 }
 }
 }
 }
 }
 }
 }
 {
 rintro a w ⟨h, m103, hm104, hS, hE⟩
 unfold block_May_j5 at h
 refine kseq (kseq ?_)
 refine kcut (fun a w => ∃ x108 : Bool, block_May_j6 x108 = some r ∧ ∃ m', M.le m103 m' ∧ S W0 m' w ((b5, cs6) :: (b1, cs2) :: L) (TL) ∧ Env 89 a [(4, (.bool x108))]) ?_ ?_
 {
 refine kreg ?_
 refine qm hE rfl rfl fun a hE => ?_
 refine qm hE rfl rfl fun a hE => ?_
 rcases Bool.eq_false_or_eq_true x77 with hd112 | hd112
 {
 have h := ite_T hd112 h
 refine spg hE rfl rfl rfl rfl hd112 (r_move hE rfl) rfl fun a hE => ?_
 refine spg hE rfl rfl rfl rfl hd112 (r_bin hE rfl rfl b_lss) rfl fun a hE => ?_
 refine sp hE (r_pickT hE rfl hd112 rfl) rfl fun a hE => ?_
 refine qa hE rfl rfl fun a hE => ?_
 refine knil ?_
 exact ⟨(decide (r12 < 0)), h, _, (M.le.refl _), hS, hE.cut ⟨rfl, trivial⟩⟩
 }
 {
 have h := ite_F hd112 h
 refine sx hE rfl rfl rfl rfl hd112 rfl fun a hE => ?_
 refine sx hE rfl rfl rfl rfl hd112 rfl fun a hE => ?_
 refine sp hE (r_pickF hE rfl hd112 rfl) rfl fun a hE => ?_
 refine qa hE rfl rfl fun a hE => ?_
 refine knil ?_
 exact ⟨false, h, _, (M.le.refl _), hS, hE.cut ⟨rfl, trivial⟩⟩
 }
 }
 {
 rintro a w ⟨x108, h, m106, hm107, hS, hE⟩
 unfold block_May_j6 at h
 refine kret ?_
 obtain rfl := oi h
 try dsimp only
 refine Fin.mk hE (rs := [.tmp 4]) rfl (ResL.tmp hE rfl ResL.nil) ?_
 exact ⟨_, (M.le.trans hm50 (M.le.trans hm69 (M.le.trans hm76 (M.le.trans hm104 hm107)))), (hS.dropL 2), RV_of_bool⟩
 }
 }
 }
 {
 rintro a w ⟨h, m87, hm88, hS, hE⟩
 unfold block_May_j3 at h
 refine kseq (kseq ?_)
 refine kcut (fun a w => ∃ x92 : Bool, block_May_j4 x92 = some r ∧ ∃ m', M.le m87 m' ∧ S W0 m' w ((b5, cs6) :: (b1, cs2) :: L) (TL) ∧ Env 89 a [(4, (.bool x92))]) ?_ ?_
 {
 refine kreg ?_
 refine qm hE rfl rfl fun a hE => ?_
 refine qm hE rfl rfl fun a hE => ?_
 rcases Bool.eq_false_or_eq_true x77 with hd96 | hd96
 {
 have h := ite_T hd96 h
 refine spg hE rfl rfl rfl rfl hd96 (r_move hE rfl) rfl fun a hE => ?_
 refine spg hE rfl rfl rfl rfl hd96 (r_bin hE rfl rfl b_gtr) rfl fun a hE => ?_
 refine sp hE (r_pickT hE rfl hd96 rfl) rfl fun a hE => ?_
 refine qa hE rfl rfl fun a hE => ?_
 refine knil ?_
 exact ⟨(decide (0 < r66)), h, _, (M.le.refl _), hS, hE.cut ⟨rfl, trivial⟩⟩
 }
 {
 have h := ite_F hd96 h
 refine sx hE rfl rfl rfl rfl hd96 rfl fun a hE => ?_
 refine sx hE rfl rfl rfl rfl hd96 rfl fun a hE => ?_
 refine sp hE (r_pickF hE rfl hd96 rfl) rfl fun a hE => ?_
 refine qa hE rfl rfl fun a hE => ?_
 refine knil ?_
 exact ⟨false, h, _, (M.le.refl _), hS, hE.cut ⟨rfl, trivial⟩⟩
 }
 }
 {
 rintro a w ⟨x92, h, m90, hm91, hS, hE⟩
 unfold block_May_j4 at h
 refine kret ?_
 obtain rfl := oi h
 try dsimp only
 refine Fin.mk hE (rs := [.tmp 4]) rfl (ResL.tmp hE rfl ResL.nil) ?_
 exact ⟨_, (M.le.trans hm50 (M.le.trans hm69 (M.le.trans hm76 (M.le.trans hm88 hm91)))), (hS.dropL 2), RV_of_bool⟩
 }
 }
 }
 {
 rintro a w ⟨h, m83, hm84, hS, hE⟩
 unfold block_May_j2 at h
 refine kseq (kreg ?_)
 refine qa hE rfl rfl fun a hE => ?_
 refine knil (kret ?_)
 obtain rfl := oi h
 try dsimp only
 refine Fin.mk hE (rs := [.tmp 4]) rfl (ResL.tmp hE rfl ResL.nil) ?_
 exact ⟨_, (M.le.trans hm50 (M.le.trans hm69 (M.le.trans hm76 hm84))), (hS.dropL 2), RV_of_bool⟩
 }
 }
 }
theorem c_hayloftref07_May {W0 : Bse} {m : M} {w : World} {L : List (Nat × List Value)} {TL : List (Nat × Value)} (hS : S W0 m w (L) (TL)) {v0 : Value} {p0 : Hayloftref07_Info} (ha0 : RV kHayloftref07_Info m v0 p0) {v1 : Value} {p1 : Api_Term} (ha1 : RV kApi_Term m v1 p1) {r : Bool} (h : hayloftref07_May p0 p1 = some r) :
    Calls Try.prog 38 [v0, v1].toArray w (Ret fun v w' => ∃ m', M.le m m' ∧ S W0 m' w' (L) (TL) ∧ RV kBool m' v r) := by
 refine kcall Try.func38 rfl Try.ntmps38 (Nat.le_of_ble_eq_true rfl) fun a hE => ?_
 have hE : Env 76 a [(0, v0), (1, v1)] := hE
 unfold hayloftref07_May at h
 refine kseq (kreg ?_)
 refine st hE (st_box (k := kHayloftref07_Info) hE hS rfl ha0) rfl ?_
 rintro _ a w ⟨b1, cs2, rfl, hc3, hS⟩ hE
 refine st hE (st_box (k := kApi_Term) hE hS rfl ha1) rfl ?_
 rintro _ a w ⟨b5, cs6, rfl, hc7, hS⟩ hE
 refine qa hE rfl rfl fun a hE => ?_
 refine knil (kseq (kseq (kreg ?_)))
 refine sp hE (r_fieldL hE fo71_1 rfl) rfl fun a hE => ?_
 refine st hE (st_loadL hE hS ty3 rfl (i := 0) rfl (fl71_1.R_drop (R_whole hc7))) rfl ?_
 rintro v12 a _ ⟨rfl, hv11⟩ hE
 obtain ⟨rfl, hr13⟩ := RV_int hv11
 refine sp hE (r_bin hE rfl rfl b_eql) rfl fun a hE => ?_
 refine knil ?_
 refine kif hE rfl (fun hd15 => ?_) (fun hd15 => ?_)
 {
 have h := ite_T hd15 h
 refine kseq (kreg ?_)
 refine sp hE (r_fieldL hE fo72_4 rfl) rfl fun a hE => ?_
 refine st hE (st_loadL hE hS ty3 rfl (i := 1) rfl (fl72_4.R_drop (R_whole hc3))) rfl ?_
 rintro v18 a _ ⟨rfl, hv17⟩ hE
 obtain ⟨rfl, hr19⟩ := RV_int hv17
 refine sp hE (r_bin hE rfl rfl b_gtr) rfl fun a hE => ?_
 refine qa hE rfl rfl fun a hE => ?_
 refine knil (kret ?_)
 obtain rfl := oi h
 try dsimp only
 refine Fin.mk hE (rs := [.tmp 4]) rfl (ResL.tmp hE rfl ResL.nil) ?_
 exact ⟨_, (M.le.refl _), (hS.dropL 2), RV_of_bool⟩
 }
 {
 have h := ite_F hd15 h
 refine kskip (kseq (kseq (kreg ?_)))
 refine sp hE (r_fieldL hE fo71_1 rfl) rfl fun a hE => ?_
 refine st hE (st_loadL hE hS ty3 rfl (i := 0) rfl (fl71_1.R_drop (R_whole hc7))) rfl ?_
 rintro v24 a _ ⟨rfl, hv23⟩ hE
 obtain ⟨rfl, hr25⟩ := RV_int hv23
 refine sp hE (r_bin hE rfl rfl b_eql) rfl fun a hE => ?_
 refine knil ?_
 refine kif hE rfl (fun hd27 => ?_) (fun hd27 => ?_)
 {
 have h := ite_T hd27 h
 refine kseq (kreg ?_)
 refine sp hE (r_fieldL hE fo72_4 rfl) rfl fun a hE => ?_
 refine st hE (st_loadL hE hS ty3 rfl (i := 1) rfl (fl72_4.R_drop (R_whole hc3))) rfl ?_
 rintro v30 a _ ⟨rfl, hv29⟩ hE
 obtain ⟨rfl, hr31⟩ := RV_int hv29
 refine sp hE (r_fieldL hE fo72_1 rfl) rfl fun a hE => ?_
 refine st hE (st_loadL hE hS ty3 rfl (i := 1) rfl (fl72_1.R_drop (R_whole hc3))) rfl ?_
 rintro v34 a _ ⟨rfl, hv33⟩ hE
 obtain ⟨rfl, hr35⟩ := RV_int hv33
 refine sp hE (r_bin hE rfl rfl b_lss) rfl fun a hE => ?_
 refine qa hE rfl rfl fun a hE => ?_
 refine knil (kret ?_)
 obtain rfl := oi h
 try dsimp only
 refine Fin.mk hE (rs := [.tmp 4]) rfl (ResL.tmp hE rfl ResL.nil) ?_
 exact ⟨_, (M.le.refl _), (hS.dropL 2), RV_of_bool⟩
 }
 {
 have h := ite_F hd27 h
 refine kskip (kseq (kseq ?_))
 refine kcut (fun a w => ∃ x40 : Bool, hayloftref07_May_j1 p0 p1 x40 = some r ∧ ∃ m', M.le m m' ∧ S W0 m' w ((b5, cs6) :: (b1, cs2) :: L) (TL) ∧ Env 76 a [(2, (.pointer (some ⟨b1, 0, none⟩))), (3, (.pointer (some ⟨b5, 0, none⟩))), (31, (.bool x40))]) ?_ ?_
 {
 refine kreg ?_
 refine sp hE (r_fieldL hE fo72_4 rfl) rfl fun a hE => ?_
 refine st hE (st_loadL hE hS ty3 rfl (i := 1) rfl (fl72_4.R_drop (R_whole hc3))) rfl ?_
 rintro v137 a _ ⟨rfl, hv136⟩ hE
 obtain ⟨rfl, hr138⟩ := RV_int hv136
 refine sp hE (r_fieldL hE fo72_1 rfl) rfl fun a hE => ?_
 refine st hE (st_loadL hE hS ty3 rfl (i := 1) rfl (fl72_1.R_drop (R_whole hc3))) rfl ?_
 rintro v141 a _ ⟨rfl, hv140⟩ hE
 obtain ⟨rfl, hr142⟩ := RV_int hv140
 refine sp hE (r_bin hE rfl rfl b_geq) rfl fun a hE => ?_
 refine qm hE rfl rfl fun a hE => ?_
 rcases Bool.eq_false_or_eq_true (decide (p0.fMany ≤ p0.fNulls)) with hd145 | hd145
 {
 have h := ite_T hd145 h
 refine sx hE rfl rfl rfl rfl hd145 rfl fun a hE => ?_
 refine sx hE rfl rfl rfl rfl hd145 rfl fun a hE => ?_
 refine sx hE rfl rfl rfl rfl hd145 rfl fun a hE => ?_
 refine sx hE rfl rfl rfl rfl hd145 rfl fun a hE => ?_
 refine sp hE (r_pickT hE rfl hd145 rfl) rfl fun a hE => ?_
 refine knil ?_
 exact ⟨true, h, _, (M.le.refl _), hS, hE.cut ⟨rfl, rfl, rfl, trivial⟩⟩
 }
 {
 have h := ite_F hd145 h
 refine spg hE rfl rfl rfl rfl hd145 (r_fieldL hE fo71_2 rfl) rfl fun a hE => ?_
 refine spg hE rfl rfl rfl rfl hd145 (r_fieldL hE fo53_0 rfl) rfl fun a hE => ?_
 refine stg hE rfl rfl rfl rfl hd145 (st_loadL hE hS ty3 rfl (i := 0) rfl (fl53_0.R_drop (fl71_2.R_drop (R_whole hc7)))) rfl ?_
 rintro v150 a _ ⟨rfl, hv149⟩ hE
 obtain ⟨rfl, hr151⟩ := RV_int hv149
 refine spg hE rfl rfl rfl rfl hd145 (r_bin hE rfl rfl b_eql) rfl fun a hE => ?_
 refine sp hE (r_pickF hE rfl hd145 rfl) rfl fun a hE => ?_
 refine knil ?_
 exact ⟨(p1.fValue.fKind == 0), h, _, (M.le.refl _), hS, hE.cut ⟨rfl, rfl, rfl, trivial⟩⟩
 }
 }
 {
 rintro a w ⟨x40, h, m38, hm39, hS, hE⟩
 unfold hayloftref07_May_j1 at h
 refine kif hE rfl (fun hd42 => ?_) (fun hd42 => ?_)
 {
 have h := ite_T hd42 h
 refine kseq (kreg ?_)
 refine qa hE rfl rfl fun a hE => ?_
 refine knil (kret ?_)
 obtain rfl := oi h
 try dsimp only
 refine Fin.mk hE (rs := [.tmp 4]) rfl (ResL.tmp hE rfl ResL.nil) ?_
 exact ⟨_, hm39, (hS.dropL 2), RV_of_bool⟩
 }
 {
 have h := ite_F hd42 h
 refine kskip (kseq (kreg ?_))
 refine sp hE (r_fieldL hE fo72_2 rfl) rfl fun a hE => ?_
 refine st hE (st_loadL hE hS ty53 rfl (i := 1) rfl (fl72_2.R_drop (R_whole (kHayloftref07_Info.mono hm39 hc3)))) rfl ?_
 rintro v46 a _ ⟨rfl, hv45⟩ hE
 refine sp hE (r_fieldL hE fo71_2 rfl) rfl fun a hE => ?_
 refine st hE (st_loadL hE hS ty53 rfl (i := 0) rfl (fl71_2.R_drop (R_whole (kApi_Term.mono hm39 hc7)))) rfl ?_
 rintro v49 a _ ⟨rfl, hv48⟩ hE
 obtain ⟨r50, hr51, h⟩ := ob h
 refine st hE (st_call (vs := [v46, v49]) hE rfl Try.call75 (c_hayloftref02_Compare (hS := hS) hv45 hv48 hr51)) rfl ?_
 rintro v55 a w ⟨m52, hm53, hS, hv54⟩ hE
 obtain ⟨rfl, hr56⟩ := RV_int hv54
 refine qa hE rfl rfl fun a hE => ?_
 refine knil (kseq (kreg ?_))
 refine sp hE (r_fieldL hE fo72_3 rfl) rfl fun a hE => ?_
 refine st hE (st_loadL hE hS ty53 rfl (i := 1) rfl (fl72_3.R_drop (R_whole (kHayloftref07_Info.mono (M.le.trans hm39 hm53) hc3)))) rfl ?_
 rintro v60 a _ ⟨rfl, hv59⟩ hE
 refine sp hE (r_fieldL hE fo71_2 rfl) rfl fun a hE => ?_
 refine st hE (st_loadL hE hS ty53 rfl (i := 0) rfl (fl71_2.R_drop (R_whole (kApi_Term.mono (M.le.trans hm39 hm53) hc7)))) rfl ?_
 rintro v63 a _ ⟨rfl, hv62⟩ hE
 obtain ⟨r64, hr65, h⟩ := ob h
 refine st hE (st_call (vs := [v60, v63]) hE rfl Try.call75 (c_hayloftref02_Compare (hS := hS) hv59 hv62 hr65)) rfl ?_
 rintro v69 a w ⟨m66, hm67, hS, hv68⟩ hE
 obtain ⟨rfl, hr70⟩ := RV_int hv68
 refine qa hE rfl rfl fun a hE => ?_
 refine knil (kseq (kseq (kreg ?_)))
 refine sp hE (r_fieldL hE fo71_1 rfl) rfl fun a hE => ?_
 refine st hE (st_loadL hE hS ty3 rfl (i := 0) rfl (fl71_1.R_drop (R_whole (kApi_Term.mono (M.le.trans hm39 (M.le.trans hm53 hm67)) hc7)))) rfl ?_
 rintro v74 a _ ⟨rfl, hv73⟩ hE
 obtain ⟨rfl, hr75⟩ := RV_int hv73
 refine knil (kblock (kseq (kreg ?_)))
 refine sp hE (r_bin hE rfl rfl b_eql) rfl fun a hE => ?_
 refine qa hE rfl rfl fun a hE => ?_
 refine knil ?_
 refine kif hE rfl (fun hd78 => ?_) (fun hd78 => ?_)
 {
 have h := ite_T hd78 h
 refine kseq ?_
 refine kcut (fun a w => ∃ x81 : Bool, hayloftref07_May_j2 x81 = some r ∧ ∃ m', M.le m66 m' ∧ S W0 m' w ((b5, cs6) :: (b1, cs2) :: L) (TL) ∧ Env 76 a [(4, (.bool x81))]) ?_ ?_
 {
 refine kreg ?_
 refine qm hE rfl rfl fun a hE => ?_
 refine sp hE (r_bin hE rfl rfl b_leq) rfl fun a hE => ?_
 refine qm hE rfl rfl fun a hE => ?_
 rcases Bool.eq_false_or_eq_true (decide (r50 ≤ 0)) with hd86 | hd86
 {
 have h := ite_T hd86 h
 refine spg hE rfl rfl rfl rfl hd86 (r_move hE rfl) rfl fun a hE => ?_
 refine spg hE rfl rfl rfl rfl hd86 (r_bin hE rfl rfl b_geq) rfl fun a hE => ?_
 refine sp hE (r_pickT hE rfl hd86 rfl) rfl fun a hE => ?_
 refine qa hE rfl rfl fun a hE => ?_
 refine knil ?_
 exact ⟨(decide (0 ≤ r64)), h, _, (M.le.refl _), hS, hE.cut ⟨rfl, trivial⟩⟩
 }
 {
 have h := ite_F hd86 h
 refine sx hE rfl rfl rfl rfl hd86 rfl fun a hE => ?_
 refine sx hE rfl rfl rfl rfl hd86 rfl fun a hE => ?_
 refine sp hE (r_pickF hE rfl hd86 rfl) rfl fun a hE => ?_
 refine qa hE rfl rfl fun a hE => ?_
 refine knil ?_
 exact ⟨false, h, _, (M.le.refl _), hS, hE.cut ⟨rfl, trivial⟩⟩
 }
 }
 {
 rintro a w ⟨x81, h, m79, hm80, hS, hE⟩
 unfold hayloftref07_May_j2 at h
 refine kret ?_
 obtain rfl := oi h
 try dsimp only
 refine Fin.mk hE (rs := [.tmp 4]) rfl (ResL.tmp hE rfl ResL.nil) ?_
 exact ⟨_, (M.le.trans hm39 (M.le.trans hm53 (M.le.trans hm67 hm80))), (hS.dropL 2), RV_of_bool⟩
 }
 }
 {
 have h := ite_F hd78 h
 refine kseq (kreg ?_)
 refine sp hE (r_bin hE rfl rfl b_eql) rfl fun a hE => ?_
 refine qa hE rfl rfl fun a hE => ?_
 refine knil ?_
 refine kif hE rfl (fun hd95 => ?_) (fun hd95 => ?_)
 {
 have h := ite_T hd95 h
 refine kseq ?_
 refine kcut (fun a w => ∃ x98 : Bool, hayloftref07_May_j3 x98 = some r ∧ ∃ m', M.le m66 m' ∧ S W0 m' w ((b5, cs6) :: (b1, cs2) :: L) (TL) ∧ Env 76 a [(4, (.bool x98))]) ?_ ?_
 {
 refine kreg ?_
 refine qm hE rfl rfl fun a hE => ?_
 refine sp hE (r_bin hE rfl rfl b_neq) rfl fun a hE => ?_
 refine qm hE rfl rfl fun a hE => ?_
 rcases Bool.eq_false_or_eq_true (r50 != 0) with hd103 | hd103
 {
 have h := ite_T hd103 h
 refine sx hE rfl rfl rfl rfl hd103 rfl fun a hE => ?_
 refine sx hE rfl rfl rfl rfl hd103 rfl fun a hE => ?_
 refine sp hE (r_pickT hE rfl hd103 rfl) rfl fun a hE => ?_
 refine qa hE rfl rfl fun a hE => ?_
 refine knil ?_
 exact ⟨true, h, _, (M.le.refl _), hS, hE.cut ⟨rfl, trivial⟩⟩
 }
 {
 have h := ite_F hd103 h
 refine spg hE rfl rfl rfl rfl hd103 (r_move hE rfl) rfl fun a hE => ?_
 refine spg hE rfl rfl rfl rfl hd103 (r_bin hE rfl rfl b_neq) rfl fun a hE => ?_
 refine sp hE (r_pickF hE rfl hd103 rfl) rfl fun a hE => ?_
 refine qa hE rfl rfl fun a hE => ?_
 refine knil ?_
 exact ⟨(r64 != 0), h, _, (M.le.refl _), hS, hE.cut ⟨rfl, trivial⟩⟩
 }
 }
 {
 rintro a w ⟨x98, h, m96, hm97, hS, hE⟩
 unfold hayloftref07_May_j3 at h
 refine kret ?_
 obtain rfl := oi h
 try dsimp only
 refine Fin.mk hE (rs := [.tmp 4]) rfl (ResL.tmp hE rfl ResL.nil) ?_
 exact ⟨_, (M.le.trans hm39 (M.le.trans hm53 (M.le.trans hm67 hm97))), (hS.dropL 2), RV_of_bool⟩
 }
 }
 {
 have h := ite_F hd95 h
 refine kseq (kreg ?_)
 refine sp hE (r_bin hE rfl rfl b_eql) rfl fun a hE => ?_
 refine qa hE rfl rfl fun a hE => ?_
 refine knil ?_
 refine kif hE rfl (fun hd112 => ?_) (fun hd112 => ?_)
 {
 have h := ite_T hd112 h
 refine kseq (kreg ?_)
 refine qm hE rfl rfl fun a hE => ?_
 refine sp hE (r_bin hE rfl rfl b_lss) rfl fun a hE => ?_
 refine qa hE rfl rfl fun a hE => ?_
 refine knil (kret ?_)
 obtain rfl := oi h
 try dsimp only
 refine Fin.mk hE (rs := [.tmp 4]) rfl (ResL.tmp hE rfl ResL.nil) ?_
 exact ⟨_, (M.le.trans hm39 (M.le.trans hm53 hm67)), (hS.dropL 2), RV_of_bool⟩
 }
 {
 have h := ite_F hd112 h
 refine kseq (kreg ?_)
 refine sp hE (r_bin hE rfl rfl b_eql) rfl fun a hE => ?_
 refine qa hE rfl rfl fun a hE => ?_
 refine knil ?_
 refine kif hE rfl (fun hd118 => ?_) (fun hd118 => ?_)
 {
 have h := ite_T hd118 h
 refine kseq (kreg ?_)
 refine qm hE rfl rfl fun a hE => ?_
 refine sp hE (r_bin hE rfl rfl b_leq) rfl fun a hE => ?_
 refine qa hE rfl rfl fun a hE => ?_
 refine knil (kret ?_)
 obtain rfl := oi h
 try dsimp only
 refine Fin.mk hE (rs := [.tmp 4]) rfl (ResL.tmp hE rfl ResL.nil) ?_
 exact ⟨_, (M.le.trans hm39 (M.le.trans hm53 hm67)), (hS.dropL 2), RV_of_bool⟩
 }
 {
 have h := ite_F hd118 h
 refine kseq (kreg ?_)
 refine sp hE (r_bin hE rfl rfl b_eql) rfl fun a hE => ?_
 refine qa hE rfl rfl fun a hE => ?_
 refine knil ?_
 refine kif hE rfl (fun hd124 => ?_) (fun hd124 => ?_)
 {
 have h := ite_T hd124 h
 refine kseq (kreg ?_)
 refine qm hE rfl rfl fun a hE => ?_
 refine sp hE (r_bin hE rfl rfl b_gtr) rfl fun a hE => ?_
 refine qa hE rfl rfl fun a hE => ?_
 refine knil (kret ?_)
 obtain rfl := oi h
 try dsimp only
 refine Fin.mk hE (rs := [.tmp 4]) rfl (ResL.tmp hE rfl ResL.nil) ?_
 exact ⟨_, (M.le.trans hm39 (M.le.trans hm53 hm67)), (hS.dropL 2), RV_of_bool⟩
 }
 {
 have h := ite_F hd124 h
 refine kseq (kreg ?_)
 refine sp hE (r_bin hE rfl rfl b_eql) rfl fun a hE => ?_
 refine qa hE rfl rfl fun a hE => ?_
 refine knil ?_
 refine kif hE rfl (fun hd130 => ?_) (fun hd130 => ?_)
 {
 have h := ite_T hd130 h
 refine kseq (kreg ?_)
 refine qm hE rfl rfl fun a hE => ?_
 refine sp hE (r_bin hE rfl rfl b_geq) rfl fun a hE => ?_
 refine qa hE rfl rfl fun a hE => ?_
 refine knil (kret ?_)
 obtain rfl := oi h
 try dsimp only
 refine Fin.mk hE (rs := [.tmp 4]) rfl (ResL.tmp hE rfl ResL.nil) ?_
 exact ⟨_, (M.le.trans hm39 (M.le.trans hm53 hm67)), (hS.dropL 2), RV_of_bool⟩
 }
 {
 have h := ite_F hd130 h
 refine kskip (kseq (kreg ?_))
 refine qa hE rfl rfl fun a hE => ?_
 refine knil (kret ?_)
 obtain rfl := oi h
 try dsimp only
 refine Fin.mk hE (rs := [.tmp 4]) rfl (ResL.tmp hE rfl ResL.nil) ?_
 exact ⟨_, (M.le.trans hm39 (M.le.trans hm53 hm67)), (hS.dropL 2), RV_of_bool⟩
 }
 }
 }
 }
 }
 }
 }
 }
 }
 }
theorem c_hayloftlaw07_term {W0 : Bse} {m : M} {w : World} {L : List (Nat × List Value)} {TL : List (Nat × Value)} (hS : S W0 m w (L) (TL)) {v0 : Value} {p0 : Api_Term} (ha0 : RV kApi_Term m v0 p0) {v1 : Value} {p1 : AV} (ha1 : RV kAV m v1 p1) {r : Bool} (h : hayloftlaw07_term p0 p1 = some r) :
    Calls Try.prog 39 [v0, v1].toArray w (Ret fun v w' => ∃ m', M.le m m' ∧ S W0 m' w' (L) (TL) ∧ RV kBool m' v r) := by
 refine kcall Try.func39 rfl Try.ntmps39 (Nat.le_of_ble_eq_true rfl) fun a hE => ?_
 have hE : Env 60 a [(0, v0), (1, v1)] := hE
 unfold hayloftlaw07_term at h
 refine kseq (kreg ?_)
 refine st hE (st_box (k := kApi_Term) hE hS rfl ha0) rfl ?_
 rintro _ a w ⟨b1, cs2, rfl, hc3, hS⟩ hE
 refine st hE (st_box (k := kAV) hE hS rfl ha1) rfl ?_
 rintro _ a w ⟨b5, cs6, rfl, hc7, hS⟩ hE
 refine qa hE rfl rfl fun a hE => ?_
 refine knil (kseq (kseq ?_))
 refine kcut (fun a w => ∃ x12 : Bool, hayloftlaw07_term_j1 p0 p1 x12 = some r ∧ ∃ m', M.le m m' ∧ S W0 m' w ((b5, cs6) :: (b1, cs2) :: L) (TL) ∧ Env 60 a [(2, (.pointer (some ⟨b1, 0, none⟩))), (3, (.pointer (some ⟨b5, 0, none⟩))), (13, (.bool x12))]) ?_ ?_
 {
 refine kreg ?_
 refine sp hE (r_fieldL hE fo71_1 rfl) rfl fun a hE => ?_
 refine st hE (st_loadL hE hS ty3 rfl (i := 1) rfl (fl71_1.R_drop (R_whole hc3))) rfl ?_
 rintro v104 a _ ⟨rfl, hv103⟩ hE
 obtain ⟨rfl, hr105⟩ := RV_int hv103
 refine sp hE (r_bin hE rfl rfl b_eql) rfl fun a hE => ?_
 refine qm hE rfl rfl fun a hE => ?_
 rcases Bool.eq_false_or_eq_true (p0.fOp == 6) with hd108 | hd108
 {
 have h := ite_T hd108 h
 refine sx hE rfl rfl rfl rfl hd108 rfl fun a hE => ?_
 refine sx hE rfl rfl rfl rfl hd108 rfl fun a hE => ?_
 refine sx hE rfl rfl rfl rfl hd108 rfl fun a hE => ?_
 refine sp hE (r_pickT hE rfl hd108 rfl) rfl fun a hE => ?_
 refine knil ?_
 exact ⟨true, h, _, (M.le.refl _), hS, hE.cut ⟨rfl, rfl, rfl, trivial⟩⟩
 }
 {
 have h := ite_F hd108 h
 refine spg hE rfl rfl rfl rfl hd108 (r_fieldL hE fo71_1 rfl) rfl fun a hE => ?_
 refine stg hE rfl rfl rfl rfl hd108 (st_loadL hE hS ty3 rfl (i := 1) rfl (fl71_1.R_drop (R_whole hc3))) rfl ?_
 rintro v112 a _ ⟨rfl, hv111⟩ hE
 obtain ⟨rfl, hr113⟩ := RV_int hv111
 refine spg hE rfl rfl rfl rfl hd108 (r_bin hE rfl rfl b_eql) rfl fun a hE => ?_
 refine sp hE (r_pickF hE rfl hd108 rfl) rfl fun a hE => ?_
 refine knil ?_
 exact ⟨(p0.fOp == 7), h, _, (M.le.refl _), hS, hE.cut ⟨rfl, rfl, rfl, trivial⟩⟩
 }
 }
 {
 rintro a w ⟨x12, h, m10, hm11, hS, hE⟩
 unfold hayloftlaw07_term_j1 at h
 refine kif hE rfl (fun hd14 => ?_) (fun hd14 => ?_)
 {
 have h := ite_T hd14 h
 refine kseq (kreg ?_)
 refine sp hE (r_fieldL hE fo53_0 rfl) rfl fun a hE => ?_
 refine st hE (st_loadL hE hS ty3 rfl (i := 0) rfl (fl53_0.R_drop (R_whole (kAV.mono hm11 hc7)))) rfl ?_
 rintro v17 a _ ⟨rfl, hv16⟩ hE
 obtain ⟨rfl, hr18⟩ := RV_int hv16
 refine sp hE (r_bin hE rfl rfl b_eql) rfl fun a hE => ?_
 refine sp hE (r_fieldL hE fo71_1 rfl) rfl fun a hE => ?_
 refine st hE (st_loadL hE hS ty3 rfl (i := 1) rfl (fl71_1.R_drop (R_whole (kApi_Term.mono hm11 hc3)))) rfl ?_
 rintro v22 a _ ⟨rfl, hv21⟩ hE
 obtain ⟨rfl, hr23⟩ := RV_int hv21
 refine sp hE (r_bin hE rfl rfl b_eql) rfl fun a hE => ?_
 refine sp hE (r_eqlB hE rfl rfl Try.underlying4) rfl fun a hE => ?_
 refine qa hE rfl rfl fun a hE => ?_
 refine knil (kret ?_)
 obtain rfl := oi h
 try dsimp only
 refine Fin.mk hE (rs := [.tmp 4]) rfl (ResL.tmp hE rfl ResL.nil) ?_
 exact ⟨_, hm11, (hS.dropL 2), RV_of_bool⟩
 }
 {
 have h := ite_F hd14 h
 refine kskip (kseq (kseq ?_))
 refine kcut (fun a w => ∃ x29 : Bool, hayloftlaw07_term_j2 p0 p1 x29 = some r ∧ ∃ m', M.le m10 m' ∧ S W0 m' w ((b5, cs6) :: (b1, cs2) :: L) (TL) ∧ Env 60 a [(2, (.pointer (some ⟨b1, 0, none⟩))), (3, (.pointer (some ⟨b5, 0, none⟩))), (29, (.bool x29))]) ?_ ?_
 {
 refine kreg ?_
 refine sp hE (r_fieldL hE fo53_0 rfl) rfl fun a hE => ?_
 refine st hE (st_loadL hE hS ty3 rfl (i := 0) rfl (fl53_0.R_drop (R_whole (kAV.mono hm11 hc7)))) rfl ?_
 rintro v89 a _ ⟨rfl, hv88⟩ hE
 obtain ⟨rfl, hr90⟩ := RV_int hv88
 refine sp hE (r_bin hE rfl rfl b_eql) rfl fun a hE => ?_
 refine qm hE rfl rfl fun a hE => ?_
 rcases Bool.eq_false_or_eq_true (p1.fKind == 0) with hd93 | hd93
 {
 have h := ite_T hd93 h
 refine sx hE rfl rfl rfl rfl hd93 rfl fun a hE => ?_
 refine sx hE rfl rfl rfl rfl hd93 rfl fun a hE => ?_
 refine sx hE rfl rfl rfl rfl hd93 rfl fun a hE => ?_
 refine sx hE rfl rfl rfl rfl hd93 rfl fun a hE => ?_
 refine sp hE (r_pickT hE rfl hd93 rfl) rfl fun a hE => ?_
 refine knil ?_
 exact ⟨true, h, _, (M.le.refl _), hS, hE.cut ⟨rfl, rfl, rfl, trivial⟩⟩
 }
 {
 have h := ite_F hd93 h
 refine spg hE rfl rfl rfl rfl hd93 (r_fieldL hE fo71_2 rfl) rfl fun a hE => ?_
 refine spg hE rfl rfl rfl rfl hd93 (r_fieldL hE fo53_0 rfl) rfl fun a hE => ?_
 refine stg hE rfl rfl rfl rfl hd93 (st_loadL hE hS ty3 rfl (i := 1) rfl (fl53_0.R_drop (fl71_2.R_drop (R_whole (kApi_Term.mono hm11 hc3))))) rfl ?_
 rintro v98 a _ ⟨rfl, hv97⟩ hE
 obtain ⟨rfl, hr99⟩ := RV_int hv97
 refine spg hE rfl rfl rfl rfl hd93 (r_bin hE rfl rfl b_eql) rfl fun a hE => ?_
 refine sp hE (r_pickF hE rfl hd93 rfl) rfl fun a hE => ?_
 refine knil ?_
 exact ⟨(p0.fValue.fKind == 0), h, _, (M.le.refl _), hS, hE.cut ⟨rfl, rfl, rfl, trivial⟩⟩
 }
 }
 {
 rintro a w ⟨x29, h, m27, hm28, hS, hE⟩
 unfold hayloftlaw07_term_j2 at h
 refine kif hE rfl (fun hd31 => ?_) (fun hd31 => ?_)
 {
 have h := ite_T hd31 h
 refine kseq (kreg ?_)
 refine qa hE rfl rfl fun a hE => ?_
 refine knil (kret ?_)
 obtain rfl := oi h
 try dsimp only
 refine Fin.mk hE (rs := [.tmp 4]) rfl (ResL.tmp hE rfl ResL.nil) ?_
 exact ⟨_, (M.le.trans hm11 hm28), (hS.dropL 2), RV_of_bool⟩
 }
 {
 have h := ite_F hd31 h
 refine kskip (kseq (kreg ?_))
 refine st hE (st_loadL hE hS ty53 rfl (i := 0) rfl (R_whole (kAV.mono (M.le.trans hm11 hm28) hc7))) rfl ?_
 rintro v34 a _ ⟨rfl, hv33⟩ hE
 refine sp hE (r_fieldL hE fo71_2 rfl) rfl fun a hE => ?_
 refine st hE (st_loadL hE hS ty53 rfl (i := 1) rfl (fl71_2.R_drop (R_whole (kApi_Term.mono (M.le.trans hm11 hm28) hc3)))) rfl ?_
 rintro v37 a _ ⟨rfl, hv36⟩ hE
 obtain ⟨r38, hr39, h⟩ := ob h
 refine st hE (st_call (vs := [v34, v37]) hE rfl Try.call75 (c_hayloftref02_Compare (hS := hS) hv33 hv36 hr39)) rfl ?_
 rintro v43 a w ⟨m40, hm41, hS, hv42⟩ hE
 obtain ⟨rfl, hr44⟩ := RV_int hv42
 refine qa hE rfl rfl fun a hE => ?_
 refine knil (kseq (kseq (kreg ?_)))
 refine sp hE (r_fieldL hE fo71_1 rfl) rfl fun a hE => ?_
 refine st hE (st_loadL hE hS ty3 rfl (i := 1) rfl (fl71_1.R_drop (R_whole (kApi_Term.mono (M.le.trans hm11 (M.le.trans hm28 hm41)) hc3)))) rfl ?_
 rintro v48 a _ ⟨rfl, hv47⟩ hE
 obtain ⟨rfl, hr49⟩ := RV_int hv47
 refine knil (kblock (kseq (kreg ?_)))
 refine sp hE (r_bin hE rfl rfl b_eql) rfl fun a hE => ?_
 refine qa hE rfl rfl fun a hE => ?_
 refine knil ?_
 refine kif hE rfl (fun hd52 => ?_) (fun hd52 => ?_)
 {
 have h := ite_T hd52 h
 refine kseq (kreg ?_)
 refine qm hE rfl rfl fun a hE => ?_
 refine sp hE (r_bin hE rfl rfl b_eql) rfl fun a hE => ?_
 refine qa hE rfl rfl fun a hE => ?_
 refine knil (kret ?_)
 obtain rfl := oi h
 try dsimp only
 refine Fin.mk hE (rs := [.tmp 4]) rfl (ResL.tmp hE rfl ResL.nil) ?_
 exact ⟨_, (M.le.trans hm11 (M.le.trans hm28 hm41)), (hS.dropL 2), RV_of_bool⟩
 }
 {
 have h := ite_F hd52 h
 refine kseq (kreg ?_)
 refine sp hE (r_bin hE rfl rfl b_eql) rfl fun a hE => ?_
 refine qa hE rfl rfl fun a hE => ?_
 refine knil ?_
 refine kif hE rfl (fun hd58 => ?_) (fun hd58 => ?_)
 {
 have h := ite_T hd58 h
 refine kseq (kreg ?_)
 refine qm hE rfl rfl fun a hE => ?_
 refine sp hE (r_bin hE rfl rfl b_neq) rfl fun a hE => ?_
 refine qa hE rfl rfl fun a hE => ?_
 refine knil (kret ?_)
 obtain rfl := oi h
 try dsimp only
 refine Fin.mk hE (rs := [.tmp 4]) rfl (ResL.tmp hE rfl ResL.nil) ?_
 exact ⟨_, (M.le.trans hm11 (M.le.trans hm28 hm41)), (hS.dropL 2), RV_of_bool⟩
 }
 {
 have h := ite_F hd58 h
 refine kseq (kreg ?_)
 refine sp hE (r_bin hE rfl rfl b_eql) rfl fun a hE => ?_
 refine qa hE rfl rfl fun a hE => ?_
 refine knil ?_
 refine kif hE rfl (fun hd64 => ?_) (fun hd64 => ?_)
 {
 have h := ite_T hd64 h
 refine kseq (kreg ?_)
 refine qm hE rfl rfl fun a hE => ?_
 refine sp hE (r_bin hE rfl rfl b_lss) rfl fun a hE => ?_
 refine qa hE rfl rfl fun a hE => ?_
 refine knil (kret ?_)
 obtain rfl := oi h
 try dsimp only
 refine Fin.mk hE (rs := [.tmp 4]) rfl (ResL.tmp hE rfl ResL.nil) ?_
 exact ⟨_, (M.le.trans hm11 (M.le.trans hm28 hm41)), (hS.dropL 2), RV_of_bool⟩
 }
 {
 have h := ite_F hd64 h
 refine kseq (kreg ?_)
 refine sp hE (r_bin hE rfl rfl b_eql) rfl fun a hE => ?_
 refine qa hE rfl rfl fun a hE => ?_
 refine knil ?_
 refine kif hE rfl (fun hd70 => ?_) (fun hd70 => ?_)
 {
 have h := ite_T hd70 h
 refine kseq (kreg ?_)
 refine qm hE rfl rfl fun a hE => ?_
 refine sp hE (r_bin hE rfl rfl b_leq) rfl fun a hE => ?_
 refine qa hE rfl rfl fun a hE => ?_
 refine knil (kret ?_)
 obtain rfl := oi h
 try dsimp only
 refine Fin.mk hE (rs := [.tmp 4]) rfl (ResL.tmp hE rfl ResL.nil) ?_
 exact ⟨_, (M.le.trans hm11 (M.le.trans hm28 hm41)), (hS.dropL 2), RV_of_bool⟩
 }
 {
 have h := ite_F hd70 h
 refine kseq (kreg ?_)
 refine sp hE (r_bin hE rfl rfl b_eql) rfl fun a hE => ?_
 refine qa hE rfl rfl fun a hE => ?_
 refine knil ?_
 refine kif hE rfl (fun hd76 => ?_) (fun hd76 => ?_)
 {
 have h := ite_T hd76 h
 refine kseq (kreg ?_)
 refine qm hE rfl rfl fun a hE => ?_
 refine sp hE (r_bin hE rfl rfl b_gtr) rfl fun a hE => ?_
 refine qa hE rfl rfl fun a hE => ?_
 refine knil (kret ?_)
 obtain rfl := oi h
 try dsimp only
 refine Fin.mk hE (rs := [.tmp 4]) rfl (ResL.tmp hE rfl ResL.nil) ?_
 exact ⟨_, (M.le.trans hm11 (M.le.trans hm28 hm41)), (hS.dropL 2), RV_of_bool⟩
 }
 {
 have h := ite_F hd76 h
 refine kseq (kreg ?_)
 refine sp hE (r_bin hE rfl rfl b_eql) rfl fun a hE => ?_
 refine qa hE rfl rfl fun a hE => ?_
 refine knil ?_
 refine kif hE rfl (fun hd82 => ?_) (fun hd82 => ?_)
 {
 have h := ite_T hd82 h
 refine kseq (kreg ?_)
 refine qm hE rfl rfl fun a hE => ?_
 refine sp hE (r_bin hE rfl rfl b_geq) rfl fun a hE => ?_
 refine qa hE rfl rfl fun a hE => ?_
 refine knil (kret ?_)
 obtain rfl := oi h
 try dsimp only
 refine Fin.mk hE (rs := [.tmp 4]) rfl (ResL.tmp hE rfl ResL.nil) ?_
 exact ⟨_, (M.le.trans hm11 (M.le.trans hm28 hm41)), (hS.dropL 2), RV_of_bool⟩
 }
 {
 have h := ite_F hd82 h
 refine kskip (kseq (kreg ?_))
 refine qa hE rfl rfl fun a hE => ?_
 refine knil (kret ?_)
 obtain rfl := oi h
 try dsimp only
 refine Fin.mk hE (rs := [.tmp 4]) rfl (ResL.tmp hE rfl ResL.nil) ?_
 exact ⟨_, (M.le.trans hm11 (M.le.trans hm28 hm41)), (hS.dropL 2), RV_of_bool⟩
 }
 }
 }
 }
 }
 }
 }
 }
 }
 }
theorem c_hayloftlaw07_BlockMay {W0 : Bse} {m : M} {w : World} {L : List (Nat × List Value)} {TL : List (Nat × Value)} (hS : S W0 m w (L) (TL)) {p0 : Int} (ha0 : inR .i64 p0) {v1 : Value} {p1 : (List AV)} (ha1 : RV (kSl kAV) m v1 p1) {v2 : Value} {p2 : Api_Term} (ha2 : RV kApi_Term m v2 p2) {r : Bool} (h : hayloftlaw07_BlockMay p0 p1 p2 = some r) :
    Calls Try.prog 14 [(.int .i64 p0), v1, v2].toArray w (Ret fun v w' => ∃ m', M.le m m' ∧ S W0 m' w' (L) (TL) ∧ RV kBool m' v r) := by
 refine kcall Try.func14 rfl Try.ntmps14 (Nat.le_of_ble_eq_true rfl) fun a hE => ?_
 have hE : Env 72 a [(0, (.int .i64 p0)), (1, v1), (2, v2)] := hE
 unfold hayloftlaw07_BlockMay at h
 refine kseq (kreg ?_)
 refine st hE (st_box (k := kApi_Term) hE hS rfl ha2) rfl ?_
 rintro _ a w ⟨b1, cs2, rfl, hc3, hS⟩ hE
 refine qa hE rfl rfl fun a hE => ?_
 refine knil (kseq (kreg ?_))
 refine qm hE rfl rfl fun a hE => ?_
 refine qm hE rfl rfl fun a hE => ?_
 obtain ⟨r8, hr9, h⟩ := ob h
 refine st hE (st_call (vs := [(.int .i64 p0), v1]) hE rfl Try.call32 (c_block_Write (hS := hS) ha0 ha1 hr9)) rfl ?_
 rintro _ a w ⟨m10, hm11, hS, v0_12, v1_13, rfl, hv0_14, hv1_15⟩ hE
 obtain ⟨rfl, hr17⟩ := RV_int hv1_15
 refine qm hE rfl rfl fun a hE => ?_
 refine sp hE (r_extract hE rfl rfl) rfl fun a hE => ?_
 refine sp hE (r_extract hE rfl rfl) rfl fun a hE => ?_
 refine qa hE rfl rfl fun a hE => ?_
 refine qa hE rfl rfl fun a hE => ?_
 refine knil (kseq (kseq (kreg ?_)))
 refine qm hE rfl rfl fun a hE => ?_
 refine sp hE (r_bin hE rfl rfl b_neq) rfl fun a hE => ?_
 refine knil ?_
 refine kif hE rfl (fun hd25 => ?_) (fun hd25 => ?_)
 {
 have h := ite_T hd25 h
 refine kseq (kreg ?_)
 obtain ⟨r26, hr27, h⟩ := ob h
 refine st hE (st_call (vs := []) hE rfl Try.call31 (c_hayloftlaw07_alive (hS := hS) hr27)) rfl ?_
 rintro v31 a w ⟨m28, hm29, hS, hv30⟩ hE
 obtain rfl := RV_bool hv30
 refine qa hE rfl rfl fun a hE => ?_
 refine knil (kret ?_)
 obtain rfl := oi h
 try dsimp only
 refine Fin.mk hE (rs := [.tmp 6]) rfl (ResL.tmp hE rfl ResL.nil) ?_
 exact ⟨_, (M.le.trans hm11 hm29), (hS.dropL 1), RV_of_bool⟩
 }
 {
 have h := ite_F hd25 h
 refine kskip (kseq (kreg ?_))
 refine qm hE rfl rfl fun a hE => ?_
 obtain ⟨r34, hr35, h⟩ := ob h
 refine st hE (st_call (vs := [v0_12]) hE rfl Try.call34 (c_block_Head (hS := hS) hv0_14 hr35)) rfl ?_
 rintro _ a w ⟨m36, hm37, hS, v0_38, v1_39, rfl, hv0_40, hv1_41⟩ hE
 obtain ⟨rfl, hr43⟩ := RV_int hv1_41
 refine qm hE rfl rfl fun a hE => ?_
 refine sp hE (r_extract hE rfl rfl) rfl fun a hE => ?_
 refine sp hE (r_extract hE rfl rfl) rfl fun a hE => ?_
 refine st hE (st_alloc hS Try.zeroValue62 rfl (cs := zc62)) rfl ?_
 rintro _ a w ⟨b47, rfl, hS⟩ hE
 refine st0 hE (st_storeF hE hS ty62 StF_self rfl rfl hv0_40 (i := 0) rfl (zr62 _)) ?_
 rintro _ w ⟨cs49, hc50, hS⟩ hE
 refine qa hE rfl rfl fun a hE => ?_
 refine knil (kseq (kreg ?_))
 refine qm hE rfl rfl fun a hE => ?_
 obtain ⟨r54, hr55, h⟩ := ob h
 refine st hE (st_call (vs := [v0_12]) hE rfl Try.call36 (c_hayloftref07_Head (hS := hS) (hv0_14.mono hm37) hr55)) rfl ?_
 rintro _ a w ⟨m56, hm57, hS, v0_58, v1_59, v2_60, rfl, hv0_61, hv1_62, hv2_63⟩ hE
 obtain ⟨rfl, hr65⟩ := RV_int hv1_62
 obtain ⟨rfl, hr66⟩ := RV_int hv2_63
 refine qm hE rfl rfl fun a hE => ?_
 refine sp hE (r_extract hE rfl rfl) rfl fun a hE => ?_
 refine sp hE (r_extract hE rfl rfl) rfl fun a hE => ?_
 refine sp hE (r_extract hE rfl rfl) rfl fun a hE => ?_
 refine st hE (st_alloc hS Try.zeroValue72 rfl (cs := zc72)) rfl ?_
 rintro _ a w ⟨b71, rfl, hS⟩ hE
 refine st0 hE (st_storeF hE hS ty72 StF_self rfl rfl hv0_61 (i := 0) rfl (zr72 _)) ?_
 rintro _ w ⟨cs73, hc74, hS⟩ hE
 refine qa hE rfl rfl fun a hE => ?_
 refine qa hE rfl rfl fun a hE => ?_
 refine knil (kseq (kreg ?_))
 refine st hE (st_loadL hE hS ty62 rfl (i := 1) rfl (R_whole (kBlock_Info.mono hm57 hc50))) rfl ?_
 rintro v79 a _ ⟨rfl, hv78⟩ hE
 refine st hE (st_loadL hE hS ty71 rfl (i := 2) rfl (R_whole (kApi_Term.mono (M.le.trans hm11 (M.le.trans hm37 hm57)) hc3))) rfl ?_
 rintro v81 a _ ⟨rfl, hv80⟩ hE
 obtain ⟨r82, hr83, h⟩ := ob h
 refine st hE (st_call (vs := [v79, v81]) hE rfl Try.call37 (c_block_May (hS := hS) hv78 hv80 hr83)) rfl ?_
 rintro v87 a w ⟨m84, hm85, hS, hv86⟩ hE
 obtain rfl := RV_bool hv86
 refine qa hE rfl rfl fun a hE => ?_
 refine knil (kseq (kseq ?_))
 refine kcut (fun a w => ∃ x91 : Bool, hayloftlaw07_BlockMay_j1 p1 p2 r82 x91 = some r ∧ ∃ m', M.le m84 m' ∧ S W0 m' w ((b71, cs73) :: (b47, cs49) :: (b1, cs2) :: L) (TL) ∧ Env 72 a [(1, v1), (5, (.pointer (some ⟨b1, 0, none⟩))), (14, (.bool r82)), (55, (.bool x91))]) ?_ ?_
 {
 refine kreg ?_
 obtain ⟨r166, hr167, h⟩ := ob h
 refine st hE (st_call (vs := []) hE rfl Try.call31 (c_hayloftlaw07_alive (hS := hS) hr167)) rfl ?_
 rintro v171 a w ⟨m168, hm169, hS, hv170⟩ hE
 obtain rfl := RV_bool hv170
 refine sp hE (r_not hE rfl) rfl fun a hE => ?_
 refine qm hE rfl rfl fun a hE => ?_
 rcases Bool.eq_false_or_eq_true (!r166) with hd174 | hd174
 {
 have h := ite_T hd174 h
 refine sx hE rfl rfl rfl rfl hd174 rfl fun a hE => ?_
 refine sx hE rfl rfl rfl rfl hd174 rfl fun a hE => ?_
 refine sp hE (r_pickT hE rfl hd174 rfl) rfl fun a hE => ?_
 refine qm hE rfl rfl fun a hE => ?_
 refine sx hE rfl rfl rfl rfl rfl rfl fun a hE => ?_
 refine sx hE rfl rfl rfl rfl rfl rfl fun a hE => ?_
 refine sp hE (r_pickT hE rfl rfl rfl) rfl fun a hE => ?_
 refine qm hE rfl rfl fun a hE => ?_
 refine sx hE rfl rfl rfl rfl rfl rfl fun a hE => ?_
 refine sx hE rfl rfl rfl rfl rfl rfl fun a hE => ?_
 refine sx hE rfl rfl rfl rfl rfl rfl fun a hE => ?_
 refine sx hE rfl rfl rfl rfl rfl rfl fun a hE => ?_
 refine sx hE rfl rfl rfl rfl rfl rfl fun a hE => ?_
 refine sp hE (r_pickT hE rfl rfl rfl) rfl fun a hE => ?_
 refine knil ?_
 exact ⟨true, h, _, hm169, hS, hE.cut ⟨rfl, rfl, rfl, rfl, trivial⟩⟩
 }
 {
 have h := ite_F hd174 h
 refine spg hE rfl rfl rfl rfl hd174 (r_move hE rfl) rfl fun a hE => ?_
 refine spg hE rfl rfl rfl rfl hd174 (r_bin hE rfl rfl b_neq) rfl fun a hE => ?_
 refine sp hE (r_pickF hE rfl hd174 rfl) rfl fun a hE => ?_
 refine qm hE rfl rfl fun a hE => ?_
 rcases Bool.eq_false_or_eq_true (r34.2 != 0) with hd184 | hd184
 {
 have h := ite_T hd184 h
 refine sx hE rfl rfl rfl rfl hd184 rfl fun a hE => ?_
 refine sx hE rfl rfl rfl rfl hd184 rfl fun a hE => ?_
 refine sp hE (r_pickT hE rfl hd184 rfl) rfl fun a hE => ?_
 refine qm hE rfl rfl fun a hE => ?_
 refine sx hE rfl rfl rfl rfl rfl rfl fun a hE => ?_
 refine sx hE rfl rfl rfl rfl rfl rfl fun a hE => ?_
 refine sx hE rfl rfl rfl rfl rfl rfl fun a hE => ?_
 refine sx hE rfl rfl rfl rfl rfl rfl fun a hE => ?_
 refine sx hE rfl rfl rfl rfl rfl rfl fun a hE => ?_
 refine sp hE (r_pickT hE rfl rfl rfl) rfl fun a hE => ?_
 refine knil ?_
 exact ⟨true, h, _, hm169, hS, hE.cut ⟨rfl, rfl, rfl, rfl, trivial⟩⟩
 }
 {
 have h := ite_F hd184 h
 refine spg hE rfl rfl rfl rfl hd184 (r_move hE rfl) rfl fun a hE => ?_
 refine spg hE rfl rfl rfl rfl hd184 (r_bin hE rfl rfl b_neq) rfl fun a hE => ?_
 refine sp hE (r_pickF hE rfl hd184 rfl) rfl fun a hE => ?_
 refine qm hE rfl rfl fun a hE => ?_
 rcases Bool.eq_false_or_eq_true (r54.2.2 != 0) with hd192 | hd192
 {
 have h := ite_T hd192 h
 refine sx hE rfl rfl rfl rfl hd192 rfl fun a hE => ?_
 refine sx hE rfl rfl rfl rfl hd192 rfl fun a hE => ?_
 refine sx hE rfl rfl rfl rfl hd192 rfl fun a hE => ?_
 refine sx hE rfl rfl rfl rfl hd192 rfl fun a hE => ?_
 refine sx hE rfl rfl rfl rfl hd192 rfl fun a hE => ?_
 refine sp hE (r_pickT hE rfl hd192 rfl) rfl fun a hE => ?_
 refine knil ?_
 exact ⟨true, h, _, hm169, hS, hE.cut ⟨rfl, rfl, rfl, rfl, trivial⟩⟩
 }
 {
 have h := ite_F hd192 h
 refine spg hE rfl rfl rfl rfl hd192 (r_move hE rfl) rfl fun a hE => ?_
 refine stg hE rfl rfl rfl rfl hd192 (st_loadL hE hS ty72 rfl (i := 0) rfl (R_whole (kHayloftref07_Info.mono (M.le.trans hm85 hm169) hc74))) rfl ?_
 rintro v196 a _ ⟨rfl, hv195⟩ hE
 refine stg hE rfl rfl rfl rfl hd192 (st_loadL hE hS ty71 rfl (i := 2) rfl (R_whole (kApi_Term.mono (M.le.trans hm11 (M.le.trans hm37 (M.le.trans hm57 (M.le.trans hm85 hm169)))) hc3))) rfl ?_
 rintro v198 a _ ⟨rfl, hv197⟩ hE
 obtain ⟨r199, hr200, h⟩ := ob h
 refine stg hE rfl rfl rfl rfl hd192 (st_call (vs := [v196, v198]) hE rfl Try.call38 (c_hayloftref07_May (hS := hS) hv195 hv197 hr200)) rfl ?_
 rintro v204 a w ⟨m201, hm202, hS, hv203⟩ hE
 obtain rfl := RV_bool hv203
 refine spg hE rfl rfl rfl rfl hd192 (r_neqB hE rfl rfl Try.underlying4) rfl fun a hE => ?_
 refine sp hE (r_pickF hE rfl hd192 rfl) rfl fun a hE => ?_
 refine knil ?_
 exact ⟨(!(r82 == r199)), h, _, (M.le.trans hm169 hm202), hS, hE.cut ⟨rfl, rfl, rfl, rfl, trivial⟩⟩
 }
 }
 }
 }
 {
 rintro a w ⟨x91, h, m89, hm90, hS, hE⟩
 unfold hayloftlaw07_BlockMay_j1 at h
 refine kif hE rfl (fun hd93 => ?_) (fun hd93 => ?_)
 {
 have h := ite_T hd93 h
 refine kseq (kreg ?_)
 refine qa hE rfl rfl fun a hE => ?_
 refine knil (kret ?_)
 obtain rfl := oi h
 try dsimp only
 refine Fin.mk hE (rs := [.tmp 6]) rfl (ResL.tmp hE rfl ResL.nil) ?_
 exact ⟨_, (M.le.trans hm11 (M.le.trans hm37 (M.le.trans hm57 (M.le.trans hm85 hm90)))), (hS.dropL 3), RV_of_bool⟩
 }
 {
 have h := ite_F hd93 h
 refine kskip (kseq (kseq (kreg ?_)))
 refine qm hE rfl rfl fun a hE => ?_
 refine sp hE (r_lenSl (k := kAV) hE rfl rfl Try.underlying29 (ha1.mono (M.le.trans hm11 (M.le.trans hm37 (M.le.trans hm57 (M.le.trans hm85 hm90)))))) rfl fun a hE => ?_
 refine qm hE rfl rfl fun a hE => ?_
 refine knil ?_
 refine kcut (fun a w => hayloftlaw07_BlockMay_j2 = some r ∧ ∃ m', M.le m89 m' ∧ S W0 m' w ((b71, cs73) :: (b47, cs49) :: (b1, cs2) :: L) (TL) ∧ Env 72 a []) ?_ ?_
 {
 refine kblock ?_
 refine kloop h (fun (s : Int) a w => ∃ m', M.le m89 m' ∧ inR .i64 s ∧ S W0 m' w ((b71, cs73) :: (b47, cs49) :: (b1, cs2) :: L) (TL) ∧ Env 72 a [(1, v1), (5, (.pointer (some ⟨b1, 0, none⟩))), (14, (.bool r82)), (57, (.int .i64 (p1.length : Int))), (58, (.int .i64 s))]) ?_ ?_
 {
 exact ⟨_, (M.le.refl _), (show inR .i64 0 from inR_lit (by decide)), hS, hE.cut ⟨rfl, rfl, rfl, rfl, rfl, trivial⟩⟩
 }
 {
 rintro x104 a w ⟨m102, hm103, hr105, hS, hE⟩ r106 h hb107
 have h : hayloftlaw07_BlockMay_b1 p1 p2 r82 x104 = some r106 := h
 unfold hayloftlaw07_BlockMay_b1 at h
 refine kseq (kreg ?_)
 refine sp hE (r_bin hE rfl rfl b_lss) rfl fun a hE => ?_
 refine knil (kseq ?_)
 refine kif hE rfl (fun hd109 => ?_) (fun hd109 => ?_)
 {
 have h := ite_T hd109 h
 refine kskip (kseq (kblock (kseq (kreg ?_))))
 refine qm hE rfl rfl fun a hE => ?_
 refine qa hE rfl rfl fun a hE => ?_
 refine knil (kseq ?_)
 refine kcut (fun a w => ∃ x114 : Bool, hayloftlaw07_BlockMay_j3 x104 x114 = some r106 ∧ ∃ m', M.le m102 m' ∧ S W0 m' w ((b71, cs73) :: (b47, cs49) :: (b1, cs2) :: L) (TL) ∧ Env 72 a [(1, v1), (5, (.pointer (some ⟨b1, 0, none⟩))), (14, (.bool r82)), (57, (.int .i64 (p1.length : Int))), (58, (.int .i64 x104)), (70, (.bool x114))]) ?_ ?_
 {
 obtain ⟨x121, hx122, h⟩ := ob h
 refine kchain (k := 5) (m := m102) (es := []) (Φ := (fun i m ws v => match i with | 0 => RV kApi_Term m v p2 | 1 => v = v1 | 2 => v = (.int .i64 x104) ∧ inR .i64 x104 | 3 => PR kAV m v x121 | 4 => RV kAV m v x121 | _ => True)) (Q := (fun c m ws L' TL' => match c with | 0 => (b71, cs73) :: (b47, cs49) :: (b1, cs2) :: L = L' ∧ TL = TL' | _ => False)) (cs := [⟨0, 0, false, [(5, (.pointer (some ⟨b1, 0, none⟩)))]⟩, ⟨0, 0, false, [(1, v1)]⟩, ⟨0, 0, false, [(15, (.int .i64 x104))]⟩, ⟨0, 0, false, []⟩, ⟨0, 0, false, []⟩]) mixed hE hS ⟨rfl, rfl⟩ rfl rfl ⟨⟨rfl, trivial⟩, ⟨rfl, trivial⟩, ⟨rfl, trivial⟩, trivial, trivial, trivial⟩ (by kernel_rfl) ?_ ?_ ?_ ?_
 {
 intro i m_ m2_ ws v hm_ hp_
 match i, hp_ with
 | 0, hp_ => exact RV.mono hp_ hm_
 | 1, hp_ => exact hp_
 | 2, hp_ => exact hp_
 | 3, hp_ => exact PR.mono hp_ hm_
 | 4, hp_ => exact RV.mono hp_ hm_
 | _ + 5, hp_ => exact trivial
 }
 {
 intro c m_ m2_ ws L_ T_ hm_ hq_
 match c, hq_ with
 | 0, ⟨e1_, e2_⟩ => exact ⟨e1_, e2_⟩
 | _ + 1, hq_ => exact hq_.elim
 }
 {
 refine ⟨?_, ?_, ?_, ?_, ?_, trivial⟩
 {
 refine cplain fun pre_ post_ L_ T_ m' a' w' hl' hp' hm' hq' hS' hE' hT' => ?_
 obtain rfl := len0 hl'
 obtain rfl := len0 (lenz (a := 0) hp')
 obtain ⟨rfl, rfl⟩ := hq'
 refine Step.imp (st_loadL hE' hS' ty71 rfl (i := 2) rfl (R_whole (kApi_Term.mono (M.le.trans hm11 (M.le.trans hm37 (M.le.trans hm57 (M.le.trans hm85 (M.le.trans hm90 (M.le.trans hm103 hm')))))) hc3))) ?_
 rintro v125 _ ⟨rfl, hv120⟩
 exact ⟨_, M.le.refl _, hS', hv120⟩
 }
 {
 refine cplain fun pre_ post_ L_ T_ m' a' w' hl' hp' hm' hq' hS' hE' hT' => ?_
 obtain rfl := len0 hl'
 refine Step.imp (Run1.pure (r_move hE' rfl)) ?_
 rintro _ _ ⟨rfl, rfl⟩
 exact ⟨_, M.le.refl _, hS', rfl⟩
 }
 {
 refine cplain fun pre_ post_ L_ T_ m' a' w' hl' hp' hm' hq' hS' hE' hT' => ?_
 obtain rfl := len0 hl'
 refine Step.imp (Run1.pure (r_move hE' rfl)) ?_
 rintro _ _ ⟨rfl, rfl⟩
 exact ⟨_, M.le.refl _, hS', ⟨rfl, hr105⟩⟩
 }
 {
 refine cplain fun pre_ post_ L_ T_ m' a' w' hl' hp' hm' hq' hS' hE' hT' => ?_
 obtain rfl := len0 hl'
 obtain ⟨v128, e129, q130⟩ : ∃ v, a'.tmps.getD 62 undef = v ∧ (v = v1) := ⟨_, rfl, hT' 1 (by decide) 62 rfl⟩
 have hE := hE'.add (e129.trans q130)
 obtain ⟨v131, e132, q133⟩ : ∃ v, a'.tmps.getD 63 undef = v ∧ (v = (.int .i64 x104) ∧ inR .i64 x104) := ⟨_, rfl, hT' 2 (by decide) 63 rfl⟩
 obtain ⟨q133, hr134⟩ := q133
 have hE := hE.add (e132.trans q133)
 refine Step.imp (st_index (k := kAV) hE rfl rfl Try.underlying29 Try.sizeOf53 (ha1.mono (M.le.trans hm11 (M.le.trans hm37 (M.le.trans hm57 (M.le.trans hm85 (M.le.trans hm90 (M.le.trans hm103 hm'))))))) hx122) ?_
 rintro v135 _ ⟨rfl, hp123⟩
 exact ⟨_, M.le.refl _, hS', hp123⟩
 }
 {
 refine cplain fun pre_ post_ L_ T_ m' a' w' hl' hp' hm' hq' hS' hE' hT' => ?_
 obtain rfl := len0 hl'
 obtain ⟨v136, e137, q138⟩ : ∃ v, a'.tmps.getD 64 undef = v ∧ (PR kAV m' v x121) := ⟨_, rfl, hT' 3 (by decide) 64 rfl⟩
 have hE := hE'.add (e137)
 refine Step.imp (st_loadM hE hS' ty53 rfl q138) ?_
 rintro v139 _ ⟨rfl, hv124⟩
 exact ⟨_, M.le.refl _, hS', hv124⟩
 }
 }
 {
 intro ws_ L_ T_ m140 a w hl141 hm142 hq143 hS hd144 hn145 ho146 hT147
 obtain rfl := len0 hl141
 obtain ⟨rfl, rfl⟩ := hq143
 have hE := EnvD.of (k := 5) (l' := [(1, v1), (5, (.pointer (some ⟨b1, 0, none⟩))), (14, (.bool r82)), (15, (.int .i64 x104)), (57, (.int .i64 (p1.length : Int))), (58, (.int .i64 x104)), (59, (.bool (decide (x104 < (p1.length : Int))))), (60, (.int .i64 x104))]) hd144 hn145 ho146 ⟨rfl, rfl, rfl, rfl, rfl, rfl, rfl, rfl, trivial⟩ rfl
 obtain ⟨v148, e149, q150⟩ : ∃ v, a.tmps.getD 61 undef = v ∧ (RV kApi_Term m140 v p2) := ⟨_, rfl, hT147 0 (by decide) 61 rfl⟩
 have hE := hE.add (e149)
 obtain ⟨v151, e152, q153⟩ : ∃ v, a.tmps.getD 65 undef = v ∧ (RV kAV m140 v x121) := ⟨_, rfl, hT147 4 (by decide) 65 rfl⟩
 have hE := hE.add (e152)
 obtain ⟨r154, hr155, h⟩ := ob h
 refine st hE (st_call (vs := [v148, v151]) hE rfl Try.call39 (c_hayloftlaw07_term (hS := hS) q150 q153 hr155)) rfl ?_
 rintro v159 a w ⟨m156, hm157, hS, hv158⟩ hE
 obtain rfl := RV_bool hv158
 refine qm hE rfl rfl fun a hE => ?_
 rcases Bool.eq_false_or_eq_true r154 with hd161 | hd161
 {
 have h := ite_T hd161 h
 refine spg hE rfl rfl rfl rfl hd161 (r_move hE rfl) rfl fun a hE => ?_
 refine spg hE rfl rfl rfl rfl hd161 (r_not hE rfl) rfl fun a hE => ?_
 refine sp hE (r_pickT hE rfl hd161 rfl) rfl fun a hE => ?_
 refine knil ?_
 exact ⟨(!r82), h, _, (M.le.trans hm142 hm157), hS, hE.cut ⟨rfl, rfl, rfl, rfl, rfl, rfl, trivial⟩⟩
 }
 {
 have h := ite_F hd161 h
 refine sx hE rfl rfl rfl rfl hd161 rfl fun a hE => ?_
 refine sx hE rfl rfl rfl rfl hd161 rfl fun a hE => ?_
 refine sp hE (r_pickF hE rfl hd161 rfl) rfl fun a hE => ?_
 refine knil ?_
 exact ⟨false, h, _, (M.le.trans hm142 hm157), hS, hE.cut ⟨rfl, rfl, rfl, rfl, rfl, rfl, trivial⟩⟩
 }
 }
 }
 {
 rintro a w ⟨x114, h, m112, hm113, hS, hE⟩
 unfold hayloftlaw07_BlockMay_j3 at h
 refine kif hE rfl (fun hd116 => ?_) (fun hd116 => ?_)
 {
 have h := ite_T hd116 h
 refine kseq (kreg ?_)
 refine qa hE rfl rfl fun a hE => ?_
 refine knil (kret ?_)
 have h := unwrap h hb107
 obtain rfl := oi h
 try dsimp only
 refine Fin.mk hE (rs := [.tmp 6]) rfl (ResL.tmp hE rfl ResL.nil) ?_
 exact ⟨_, (M.le.trans hm11 (M.le.trans hm37 (M.le.trans hm57 (M.le.trans hm85 (M.le.trans hm90 (M.le.trans hm103 hm113)))))), (hS.dropL 3), RV_of_bool⟩
 }
 {
 have h := ite_F hd116 h
 refine kskip (kreg ?_)
 refine sp hE (r_bin hE rfl rfl (b_add rfl)) rfl fun a hE => ?_
 refine qm hE rfl rfl fun a hE => ?_
 refine knil ?_
 exact ⟨IntKind.i64.wrap (x104 + 1), (Option.some.inj h).symm, _, (M.le.trans hm103 hm113), (inR_wrap _ _), hS, hE.cut ⟨rfl, rfl, rfl, rfl, rfl, trivial⟩⟩
 }
 }
 }
 {
 have h := ite_F hd109 h
 refine kexit rfl rfl ?_
 have h := unwrap h hb107
 exact ⟨h, _, hm103, hS, hE.cut trivial⟩
 }
 }
 }
 {
 rintro a w ⟨h, m98, hm99, hS, hE⟩
 unfold hayloftlaw07_BlockMay_j2 at h
 refine kseq (kreg ?_)
 refine qa hE rfl rfl fun a hE => ?_
 refine knil (kret ?_)
 obtain rfl := oi h
 try dsimp only
 refine Fin.mk hE (rs := [.tmp 6]) rfl (ResL.tmp hE rfl ResL.nil) ?_
 exact ⟨_, (M.le.trans hm11 (M.le.trans hm37 (M.le.trans hm57 (M.le.trans hm85 (M.le.trans hm90 hm99))))), (hS.dropL 3), RV_of_bool⟩
 }
 }
 }
 }
end Go.Proofs.Ytifobhaccglckaa.Hay
