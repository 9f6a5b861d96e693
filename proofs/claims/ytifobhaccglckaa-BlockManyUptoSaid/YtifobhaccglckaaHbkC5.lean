import Derived.Test.YtifobhaccglckaaHbkC4
set_option maxRecDepth 100000
set_option maxHeartbeats 4000000
set_option linter.unusedVariables false
namespace Go.Proofs.Ytifobhaccglckaa.Hay
open Go.Proofs
theorem c_block_read {W0 : Bse} {m : M} {w : World} {L : List (Nat × List Value)} {TL : List (Nat × Value)} (hS : S W0 m w (L) (TL)) {v0 : Value} {p0 : (List Int)} (ha0 : RV (kSl (kInt .u8)) m v0 p0) {r : (Block_Info × (List Int) × Bool)} (h : block_read p0 = some r) :
    Calls Try.prog 69 [v0].toArray w (Ret fun v w' => ∃ m', M.le m m' ∧ S W0 m' w' (L) (TL) ∧ ∃ v0_ v1_ v2_ : Value, v = .tuple #[v0_, v1_, v2_] ∧ RV kBlock_Info m' v0_ r.1 ∧ RV (kSl (kInt .u8)) m' v1_ r.2.1 ∧ RV kBool m' v2_ r.2.2) := by
 refine kcall Try.func69 rfl Try.ntmps69 (Nat.le_of_ble_eq_true rfl) fun a hE => ?_
 have hE : Env 112 a [(0, v0)] := hE
 unfold block_read at h
 refine kseq (kreg ?_)
 refine st hE (st_alloc hS Try.zeroValue62 rfl (cs := zc62)) rfl ?_
 rintro _ a w ⟨b1, rfl, hS⟩ hE
 refine qa hE rfl rfl fun a hE => ?_
 refine qa hE rfl rfl fun a hE => ?_
 refine knil (kseq (kseq ?_))
 refine kcut (fun a w => ∃ x7 : Bool, block_read_j1 p0 x7 = some r ∧ ∃ m', M.le m m' ∧ S W0 m' w ((b1, zc62) :: L) (TL) ∧ Env 112 a [(0, v0), (2, (.pointer (some ⟨b1, 0, none⟩))), (39, (.bool x7))]) ?_ ?_
 {
 rcases Bool.eq_false_or_eq_true (decide ((p0.length : Int) < 3)) with hd319 | hd319
 {
 have h := ite_T hd319 h
 refine kchain (k := 28) (m := m) (es := []) (Φ := (fun i m ws v => match i with | 0 => v = v0 | 1 => v = (.int .i64 (p0.length : Int)) ∧ inR .i64 (p0.length : Int) | 2 => v = (.bool (decide ((p0.length : Int) < 3))) | 3 => v = (.bool (decide ((p0.length : Int) < 3))) | 4 => v = undef | 5 => v = undef | 6 => v = undef | 7 => v = undef | 8 => v = (.bool true) | 9 => v = (.bool true) | 10 => v = undef | 11 => v = undef | 12 => v = undef | 13 => v = undef | 14 => v = (.bool true) | 15 => v = (.bool true) | 16 => v = undef | 17 => v = undef | 18 => v = undef | 19 => v = undef | 20 => v = (.bool true) | 21 => v = (.bool true) | 22 => v = undef | 23 => v = undef | 24 => v = undef | 25 => v = undef | 26 => v = undef | 27 => v = undef | _ => True)) (Q := (fun c m ws L' TL' => match c with | 0 => (b1, zc62) :: L = L' ∧ TL = TL' | _ => False)) (cs := [⟨0, 0, false, [(0, v0)]⟩, ⟨0, 0, false, []⟩, ⟨0, 0, false, []⟩, ⟨0, 0, false, []⟩, ⟨0, 0, false, [(0, v0)]⟩, ⟨0, 0, false, []⟩, ⟨0, 0, false, []⟩, ⟨0, 0, false, []⟩, ⟨0, 0, false, []⟩, ⟨0, 0, false, []⟩, ⟨0, 0, false, [(0, v0)]⟩, ⟨0, 0, false, []⟩, ⟨0, 0, false, []⟩, ⟨0, 0, false, []⟩, ⟨0, 0, false, []⟩, ⟨0, 0, false, []⟩, ⟨0, 0, false, [(0, v0)]⟩, ⟨0, 0, false, []⟩, ⟨0, 0, false, []⟩, ⟨0, 0, false, []⟩, ⟨0, 0, false, []⟩, ⟨0, 0, false, []⟩, ⟨0, 0, false, [(0, v0)]⟩, ⟨0, 0, false, []⟩, ⟨0, 0, false, []⟩, ⟨0, 0, false, [(0, v0)]⟩, ⟨0, 0, false, []⟩, ⟨0, 0, false, []⟩]) mixed hE hS ⟨rfl, rfl⟩ rfl rfl ⟨⟨rfl, trivial⟩, trivial, trivial, trivial, ⟨rfl, trivial⟩, trivial, trivial, trivial, trivial, trivial, ⟨rfl, trivial⟩, trivial, trivial, trivial, trivial, trivial, ⟨rfl, trivial⟩, trivial, trivial, trivial, trivial, trivial, ⟨rfl, trivial⟩, trivial, trivial, ⟨rfl, trivial⟩, trivial, trivial, trivial⟩ (by kernel_rfl) ?_ ?_ ?_ ?_
 {
 intro i m_ m2_ ws v hm_ hp_
 match i, hp_ with
 | 0, hp_ => exact hp_
 | 1, hp_ => exact hp_
 | 2, hp_ => exact hp_
 | 3, hp_ => exact hp_
 | 4, hp_ => exact hp_
 | 5, hp_ => exact hp_
 | 6, hp_ => exact hp_
 | 7, hp_ => exact hp_
 | 8, hp_ => exact hp_
 | 9, hp_ => exact hp_
 | 10, hp_ => exact hp_
 | 11, hp_ => exact hp_
 | 12, hp_ => exact hp_
 | 13, hp_ => exact hp_
 | 14, hp_ => exact hp_
 | 15, hp_ => exact hp_
 | 16, hp_ => exact hp_
 | 17, hp_ => exact hp_
 | 18, hp_ => exact hp_
 | 19, hp_ => exact hp_
 | 20, hp_ => exact hp_
 | 21, hp_ => exact hp_
 | 22, hp_ => exact hp_
 | 23, hp_ => exact hp_
 | 24, hp_ => exact hp_
 | 25, hp_ => exact hp_
 | 26, hp_ => exact hp_
 | 27, hp_ => exact hp_
 | _ + 28, hp_ => exact trivial
 }
 {
 intro c m_ m2_ ws L_ T_ hm_ hq_
 match c, hq_ with
 | 0, ⟨e1_, e2_⟩ => exact ⟨e1_, e2_⟩
 | _ + 1, hq_ => exact hq_.elim
 }
 {
 refine ⟨?_, ?_, ?_, ?_, ?_, ?_, ?_, ?_, ?_, ?_, ?_, ?_, ?_, ?_, ?_, ?_, ?_, ?_, ?_, ?_, ?_, ?_, ?_, ?_, ?_, ?_, ?_, ?_, trivial⟩
 {
 refine cplain fun pre_ post_ L_ T_ m' a' w' hl' hp' hm' hq' hS' hE' hT' => ?_
 obtain rfl := len0 hl'
 refine Step.imp (Run1.pure (r_move hE' rfl)) ?_
 rintro _ _ ⟨rfl, rfl⟩
 exact ⟨_, M.le.refl _, hS', rfl⟩
 }
 {
 refine cplain fun pre_ post_ L_ T_ m' a' w' hl' hp' hm' hq' hS' hE' hT' => ?_
 obtain rfl := len0 hl'
 obtain ⟨v321, e322, q323⟩ : ∃ v, a'.tmps.getD 10 undef = v ∧ (v = v0) := ⟨_, rfl, hT' 0 (by decide) 10 rfl⟩
 have hE := hE'.add (e322.trans q323)
 refine Step.imp (Run1.pure (r_lenSl (k := (kInt .u8)) hE rfl rfl Try.underlying37 (ha0.mono hm'))) ?_
 rintro _ _ ⟨rfl, rfl⟩
 exact ⟨_, M.le.refl _, hS', ⟨rfl, (inR_len (RV_len (ha0.mono hm')))⟩⟩
 }
 {
 refine cplain fun pre_ post_ L_ T_ m' a' w' hl' hp' hm' hq' hS' hE' hT' => ?_
 obtain rfl := len0 hl'
 obtain ⟨v325, e326, q327⟩ : ∃ v, a'.tmps.getD 11 undef = v ∧ (v = (.int .i64 (p0.length : Int)) ∧ inR .i64 (p0.length : Int)) := ⟨_, rfl, hT' 1 (by decide) 11 rfl⟩
 obtain ⟨q327, hr328⟩ := q327
 have hE := hE'.add (e326.trans q327)
 refine Step.imp (Run1.pure (r_bin hE rfl rfl b_lss)) ?_
 rintro _ _ ⟨rfl, rfl⟩
 exact ⟨_, M.le.refl _, hS', rfl⟩
 }
 {
 refine cplain fun pre_ post_ L_ T_ m' a' w' hl' hp' hm' hq' hS' hE' hT' => ?_
 obtain rfl := len0 hl'
 obtain ⟨v330, e331, q332⟩ : ∃ v, a'.tmps.getD 12 undef = v ∧ (v = (.bool (decide ((p0.length : Int) < 3)))) := ⟨_, rfl, hT' 2 (by decide) 12 rfl⟩
 have hE := hE'.add (e331.trans q332)
 refine Step.imp (Run1.pure (r_move hE rfl)) ?_
 rintro _ _ ⟨rfl, rfl⟩
 exact ⟨_, M.le.refl _, hS', rfl⟩
 }
 {
 exact cskip (b := true) rfl rfl (by decide) (fun _ _ _ h_ => Eq.trans h_ (cb hd319)) (by decide) (fun _ _ => rfl)
 }
 {
 exact cskip (b := true) rfl rfl (by decide) (fun _ _ _ h_ => Eq.trans h_ (cb hd319)) (by decide) (fun _ _ => rfl)
 }
 {
 exact cskip (b := true) rfl rfl (by decide) (fun _ _ _ h_ => Eq.trans h_ (cb hd319)) (by decide) (fun _ _ => rfl)
 }
 {
 exact cskip (b := true) rfl rfl (by decide) (fun _ _ _ h_ => Eq.trans h_ (cb hd319)) (by decide) (fun _ _ => rfl)
 }
 {
 refine cplain fun pre_ post_ L_ T_ m' a' w' hl' hp' hm' hq' hS' hE' hT' => ?_
 obtain rfl := len0 hl'
 obtain ⟨v334, e335, q336⟩ : ∃ v, a'.tmps.getD 13 undef = v ∧ (v = (.bool (decide ((p0.length : Int) < 3)))) := ⟨_, rfl, hT' 3 (by decide) 13 rfl⟩
 have hE := hE'.add (e335.trans q336)
 obtain ⟨v337, e338, q339⟩ : ∃ v, a'.tmps.getD 17 undef = v ∧ (v = undef) := ⟨_, rfl, hT' 7 (by decide) 17 rfl⟩
 have hE := hE.add (e338.trans q339)
 refine Step.imp (Run1.pure (r_pickT hE rfl hd319 rfl)) ?_
 rintro _ _ ⟨rfl, rfl⟩
 exact ⟨_, M.le.refl _, hS', rfl⟩
 }
 {
 refine cplain fun pre_ post_ L_ T_ m' a' w' hl' hp' hm' hq' hS' hE' hT' => ?_
 obtain rfl := len0 hl'
 obtain ⟨v341, e342, q343⟩ : ∃ v, a'.tmps.getD 18 undef = v ∧ (v = (.bool true)) := ⟨_, rfl, hT' 8 (by decide) 18 rfl⟩
 have hE := hE'.add (e342.trans q343)
 refine Step.imp (Run1.pure (r_move hE rfl)) ?_
 rintro _ _ ⟨rfl, rfl⟩
 exact ⟨_, M.le.refl _, hS', rfl⟩
 }
 {
 exact cskip (b := true) rfl rfl (by decide) (fun _ _ _ h_ => Eq.trans h_ (cb rfl)) (by decide) (fun _ _ => rfl)
 }
 {
 exact cskip (b := true) rfl rfl (by decide) (fun _ _ _ h_ => Eq.trans h_ (cb rfl)) (by decide) (fun _ _ => rfl)
 }
 {
 exact cskip (b := true) rfl rfl (by decide) (fun _ _ _ h_ => Eq.trans h_ (cb rfl)) (by decide) (fun _ _ => rfl)
 }
 {
 exact cskip (b := true) rfl rfl (by decide) (fun _ _ _ h_ => Eq.trans h_ (cb rfl)) (by decide) (fun _ _ => rfl)
 }
 {
 refine cplain fun pre_ post_ L_ T_ m' a' w' hl' hp' hm' hq' hS' hE' hT' => ?_
 obtain rfl := len0 hl'
 obtain ⟨v345, e346, q347⟩ : ∃ v, a'.tmps.getD 19 undef = v ∧ (v = (.bool true)) := ⟨_, rfl, hT' 9 (by decide) 19 rfl⟩
 have hE := hE'.add (e346.trans q347)
 obtain ⟨v348, e349, q350⟩ : ∃ v, a'.tmps.getD 23 undef = v ∧ (v = undef) := ⟨_, rfl, hT' 13 (by decide) 23 rfl⟩
 have hE := hE.add (e349.trans q350)
 refine Step.imp (Run1.pure (r_pickT hE rfl rfl rfl)) ?_
 rintro _ _ ⟨rfl, rfl⟩
 exact ⟨_, M.le.refl _, hS', rfl⟩
 }
 {
 refine cplain fun pre_ post_ L_ T_ m' a' w' hl' hp' hm' hq' hS' hE' hT' => ?_
 obtain rfl := len0 hl'
 obtain ⟨v352, e353, q354⟩ : ∃ v, a'.tmps.getD 24 undef = v ∧ (v = (.bool true)) := ⟨_, rfl, hT' 14 (by decide) 24 rfl⟩
 have hE := hE'.add (e353.trans q354)
 refine Step.imp (Run1.pure (r_move hE rfl)) ?_
 rintro _ _ ⟨rfl, rfl⟩
 exact ⟨_, M.le.refl _, hS', rfl⟩
 }
 {
 exact cskip (b := true) rfl rfl (by decide) (fun _ _ _ h_ => Eq.trans h_ (cb rfl)) (by decide) (fun _ _ => rfl)
 }
 {
 exact cskip (b := true) rfl rfl (by decide) (fun _ _ _ h_ => Eq.trans h_ (cb rfl)) (by decide) (fun _ _ => rfl)
 }
 {
 exact cskip (b := true) rfl rfl (by decide) (fun _ _ _ h_ => Eq.trans h_ (cb rfl)) (by decide) (fun _ _ => rfl)
 }
 {
 exact cskip (b := true) rfl rfl (by decide) (fun _ _ _ h_ => Eq.trans h_ (cb rfl)) (by decide) (fun _ _ => rfl)
 }
 {
 refine cplain fun pre_ post_ L_ T_ m' a' w' hl' hp' hm' hq' hS' hE' hT' => ?_
 obtain rfl := len0 hl'
 obtain ⟨v356, e357, q358⟩ : ∃ v, a'.tmps.getD 25 undef = v ∧ (v = (.bool true)) := ⟨_, rfl, hT' 15 (by decide) 25 rfl⟩
 have hE := hE'.add (e357.trans q358)
 obtain ⟨v359, e360, q361⟩ : ∃ v, a'.tmps.getD 29 undef = v ∧ (v = undef) := ⟨_, rfl, hT' 19 (by decide) 29 rfl⟩
 have hE := hE.add (e360.trans q361)
 refine Step.imp (Run1.pure (r_pickT hE rfl rfl rfl)) ?_
 rintro _ _ ⟨rfl, rfl⟩
 exact ⟨_, M.le.refl _, hS', rfl⟩
 }
 {
 refine cplain fun pre_ post_ L_ T_ m' a' w' hl' hp' hm' hq' hS' hE' hT' => ?_
 obtain rfl := len0 hl'
 obtain ⟨v363, e364, q365⟩ : ∃ v, a'.tmps.getD 30 undef = v ∧ (v = (.bool true)) := ⟨_, rfl, hT' 20 (by decide) 30 rfl⟩
 have hE := hE'.add (e364.trans q365)
 refine Step.imp (Run1.pure (r_move hE rfl)) ?_
 rintro _ _ ⟨rfl, rfl⟩
 exact ⟨_, M.le.refl _, hS', rfl⟩
 }
 {
 exact cskip (b := true) rfl rfl (by decide) (fun _ _ _ h_ => Eq.trans h_ (cb rfl)) (by decide) (fun _ _ => rfl)
 }
 {
 exact cskip (b := true) rfl rfl (by decide) (fun _ _ _ h_ => Eq.trans h_ (cb rfl)) (by decide) (fun _ _ => rfl)
 }
 {
 exact cskip (b := true) rfl rfl (by decide) (fun _ _ _ h_ => Eq.trans h_ (cb rfl)) (by decide) (fun _ _ => rfl)
 }
 {
 exact cskip (b := true) rfl rfl (by decide) (fun _ _ _ h_ => Eq.trans h_ (cb rfl)) (by decide) (fun _ _ => rfl)
 }
 {
 exact cskip (b := true) rfl rfl (by decide) (fun _ _ _ h_ => Eq.trans h_ (cb rfl)) (by decide) (fun _ _ => rfl)
 }
 {
 exact cskip (b := true) rfl rfl (by decide) (fun _ _ _ h_ => Eq.trans h_ (cb rfl)) (by decide) (fun _ _ => rfl)
 }
 }
 {
 intro ws_ L_ T_ m367 a w hl368 hm369 hq370 hS hd371 hn372 ho373 hT374
 obtain rfl := len0 hl368
 obtain ⟨rfl, rfl⟩ := hq370
 have hE := EnvD.of (k := 28) (l' := [(0, v0), (2, (.pointer (some ⟨b1, 0, none⟩))), (3, (.slice none 0 0)), (4, (.bool false))]) hd371 hn372 ho373 ⟨rfl, rfl, rfl, rfl, trivial⟩ rfl
 obtain ⟨v375, e376, q377⟩ : ∃ v, a.tmps.getD 31 undef = v ∧ (v = (.bool true)) := ⟨_, rfl, hT374 21 (by decide) 31 rfl⟩
 have hE := hE.add (e376.trans q377)
 obtain ⟨v378, e379, q380⟩ : ∃ v, a.tmps.getD 34 undef = v ∧ (v = undef) := ⟨_, rfl, hT374 24 (by decide) 34 rfl⟩
 have hE := hE.add (e379.trans q380)
 obtain ⟨v381, e382, q383⟩ : ∃ v, a.tmps.getD 37 undef = v ∧ (v = undef) := ⟨_, rfl, hT374 27 (by decide) 37 rfl⟩
 have hE := hE.add (e382.trans q383)
 refine sx hE rfl rfl rfl rfl rfl rfl fun a hE => ?_
 refine sp hE (r_pickT hE rfl rfl rfl) rfl fun a hE => ?_
 refine knil ?_
 exact ⟨true, h, _, hm369, hS, hE.cut ⟨rfl, rfl, rfl, trivial⟩⟩
 }
 }
 {
 have h := ite_F hd319 h
 obtain ⟨x385, hx386, h⟩ := ob h
 rcases Bool.eq_false_or_eq_true (decide (4 < x385)) with hd390 | hd390
 {
 have h := ite_T hd390 h
 refine kchain (k := 28) (m := m) (es := []) (Φ := (fun i m ws v => match i with | 0 => v = v0 | 1 => v = (.int .i64 (p0.length : Int)) ∧ inR .i64 (p0.length : Int) | 2 => v = (.bool (decide ((p0.length : Int) < 3))) | 3 => v = (.bool (decide ((p0.length : Int) < 3))) | 4 => v = v0 | 5 => PR (kInt .u8) m v x385 | 6 => v = (.int .u8 x385) ∧ inR .u8 x385 | 7 => v = (.bool (decide (4 < x385))) | 8 => v = (.bool (decide (4 < x385))) | 9 => v = (.bool (decide (4 < x385))) | 10 => v = undef | 11 => v = undef | 12 => v = undef | 13 => v = undef | 14 => v = (.bool true) | 15 => v = (.bool true) | 16 => v = undef | 17 => v = undef | 18 => v = undef | 19 => v = undef | 20 => v = (.bool true) | 21 => v = (.bool true) | 22 => v = undef | 23 => v = undef | 24 => v = undef | 25 => v = undef | 26 => v = undef | 27 => v = undef | _ => True)) (Q := (fun c m ws L' TL' => match c with | 0 => (b1, zc62) :: L = L' ∧ TL = TL' | _ => False)) (cs := [⟨0, 0, false, [(0, v0)]⟩, ⟨0, 0, false, []⟩, ⟨0, 0, false, []⟩, ⟨0, 0, false, []⟩, ⟨0, 0, false, [(0, v0)]⟩, ⟨0, 0, false, []⟩, ⟨0, 0, false, []⟩, ⟨0, 0, false, []⟩, ⟨0, 0, false, []⟩, ⟨0, 0, false, []⟩, ⟨0, 0, false, [(0, v0)]⟩, ⟨0, 0, false, []⟩, ⟨0, 0, false, []⟩, ⟨0, 0, false, []⟩, ⟨0, 0, false, []⟩, ⟨0, 0, false, []⟩, ⟨0, 0, false, [(0, v0)]⟩, ⟨0, 0, false, []⟩, ⟨0, 0, false, []⟩, ⟨0, 0, false, []⟩, ⟨0, 0, false, []⟩, ⟨0, 0, false, []⟩, ⟨0, 0, false, [(0, v0)]⟩, ⟨0, 0, false, []⟩, ⟨0, 0, false, []⟩, ⟨0, 0, false, [(0, v0)]⟩, ⟨0, 0, false, []⟩, ⟨0, 0, false, []⟩]) mixed hE hS ⟨rfl, rfl⟩ rfl rfl ⟨⟨rfl, trivial⟩, trivial, trivial, trivial, ⟨rfl, trivial⟩, trivial, trivial, trivial, trivial, trivial, ⟨rfl, trivial⟩, trivial, trivial, trivial, trivial, trivial, ⟨rfl, trivial⟩, trivial, trivial, trivial, trivial, trivial, ⟨rfl, trivial⟩, trivial, trivial, ⟨rfl, trivial⟩, trivial, trivial, trivial⟩ (by kernel_rfl) ?_ ?_ ?_ ?_
 {
 intro i m_ m2_ ws v hm_ hp_
 match i, hp_ with
 | 0, hp_ => exact hp_
 | 1, hp_ => exact hp_
 | 2, hp_ => exact hp_
 | 3, hp_ => exact hp_
 | 4, hp_ => exact hp_
 | 5, hp_ => exact PR.mono hp_ hm_
 | 6, hp_ => exact hp_
 | 7, hp_ => exact hp_
 | 8, hp_ => exact hp_
 | 9, hp_ => exact hp_
 | 10, hp_ => exact hp_
 | 11, hp_ => exact hp_
 | 12, hp_ => exact hp_
 | 13, hp_ => exact hp_
 | 14, hp_ => exact hp_
 | 15, hp_ => exact hp_
 | 16, hp_ => exact hp_
 | 17, hp_ => exact hp_
 | 18, hp_ => exact hp_
 | 19, hp_ => exact hp_
 | 20, hp_ => exact hp_
 | 21, hp_ => exact hp_
 | 22, hp_ => exact hp_
 | 23, hp_ => exact hp_
 | 24, hp_ => exact hp_
 | 25, hp_ => exact hp_
 | 26, hp_ => exact hp_
 | 27, hp_ => exact hp_
 | _ + 28, hp_ => exact trivial
 }
 {
 intro c m_ m2_ ws L_ T_ hm_ hq_
 match c, hq_ with
 | 0, ⟨e1_, e2_⟩ => exact ⟨e1_, e2_⟩
 | _ + 1, hq_ => exact hq_.elim
 }
 {
 refine ⟨?_, ?_, ?_, ?_, ?_, ?_, ?_, ?_, ?_, ?_, ?_, ?_, ?_, ?_, ?_, ?_, ?_, ?_, ?_, ?_, ?_, ?_, ?_, ?_, ?_, ?_, ?_, ?_, trivial⟩
 {
 refine cplain fun pre_ post_ L_ T_ m' a' w' hl' hp' hm' hq' hS' hE' hT' => ?_
 obtain rfl := len0 hl'
 refine Step.imp (Run1.pure (r_move hE' rfl)) ?_
 rintro _ _ ⟨rfl, rfl⟩
 exact ⟨_, M.le.refl _, hS', rfl⟩
 }
 {
 refine cplain fun pre_ post_ L_ T_ m' a' w' hl' hp' hm' hq' hS' hE' hT' => ?_
 obtain rfl := len0 hl'
 obtain ⟨v392, e393, q394⟩ : ∃ v, a'.tmps.getD 10 undef = v ∧ (v = v0) := ⟨_, rfl, hT' 0 (by decide) 10 rfl⟩
 have hE := hE'.add (e393.trans q394)
 refine Step.imp (Run1.pure (r_lenSl (k := (kInt .u8)) hE rfl rfl Try.underlying37 (ha0.mono hm'))) ?_
 rintro _ _ ⟨rfl, rfl⟩
 exact ⟨_, M.le.refl _, hS', ⟨rfl, (inR_len (RV_len (ha0.mono hm')))⟩⟩
 }
 {
 refine cplain fun pre_ post_ L_ T_ m' a' w' hl' hp' hm' hq' hS' hE' hT' => ?_
 obtain rfl := len0 hl'
 obtain ⟨v396, e397, q398⟩ : ∃ v, a'.tmps.getD 11 undef = v ∧ (v = (.int .i64 (p0.length : Int)) ∧ inR .i64 (p0.length : Int)) := ⟨_, rfl, hT' 1 (by decide) 11 rfl⟩
 obtain ⟨q398, hr399⟩ := q398
 have hE := hE'.add (e397.trans q398)
 refine Step.imp (Run1.pure (r_bin hE rfl rfl b_lss)) ?_
 rintro _ _ ⟨rfl, rfl⟩
 exact ⟨_, M.le.refl _, hS', rfl⟩
 }
 {
 refine cplain fun pre_ post_ L_ T_ m' a' w' hl' hp' hm' hq' hS' hE' hT' => ?_
 obtain rfl := len0 hl'
 obtain ⟨v401, e402, q403⟩ : ∃ v, a'.tmps.getD 12 undef = v ∧ (v = (.bool (decide ((p0.length : Int) < 3)))) := ⟨_, rfl, hT' 2 (by decide) 12 rfl⟩
 have hE := hE'.add (e402.trans q403)
 refine Step.imp (Run1.pure (r_move hE rfl)) ?_
 rintro _ _ ⟨rfl, rfl⟩
 exact ⟨_, M.le.refl _, hS', rfl⟩
 }
 {
 refine cguard rfl rfl (by decide) (fun _ _ _ h_ => Eq.trans h_ (cb hd319)) fun pre_ post_ L_ T_ m' a' w' hl' hp' hm' hq' hS' hE' hT' => ?_
 obtain rfl := len0 hl'
 refine Step.imp (Run1.pure (r_move hE' rfl)) ?_
 rintro _ _ ⟨rfl, rfl⟩
 exact ⟨_, M.le.refl _, hS', rfl⟩
 }
 {
 refine cguard rfl rfl (by decide) (fun _ _ _ h_ => Eq.trans h_ (cb hd319)) fun pre_ post_ L_ T_ m' a' w' hl' hp' hm' hq' hS' hE' hT' => ?_
 obtain rfl := len0 hl'
 obtain ⟨v406, e407, q408⟩ : ∃ v, a'.tmps.getD 14 undef = v ∧ (v = v0) := ⟨_, rfl, hT' 4 (by decide) 14 rfl⟩
 have hE := hE'.add (e407.trans q408)
 refine Step.imp (st_index (k := (kInt .u8)) hE rfl rfl Try.underlying37 Try.sizeOf5 (ha0.mono hm') hx386) ?_
 rintro v409 _ ⟨rfl, hp387⟩
 exact ⟨_, M.le.refl _, hS', hp387⟩
 }
 {
 refine cguard rfl rfl (by decide) (fun _ _ _ h_ => Eq.trans h_ (cb hd319)) fun pre_ post_ L_ T_ m' a' w' hl' hp' hm' hq' hS' hE' hT' => ?_
 obtain rfl := len0 hl'
 obtain ⟨v410, e411, q412⟩ : ∃ v, a'.tmps.getD 15 undef = v ∧ (PR (kInt .u8) m' v x385) := ⟨_, rfl, hT' 5 (by decide) 15 rfl⟩
 have hE := hE'.add (e411)
 refine Step.imp (st_loadM hE hS' ty5 rfl q412) ?_
 rintro v413 _ ⟨rfl, hv388⟩
 obtain ⟨rfl, hr414⟩ := RV_int hv388
 exact ⟨_, M.le.refl _, hS', ⟨rfl, hr414⟩⟩
 }
 {
 refine cguard rfl rfl (by decide) (fun _ _ _ h_ => Eq.trans h_ (cb hd319)) fun pre_ post_ L_ T_ m' a' w' hl' hp' hm' hq' hS' hE' hT' => ?_
 obtain rfl := len0 hl'
 obtain ⟨v415, e416, q417⟩ : ∃ v, a'.tmps.getD 16 undef = v ∧ (v = (.int .u8 x385) ∧ inR .u8 x385) := ⟨_, rfl, hT' 6 (by decide) 16 rfl⟩
 obtain ⟨q417, hr418⟩ := q417
 have hE := hE'.add (e416.trans q417)
 refine Step.imp (Run1.pure (r_bin hE rfl rfl b_gtr)) ?_
 rintro _ _ ⟨rfl, rfl⟩
 exact ⟨_, M.le.refl _, hS', rfl⟩
 }
 {
 refine cplain fun pre_ post_ L_ T_ m' a' w' hl' hp' hm' hq' hS' hE' hT' => ?_
 obtain rfl := len0 hl'
 obtain ⟨v420, e421, q422⟩ : ∃ v, a'.tmps.getD 13 undef = v ∧ (v = (.bool (decide ((p0.length : Int) < 3)))) := ⟨_, rfl, hT' 3 (by decide) 13 rfl⟩
 have hE := hE'.add (e421.trans q422)
 obtain ⟨v423, e424, q425⟩ : ∃ v, a'.tmps.getD 17 undef = v ∧ (v = (.bool (decide (4 < x385)))) := ⟨_, rfl, hT' 7 (by decide) 17 rfl⟩
 have hE := hE.add (e424.trans q425)
 refine Step.imp (Run1.pure (r_pickF hE rfl hd319 rfl)) ?_
 rintro _ _ ⟨rfl, rfl⟩
 exact ⟨_, M.le.refl _, hS', rfl⟩
 }
 {
 refine cplain fun pre_ post_ L_ T_ m' a' w' hl' hp' hm' hq' hS' hE' hT' => ?_
 obtain rfl := len0 hl'
 obtain ⟨v427, e428, q429⟩ : ∃ v, a'.tmps.getD 18 undef = v ∧ (v = (.bool (decide (4 < x385)))) := ⟨_, rfl, hT' 8 (by decide) 18 rfl⟩
 have hE := hE'.add (e428.trans q429)
 refine Step.imp (Run1.pure (r_move hE rfl)) ?_
 rintro _ _ ⟨rfl, rfl⟩
 exact ⟨_, M.le.refl _, hS', rfl⟩
 }
 {
 exact cskip (b := true) rfl rfl (by decide) (fun _ _ _ h_ => Eq.trans h_ (cb hd390)) (by decide) (fun _ _ => rfl)
 }
 {
 exact cskip (b := true) rfl rfl (by decide) (fun _ _ _ h_ => Eq.trans h_ (cb hd390)) (by decide) (fun _ _ => rfl)
 }
 {
 exact cskip (b := true) rfl rfl (by decide) (fun _ _ _ h_ => Eq.trans h_ (cb hd390)) (by decide) (fun _ _ => rfl)
 }
 {
 exact cskip (b := true) rfl rfl (by decide) (fun _ _ _ h_ => Eq.trans h_ (cb hd390)) (by decide) (fun _ _ => rfl)
 }
 {
 refine cplain fun pre_ post_ L_ T_ m' a' w' hl' hp' hm' hq' hS' hE' hT' => ?_
 obtain rfl := len0 hl'
 obtain ⟨v431, e432, q433⟩ : ∃ v, a'.tmps.getD 19 undef = v ∧ (v = (.bool (decide (4 < x385)))) := ⟨_, rfl, hT' 9 (by decide) 19 rfl⟩
 have hE := hE'.add (e432.trans q433)
 obtain ⟨v434, e435, q436⟩ : ∃ v, a'.tmps.getD 23 undef = v ∧ (v = undef) := ⟨_, rfl, hT' 13 (by decide) 23 rfl⟩
 have hE := hE.add (e435.trans q436)
 refine Step.imp (Run1.pure (r_pickT hE rfl hd390 rfl)) ?_
 rintro _ _ ⟨rfl, rfl⟩
 exact ⟨_, M.le.refl _, hS', rfl⟩
 }
 {
 refine cplain fun pre_ post_ L_ T_ m' a' w' hl' hp' hm' hq' hS' hE' hT' => ?_
 obtain rfl := len0 hl'
 obtain ⟨v438, e439, q440⟩ : ∃ v, a'.tmps.getD 24 undef = v ∧ (v = (.bool true)) := ⟨_, rfl, hT' 14 (by decide) 24 rfl⟩
 have hE := hE'.add (e439.trans q440)
 refine Step.imp (Run1.pure (r_move hE rfl)) ?_
 rintro _ _ ⟨rfl, rfl⟩
 exact ⟨_, M.le.refl _, hS', rfl⟩
 }
 {
 exact cskip (b := true) rfl rfl (by decide) (fun _ _ _ h_ => Eq.trans h_ (cb rfl)) (by decide) (fun _ _ => rfl)
 }
 {
 exact cskip (b := true) rfl rfl (by decide) (fun _ _ _ h_ => Eq.trans h_ (cb rfl)) (by decide) (fun _ _ => rfl)
 }
 {
 exact cskip (b := true) rfl rfl (by decide) (fun _ _ _ h_ => Eq.trans h_ (cb rfl)) (by decide) (fun _ _ => rfl)
 }
 {
 exact cskip (b := true) rfl rfl (by decide) (fun _ _ _ h_ => Eq.trans h_ (cb rfl)) (by decide) (fun _ _ => rfl)
 }
 {
 refine cplain fun pre_ post_ L_ T_ m' a' w' hl' hp' hm' hq' hS' hE' hT' => ?_
 obtain rfl := len0 hl'
 obtain ⟨v442, e443, q444⟩ : ∃ v, a'.tmps.getD 25 undef = v ∧ (v = (.bool true)) := ⟨_, rfl, hT' 15 (by decide) 25 rfl⟩
 have hE := hE'.add (e443.trans q444)
 obtain ⟨v445, e446, q447⟩ : ∃ v, a'.tmps.getD 29 undef = v ∧ (v = undef) := ⟨_, rfl, hT' 19 (by decide) 29 rfl⟩
 have hE := hE.add (e446.trans q447)
 refine Step.imp (Run1.pure (r_pickT hE rfl rfl rfl)) ?_
 rintro _ _ ⟨rfl, rfl⟩
 exact ⟨_, M.le.refl _, hS', rfl⟩
 }
 {
 refine cplain fun pre_ post_ L_ T_ m' a' w' hl' hp' hm' hq' hS' hE' hT' => ?_
 obtain rfl := len0 hl'
 obtain ⟨v449, e450, q451⟩ : ∃ v, a'.tmps.getD 30 undef = v ∧ (v = (.bool true)) := ⟨_, rfl, hT' 20 (by decide) 30 rfl⟩
 have hE := hE'.add (e450.trans q451)
 refine Step.imp (Run1.pure (r_move hE rfl)) ?_
 rintro _ _ ⟨rfl, rfl⟩
 exact ⟨_, M.le.refl _, hS', rfl⟩
 }
 {
 exact cskip (b := true) rfl rfl (by decide) (fun _ _ _ h_ => Eq.trans h_ (cb rfl)) (by decide) (fun _ _ => rfl)
 }
 {
 exact cskip (b := true) rfl rfl (by decide) (fun _ _ _ h_ => Eq.trans h_ (cb rfl)) (by decide) (fun _ _ => rfl)
 }
 {
 exact cskip (b := true) rfl rfl (by decide) (fun _ _ _ h_ => Eq.trans h_ (cb rfl)) (by decide) (fun _ _ => rfl)
 }
 {
 exact cskip (b := true) rfl rfl (by decide) (fun _ _ _ h_ => Eq.trans h_ (cb rfl)) (by decide) (fun _ _ => rfl)
 }
 {
 exact cskip (b := true) rfl rfl (by decide) (fun _ _ _ h_ => Eq.trans h_ (cb rfl)) (by decide) (fun _ _ => rfl)
 }
 {
 exact cskip (b := true) rfl rfl (by decide) (fun _ _ _ h_ => Eq.trans h_ (cb rfl)) (by decide) (fun _ _ => rfl)
 }
 }
 {
 intro ws_ L_ T_ m453 a w hl454 hm455 hq456 hS hd457 hn458 ho459 hT460
 obtain rfl := len0 hl454
 obtain ⟨rfl, rfl⟩ := hq456
 have hE := EnvD.of (k := 28) (l' := [(0, v0), (2, (.pointer (some ⟨b1, 0, none⟩))), (3, (.slice none 0 0)), (4, (.bool false))]) hd457 hn458 ho459 ⟨rfl, rfl, rfl, rfl, trivial⟩ rfl
 obtain ⟨v461, e462, q463⟩ : ∃ v, a.tmps.getD 31 undef = v ∧ (v = (.bool true)) := ⟨_, rfl, hT460 21 (by decide) 31 rfl⟩
 have hE := hE.add (e462.trans q463)
 obtain ⟨v464, e465, q466⟩ : ∃ v, a.tmps.getD 34 undef = v ∧ (v = undef) := ⟨_, rfl, hT460 24 (by decide) 34 rfl⟩
 have hE := hE.add (e465.trans q466)
 obtain ⟨v467, e468, q469⟩ : ∃ v, a.tmps.getD 37 undef = v ∧ (v = undef) := ⟨_, rfl, hT460 27 (by decide) 37 rfl⟩
 have hE := hE.add (e468.trans q469)
 refine sx hE rfl rfl rfl rfl rfl rfl fun a hE => ?_
 refine sp hE (r_pickT hE rfl rfl rfl) rfl fun a hE => ?_
 refine knil ?_
 exact ⟨true, h, _, hm455, hS, hE.cut ⟨rfl, rfl, rfl, trivial⟩⟩
 }
 }
 {
 have h := ite_F hd390 h
 obtain ⟨x471, hx472, h⟩ := ob h
 rcases Bool.eq_false_or_eq_true (x471 == 0) with hd476 | hd476
 {
 have h := ite_T hd476 h
 refine kchain (k := 28) (m := m) (es := []) (Φ := (fun i m ws v => match i with | 0 => v = v0 | 1 => v = (.int .i64 (p0.length : Int)) ∧ inR .i64 (p0.length : Int) | 2 => v = (.bool (decide ((p0.length : Int) < 3))) | 3 => v = (.bool (decide ((p0.length : Int) < 3))) | 4 => v = v0 | 5 => PR (kInt .u8) m v x385 | 6 => v = (.int .u8 x385) ∧ inR .u8 x385 | 7 => v = (.bool (decide (4 < x385))) | 8 => v = (.bool (decide (4 < x385))) | 9 => v = (.bool (decide (4 < x385))) | 10 => v = v0 | 11 => PR (kInt .u8) m v x471 | 12 => v = (.int .u8 x471) ∧ inR .u8 x471 | 13 => v = (.bool (x471 == 0)) | 14 => v = (.bool (x471 == 0)) | 15 => v = (.bool (x471 == 0)) | 16 => v = undef | 17 => v = undef | 18 => v = undef | 19 => v = undef | 20 => v = (.bool true) | 21 => v = (.bool true) | 22 => v = undef | 23 => v = undef | 24 => v = undef | 25 => v = undef | 26 => v = undef | 27 => v = undef | _ => True)) (Q := (fun c m ws L' TL' => match c with | 0 => (b1, zc62) :: L = L' ∧ TL = TL' | _ => False)) (cs := [⟨0, 0, false, [(0, v0)]⟩, ⟨0, 0, false, []⟩, ⟨0, 0, false, []⟩, ⟨0, 0, false, []⟩, ⟨0, 0, false, [(0, v0)]⟩, ⟨0, 0, false, []⟩, ⟨0, 0, false, []⟩, ⟨0, 0, false, []⟩, ⟨0, 0, false, []⟩, ⟨0, 0, false, []⟩, ⟨0, 0, false, [(0, v0)]⟩, ⟨0, 0, false, []⟩, ⟨0, 0, false, []⟩, ⟨0, 0, false, []⟩, ⟨0, 0, false, []⟩, ⟨0, 0, false, []⟩, ⟨0, 0, false, [(0, v0)]⟩, ⟨0, 0, false, []⟩, ⟨0, 0, false, []⟩, ⟨0, 0, false, []⟩, ⟨0, 0, false, []⟩, ⟨0, 0, false, []⟩, ⟨0, 0, false, [(0, v0)]⟩, ⟨0, 0, false, []⟩, ⟨0, 0, false, []⟩, ⟨0, 0, false, [(0, v0)]⟩, ⟨0, 0, false, []⟩, ⟨0, 0, false, []⟩]) mixed hE hS ⟨rfl, rfl⟩ rfl rfl ⟨⟨rfl, trivial⟩, trivial, trivial, trivial, ⟨rfl, trivial⟩, trivial, trivial, trivial, trivial, trivial, ⟨rfl, trivial⟩, trivial, trivial, trivial, trivial, trivial, ⟨rfl, trivial⟩, trivial, trivial, trivial, trivial, trivial, ⟨rfl, trivial⟩, trivial, trivial, ⟨rfl, trivial⟩, trivial, trivial, trivial⟩ (by kernel_rfl) ?_ ?_ ?_ ?_
 {
 intro i m_ m2_ ws v hm_ hp_
 match i, hp_ with
 | 0, hp_ => exact hp_
 | 1, hp_ => exact hp_
 | 2, hp_ => exact hp_
 | 3, hp_ => exact hp_
 | 4, hp_ => exact hp_
 | 5, hp_ => exact PR.mono hp_ hm_
 | 6, hp_ => exact hp_
 | 7, hp_ => exact hp_
 | 8, hp_ => exact hp_
 | 9, hp_ => exact hp_
 | 10, hp_ => exact hp_
 | 11, hp_ => exact PR.mono hp_ hm_
 | 12, hp_ => exact hp_
 | 13, hp_ => exact hp_
 | 14, hp_ => exact hp_
 | 15, hp_ => exact hp_
 | 16, hp_ => exact hp_
 | 17, hp_ => exact hp_
 | 18, hp_ => exact hp_
 | 19, hp_ => exact hp_
 | 20, hp_ => exact hp_
 | 21, hp_ => exact hp_
 | 22, hp_ => exact hp_
 | 23, hp_ => exact hp_
 | 24, hp_ => exact hp_
 | 25, hp_ => exact hp_
 | 26, hp_ => exact hp_
 | 27, hp_ => exact hp_
 | _ + 28, hp_ => exact trivial
 }
 {
 intro c m_ m2_ ws L_ T_ hm_ hq_
 match c, hq_ with
 | 0, ⟨e1_, e2_⟩ => exact ⟨e1_, e2_⟩
 | _ + 1, hq_ => exact hq_.elim
 }
 {
 refine ⟨?_, ?_, ?_, ?_, ?_, ?_, ?_, ?_, ?_, ?_, ?_, ?_, ?_, ?_, ?_, ?_, ?_, ?_, ?_, ?_, ?_, ?_, ?_, ?_, ?_, ?_, ?_, ?_, trivial⟩
 {
 refine cplain fun pre_ post_ L_ T_ m' a' w' hl' hp' hm' hq' hS' hE' hT' => ?_
 obtain rfl := len0 hl'
 refine Step.imp (Run1.pure (r_move hE' rfl)) ?_
 rintro _ _ ⟨rfl, rfl⟩
 exact ⟨_, M.le.refl _, hS', rfl⟩
 }
 {
 refine cplain fun pre_ post_ L_ T_ m' a' w' hl' hp' hm' hq' hS' hE' hT' => ?_
 obtain rfl := len0 hl'
 obtain ⟨v478, e479, q480⟩ : ∃ v, a'.tmps.getD 10 undef = v ∧ (v = v0) := ⟨_, rfl, hT' 0 (by decide) 10 rfl⟩
 have hE := hE'.add (e479.trans q480)
 refine Step.imp (Run1.pure (r_lenSl (k := (kInt .u8)) hE rfl rfl Try.underlying37 (ha0.mono hm'))) ?_
 rintro _ _ ⟨rfl, rfl⟩
 exact ⟨_, M.le.refl _, hS', ⟨rfl, (inR_len (RV_len (ha0.mono hm')))⟩⟩
 }
 {
 refine cplain fun pre_ post_ L_ T_ m' a' w' hl' hp' hm' hq' hS' hE' hT' => ?_
 obtain rfl := len0 hl'
 obtain ⟨v482, e483, q484⟩ : ∃ v, a'.tmps.getD 11 undef = v ∧ (v = (.int .i64 (p0.length : Int)) ∧ inR .i64 (p0.length : Int)) := ⟨_, rfl, hT' 1 (by decide) 11 rfl⟩
 obtain ⟨q484, hr485⟩ := q484
 have hE := hE'.add (e483.trans q484)
 refine Step.imp (Run1.pure (r_bin hE rfl rfl b_lss)) ?_
 rintro _ _ ⟨rfl, rfl⟩
 exact ⟨_, M.le.refl _, hS', rfl⟩
 }
 {
 refine cplain fun pre_ post_ L_ T_ m' a' w' hl' hp' hm' hq' hS' hE' hT' => ?_
 obtain rfl := len0 hl'
 obtain ⟨v487, e488, q489⟩ : ∃ v, a'.tmps.getD 12 undef = v ∧ (v = (.bool (decide ((p0.length : Int) < 3)))) := ⟨_, rfl, hT' 2 (by decide) 12 rfl⟩
 have hE := hE'.add (e488.trans q489)
 refine Step.imp (Run1.pure (r_move hE rfl)) ?_
 rintro _ _ ⟨rfl, rfl⟩
 exact ⟨_, M.le.refl _, hS', rfl⟩
 }
 {
 refine cguard rfl rfl (by decide) (fun _ _ _ h_ => Eq.trans h_ (cb hd319)) fun pre_ post_ L_ T_ m' a' w' hl' hp' hm' hq' hS' hE' hT' => ?_
 obtain rfl := len0 hl'
 refine Step.imp (Run1.pure (r_move hE' rfl)) ?_
 rintro _ _ ⟨rfl, rfl⟩
 exact ⟨_, M.le.refl _, hS', rfl⟩
 }
 {
 refine cguard rfl rfl (by decide) (fun _ _ _ h_ => Eq.trans h_ (cb hd319)) fun pre_ post_ L_ T_ m' a' w' hl' hp' hm' hq' hS' hE' hT' => ?_
 obtain rfl := len0 hl'
 obtain ⟨v492, e493, q494⟩ : ∃ v, a'.tmps.getD 14 undef = v ∧ (v = v0) := ⟨_, rfl, hT' 4 (by decide) 14 rfl⟩
 have hE := hE'.add (e493.trans q494)
 refine Step.imp (st_index (k := (kInt .u8)) hE rfl rfl Try.underlying37 Try.sizeOf5 (ha0.mono hm') hx386) ?_
 rintro v495 _ ⟨rfl, hp387⟩
 exact ⟨_, M.le.refl _, hS', hp387⟩
 }
 {
 refine cguard rfl rfl (by decide) (fun _ _ _ h_ => Eq.trans h_ (cb hd319)) fun pre_ post_ L_ T_ m' a' w' hl' hp' hm' hq' hS' hE' hT' => ?_
 obtain rfl := len0 hl'
 obtain ⟨v496, e497, q498⟩ : ∃ v, a'.tmps.getD 15 undef = v ∧ (PR (kInt .u8) m' v x385) := ⟨_, rfl, hT' 5 (by decide) 15 rfl⟩
 have hE := hE'.add (e497)
 refine Step.imp (st_loadM hE hS' ty5 rfl q498) ?_
 rintro v499 _ ⟨rfl, hv388⟩
 obtain ⟨rfl, hr500⟩ := RV_int hv388
 exact ⟨_, M.le.refl _, hS', ⟨rfl, hr500⟩⟩
 }
 {
 refine cguard rfl rfl (by decide) (fun _ _ _ h_ => Eq.trans h_ (cb hd319)) fun pre_ post_ L_ T_ m' a' w' hl' hp' hm' hq' hS' hE' hT' => ?_
 obtain rfl := len0 hl'
 obtain ⟨v501, e502, q503⟩ : ∃ v, a'.tmps.getD 16 undef = v ∧ (v = (.int .u8 x385) ∧ inR .u8 x385) := ⟨_, rfl, hT' 6 (by decide) 16 rfl⟩
 obtain ⟨q503, hr504⟩ := q503
 have hE := hE'.add (e502.trans q503)
 refine Step.imp (Run1.pure (r_bin hE rfl rfl b_gtr)) ?_
 rintro _ _ ⟨rfl, rfl⟩
 exact ⟨_, M.le.refl _, hS', rfl⟩
 }
 {
 refine cplain fun pre_ post_ L_ T_ m' a' w' hl' hp' hm' hq' hS' hE' hT' => ?_
 obtain rfl := len0 hl'
 obtain ⟨v506, e507, q508⟩ : ∃ v, a'.tmps.getD 13 undef = v ∧ (v = (.bool (decide ((p0.length : Int) < 3)))) := ⟨_, rfl, hT' 3 (by decide) 13 rfl⟩
 have hE := hE'.add (e507.trans q508)
 obtain ⟨v509, e510, q511⟩ : ∃ v, a'.tmps.getD 17 undef = v ∧ (v = (.bool (decide (4 < x385)))) := ⟨_, rfl, hT' 7 (by decide) 17 rfl⟩
 have hE := hE.add (e510.trans q511)
 refine Step.imp (Run1.pure (r_pickF hE rfl hd319 rfl)) ?_
 rintro _ _ ⟨rfl, rfl⟩
 exact ⟨_, M.le.refl _, hS', rfl⟩
 }
 {
 refine cplain fun pre_ post_ L_ T_ m' a' w' hl' hp' hm' hq' hS' hE' hT' => ?_
 obtain rfl := len0 hl'
 obtain ⟨v513, e514, q515⟩ : ∃ v, a'.tmps.getD 18 undef = v ∧ (v = (.bool (decide (4 < x385)))) := ⟨_, rfl, hT' 8 (by decide) 18 rfl⟩
 have hE := hE'.add (e514.trans q515)
 refine Step.imp (Run1.pure (r_move hE rfl)) ?_
 rintro _ _ ⟨rfl, rfl⟩
 exact ⟨_, M.le.refl _, hS', rfl⟩
 }
 {
 refine cguard rfl rfl (by decide) (fun _ _ _ h_ => Eq.trans h_ (cb hd390)) fun pre_ post_ L_ T_ m' a' w' hl' hp' hm' hq' hS' hE' hT' => ?_
 obtain rfl := len0 hl'
 refine Step.imp (Run1.pure (r_move hE' rfl)) ?_
 rintro _ _ ⟨rfl, rfl⟩
 exact ⟨_, M.le.refl _, hS', rfl⟩
 }
 {
 refine cguard rfl rfl (by decide) (fun _ _ _ h_ => Eq.trans h_ (cb hd390)) fun pre_ post_ L_ T_ m' a' w' hl' hp' hm' hq' hS' hE' hT' => ?_
 obtain rfl := len0 hl'
 obtain ⟨v518, e519, q520⟩ : ∃ v, a'.tmps.getD 20 undef = v ∧ (v = v0) := ⟨_, rfl, hT' 10 (by decide) 20 rfl⟩
 have hE := hE'.add (e519.trans q520)
 refine Step.imp (st_index (k := (kInt .u8)) hE rfl rfl Try.underlying37 Try.sizeOf5 (ha0.mono hm') hx472) ?_
 rintro v521 _ ⟨rfl, hp473⟩
 exact ⟨_, M.le.refl _, hS', hp473⟩
 }
 {
 refine cguard rfl rfl (by decide) (fun _ _ _ h_ => Eq.trans h_ (cb hd390)) fun pre_ post_ L_ T_ m' a' w' hl' hp' hm' hq' hS' hE' hT' => ?_
 obtain rfl := len0 hl'
 obtain ⟨v522, e523, q524⟩ : ∃ v, a'.tmps.getD 21 undef = v ∧ (PR (kInt .u8) m' v x471) := ⟨_, rfl, hT' 11 (by decide) 21 rfl⟩
 have hE := hE'.add (e523)
 refine Step.imp (st_loadM hE hS' ty5 rfl q524) ?_
 rintro v525 _ ⟨rfl, hv474⟩
 obtain ⟨rfl, hr526⟩ := RV_int hv474
 exact ⟨_, M.le.refl _, hS', ⟨rfl, hr526⟩⟩
 }
 {
 refine cguard rfl rfl (by decide) (fun _ _ _ h_ => Eq.trans h_ (cb hd390)) fun pre_ post_ L_ T_ m' a' w' hl' hp' hm' hq' hS' hE' hT' => ?_
 obtain rfl := len0 hl'
 obtain ⟨v527, e528, q529⟩ : ∃ v, a'.tmps.getD 22 undef = v ∧ (v = (.int .u8 x471) ∧ inR .u8 x471) := ⟨_, rfl, hT' 12 (by decide) 22 rfl⟩
 obtain ⟨q529, hr530⟩ := q529
 have hE := hE'.add (e528.trans q529)
 refine Step.imp (Run1.pure (r_bin hE rfl rfl b_eql)) ?_
 rintro _ _ ⟨rfl, rfl⟩
 exact ⟨_, M.le.refl _, hS', rfl⟩
 }
 {
 refine cplain fun pre_ post_ L_ T_ m' a' w' hl' hp' hm' hq' hS' hE' hT' => ?_
 obtain rfl := len0 hl'
 obtain ⟨v532, e533, q534⟩ : ∃ v, a'.tmps.getD 19 undef = v ∧ (v = (.bool (decide (4 < x385)))) := ⟨_, rfl, hT' 9 (by decide) 19 rfl⟩
 have hE := hE'.add (e533.trans q534)
 obtain ⟨v535, e536, q537⟩ : ∃ v, a'.tmps.getD 23 undef = v ∧ (v = (.bool (x471 == 0))) := ⟨_, rfl, hT' 13 (by decide) 23 rfl⟩
 have hE := hE.add (e536.trans q537)
 refine Step.imp (Run1.pure (r_pickF hE rfl hd390 rfl)) ?_
 rintro _ _ ⟨rfl, rfl⟩
 exact ⟨_, M.le.refl _, hS', rfl⟩
 }
 {
 refine cplain fun pre_ post_ L_ T_ m' a' w' hl' hp' hm' hq' hS' hE' hT' => ?_
 obtain rfl := len0 hl'
 obtain ⟨v539, e540, q541⟩ : ∃ v, a'.tmps.getD 24 undef = v ∧ (v = (.bool (x471 == 0))) := ⟨_, rfl, hT' 14 (by decide) 24 rfl⟩
 have hE := hE'.add (e540.trans q541)
 refine Step.imp (Run1.pure (r_move hE rfl)) ?_
 rintro _ _ ⟨rfl, rfl⟩
 exact ⟨_, M.le.refl _, hS', rfl⟩
 }
 {
 exact cskip (b := true) rfl rfl (by decide) (fun _ _ _ h_ => Eq.trans h_ (cb hd476)) (by decide) (fun _ _ => rfl)
 }
 {
 exact cskip (b := true) rfl rfl (by decide) (fun _ _ _ h_ => Eq.trans h_ (cb hd476)) (by decide) (fun _ _ => rfl)
 }
 {
 exact cskip (b := true) rfl rfl (by decide) (fun _ _ _ h_ => Eq.trans h_ (cb hd476)) (by decide) (fun _ _ => rfl)
 }
 {
 exact cskip (b := true) rfl rfl (by decide) (fun _ _ _ h_ => Eq.trans h_ (cb hd476)) (by decide) (fun _ _ => rfl)
 }
 {
 refine cplain fun pre_ post_ L_ T_ m' a' w' hl' hp' hm' hq' hS' hE' hT' => ?_
 obtain rfl := len0 hl'
 obtain ⟨v543, e544, q545⟩ : ∃ v, a'.tmps.getD 25 undef = v ∧ (v = (.bool (x471 == 0))) := ⟨_, rfl, hT' 15 (by decide) 25 rfl⟩
 have hE := hE'.add (e544.trans q545)
 obtain ⟨v546, e547, q548⟩ : ∃ v, a'.tmps.getD 29 undef = v ∧ (v = undef) := ⟨_, rfl, hT' 19 (by decide) 29 rfl⟩
 have hE := hE.add (e547.trans q548)
 refine Step.imp (Run1.pure (r_pickT hE rfl hd476 rfl)) ?_
 rintro _ _ ⟨rfl, rfl⟩
 exact ⟨_, M.le.refl _, hS', rfl⟩
 }
 {
 refine cplain fun pre_ post_ L_ T_ m' a' w' hl' hp' hm' hq' hS' hE' hT' => ?_
 obtain rfl := len0 hl'
 obtain ⟨v550, e551, q552⟩ : ∃ v, a'.tmps.getD 30 undef = v ∧ (v = (.bool true)) := ⟨_, rfl, hT' 20 (by decide) 30 rfl⟩
 have hE := hE'.add (e551.trans q552)
 refine Step.imp (Run1.pure (r_move hE rfl)) ?_
 rintro _ _ ⟨rfl, rfl⟩
 exact ⟨_, M.le.refl _, hS', rfl⟩
 }
 {
 exact cskip (b := true) rfl rfl (by decide) (fun _ _ _ h_ => Eq.trans h_ (cb rfl)) (by decide) (fun _ _ => rfl)
 }
 {
 exact cskip (b := true) rfl rfl (by decide) (fun _ _ _ h_ => Eq.trans h_ (cb rfl)) (by decide) (fun _ _ => rfl)
 }
 {
 exact cskip (b := true) rfl rfl (by decide) (fun _ _ _ h_ => Eq.trans h_ (cb rfl)) (by decide) (fun _ _ => rfl)
 }
 {
 exact cskip (b := true) rfl rfl (by decide) (fun _ _ _ h_ => Eq.trans h_ (cb rfl)) (by decide) (fun _ _ => rfl)
 }
 {
 exact cskip (b := true) rfl rfl (by decide) (fun _ _ _ h_ => Eq.trans h_ (cb rfl)) (by decide) (fun _ _ => rfl)
 }
 {
 exact cskip (b := true) rfl rfl (by decide) (fun _ _ _ h_ => Eq.trans h_ (cb rfl)) (by decide) (fun _ _ => rfl)
 }
 }
 {
 intro ws_ L_ T_ m554 a w hl555 hm556 hq557 hS hd558 hn559 ho560 hT561
 obtain rfl := len0 hl555
 obtain ⟨rfl, rfl⟩ := hq557
 have hE := EnvD.of (k := 28) (l' := [(0, v0), (2, (.pointer (some ⟨b1, 0, none⟩))), (3, (.slice none 0 0)), (4, (.bool false))]) hd558 hn559 ho560 ⟨rfl, rfl, rfl, rfl, trivial⟩ rfl
 obtain ⟨v562, e563, q564⟩ : ∃ v, a.tmps.getD 31 undef = v ∧ (v = (.bool true)) := ⟨_, rfl, hT561 21 (by decide) 31 rfl⟩
 have hE := hE.add (e563.trans q564)
 obtain ⟨v565, e566, q567⟩ : ∃ v, a.tmps.getD 34 undef = v ∧ (v = undef) := ⟨_, rfl, hT561 24 (by decide) 34 rfl⟩
 have hE := hE.add (e566.trans q567)
 obtain ⟨v568, e569, q570⟩ : ∃ v, a.tmps.getD 37 undef = v ∧ (v = undef) := ⟨_, rfl, hT561 27 (by decide) 37 rfl⟩
 have hE := hE.add (e569.trans q570)
 refine sx hE rfl rfl rfl rfl rfl rfl fun a hE => ?_
 refine sp hE (r_pickT hE rfl rfl rfl) rfl fun a hE => ?_
 refine knil ?_
 exact ⟨true, h, _, hm556, hS, hE.cut ⟨rfl, rfl, rfl, trivial⟩⟩
 }
 }
 {
 have h := ite_F hd476 h
 obtain ⟨x572, hx573, h⟩ := ob h
 rcases Bool.eq_false_or_eq_true (decide (64 < x572)) with hd577 | hd577
 {
 have h := ite_T hd577 h
 refine kchain (k := 28) (m := m) (es := []) (Φ := (fun i m ws v => match i with | 0 => v = v0 | 1 => v = (.int .i64 (p0.length : Int)) ∧ inR .i64 (p0.length : Int) | 2 => v = (.bool (decide ((p0.length : Int) < 3))) | 3 => v = (.bool (decide ((p0.length : Int) < 3))) | 4 => v = v0 | 5 => PR (kInt .u8) m v x385 | 6 => v = (.int .u8 x385) ∧ inR .u8 x385 | 7 => v = (.bool (decide (4 < x385))) | 8 => v = (.bool (decide (4 < x385))) | 9 => v = (.bool (decide (4 < x385))) | 10 => v = v0 | 11 => PR (kInt .u8) m v x471 | 12 => v = (.int .u8 x471) ∧ inR .u8 x471 | 13 => v = (.bool (x471 == 0)) | 14 => v = (.bool (x471 == 0)) | 15 => v = (.bool (x471 == 0)) | 16 => v = v0 | 17 => PR (kInt .u8) m v x572 | 18 => v = (.int .u8 x572) ∧ inR .u8 x572 | 19 => v = (.bool (decide (64 < x572))) | 20 => v = (.bool (decide (64 < x572))) | 21 => v = (.bool (decide (64 < x572))) | 22 => v = undef | 23 => v = undef | 24 => v = undef | 25 => v = undef | 26 => v = undef | 27 => v = undef | _ => True)) (Q := (fun c m ws L' TL' => match c with | 0 => (b1, zc62) :: L = L' ∧ TL = TL' | _ => False)) (cs := [⟨0, 0, false, [(0, v0)]⟩, ⟨0, 0, false, []⟩, ⟨0, 0, false, []⟩, ⟨0, 0, false, []⟩, ⟨0, 0, false, [(0, v0)]⟩, ⟨0, 0, false, []⟩, ⟨0, 0, false, []⟩, ⟨0, 0, false, []⟩, ⟨0, 0, false, []⟩, ⟨0, 0, false, []⟩, ⟨0, 0, false, [(0, v0)]⟩, ⟨0, 0, false, []⟩, ⟨0, 0, false, []⟩, ⟨0, 0, false, []⟩, ⟨0, 0, false, []⟩, ⟨0, 0, false, []⟩, ⟨0, 0, false, [(0, v0)]⟩, ⟨0, 0, false, []⟩, ⟨0, 0, false, []⟩, ⟨0, 0, false, []⟩, ⟨0, 0, false, []⟩, ⟨0, 0, false, []⟩, ⟨0, 0, false, [(0, v0)]⟩, ⟨0, 0, false, []⟩, ⟨0, 0, false, []⟩, ⟨0, 0, false, [(0, v0)]⟩, ⟨0, 0, false, []⟩, ⟨0, 0, false, []⟩]) mixed hE hS ⟨rfl, rfl⟩ rfl rfl ⟨⟨rfl, trivial⟩, trivial, trivial, trivial, ⟨rfl, trivial⟩, trivial, trivial, trivial, trivial, trivial, ⟨rfl, trivial⟩, trivial, trivial, trivial, trivial, trivial, ⟨rfl, trivial⟩, trivial, trivial, trivial, trivial, trivial, ⟨rfl, trivial⟩, trivial, trivial, ⟨rfl, trivial⟩, trivial, trivial, trivial⟩ (by kernel_rfl) ?_ ?_ ?_ ?_
 {
 intro i m_ m2_ ws v hm_ hp_
 match i, hp_ with
 | 0, hp_ => exact hp_
 | 1, hp_ => exact hp_
 | 2, hp_ => exact hp_
 | 3, hp_ => exact hp_
 | 4, hp_ => exact hp_
 | 5, hp_ => exact PR.mono hp_ hm_
 | 6, hp_ => exact hp_
 | 7, hp_ => exact hp_
 | 8, hp_ => exact hp_
 | 9, hp_ => exact hp_
 | 10, hp_ => exact hp_
 | 11, hp_ => exact PR.mono hp_ hm_
 | 12, hp_ => exact hp_
 | 13, hp_ => exact hp_
 | 14, hp_ => exact hp_
 | 15, hp_ => exact hp_
 | 16, hp_ => exact hp_
 | 17, hp_ => exact PR.mono hp_ hm_
 | 18, hp_ => exact hp_
 | 19, hp_ => exact hp_
 | 20, hp_ => exact hp_
 | 21, hp_ => exact hp_
 | 22, hp_ => exact hp_
 | 23, hp_ => exact hp_
 | 24, hp_ => exact hp_
 | 25, hp_ => exact hp_
 | 26, hp_ => exact hp_
 | 27, hp_ => exact hp_
 | _ + 28, hp_ => exact trivial
 }
 {
 intro c m_ m2_ ws L_ T_ hm_ hq_
 match c, hq_ with
 | 0, ⟨e1_, e2_⟩ => exact ⟨e1_, e2_⟩
 | _ + 1, hq_ => exact hq_.elim
 }
 {
 refine ⟨?_, ?_, ?_, ?_, ?_, ?_, ?_, ?_, ?_, ?_, ?_, ?_, ?_, ?_, ?_, ?_, ?_, ?_, ?_, ?_, ?_, ?_, ?_, ?_, ?_, ?_, ?_, ?_, trivial⟩
 {
 refine cplain fun pre_ post_ L_ T_ m' a' w' hl' hp' hm' hq' hS' hE' hT' => ?_
 obtain rfl := len0 hl'
 refine Step.imp (Run1.pure (r_move hE' rfl)) ?_
 rintro _ _ ⟨rfl, rfl⟩
 exact ⟨_, M.le.refl _, hS', rfl⟩
 }
 {
 refine cplain fun pre_ post_ L_ T_ m' a' w' hl' hp' hm' hq' hS' hE' hT' => ?_
 obtain rfl := len0 hl'
 obtain ⟨v579, e580, q581⟩ : ∃ v, a'.tmps.getD 10 undef = v ∧ (v = v0) := ⟨_, rfl, hT' 0 (by decide) 10 rfl⟩
 have hE := hE'.add (e580.trans q581)
 refine Step.imp (Run1.pure (r_lenSl (k := (kInt .u8)) hE rfl rfl Try.underlying37 (ha0.mono hm'))) ?_
 rintro _ _ ⟨rfl, rfl⟩
 exact ⟨_, M.le.refl _, hS', ⟨rfl, (inR_len (RV_len (ha0.mono hm')))⟩⟩
 }
 {
 refine cplain fun pre_ post_ L_ T_ m' a' w' hl' hp' hm' hq' hS' hE' hT' => ?_
 obtain rfl := len0 hl'
 obtain ⟨v583, e584, q585⟩ : ∃ v, a'.tmps.getD 11 undef = v ∧ (v = (.int .i64 (p0.length : Int)) ∧ inR .i64 (p0.length : Int)) := ⟨_, rfl, hT' 1 (by decide) 11 rfl⟩
 obtain ⟨q585, hr586⟩ := q585
 have hE := hE'.add (e584.trans q585)
 refine Step.imp (Run1.pure (r_bin hE rfl rfl b_lss)) ?_
 rintro _ _ ⟨rfl, rfl⟩
 exact ⟨_, M.le.refl _, hS', rfl⟩
 }
 {
 refine cplain fun pre_ post_ L_ T_ m' a' w' hl' hp' hm' hq' hS' hE' hT' => ?_
 obtain rfl := len0 hl'
 obtain ⟨v588, e589, q590⟩ : ∃ v, a'.tmps.getD 12 undef = v ∧ (v = (.bool (decide ((p0.length : Int) < 3)))) := ⟨_, rfl, hT' 2 (by decide) 12 rfl⟩
 have hE := hE'.add (e589.trans q590)
 refine Step.imp (Run1.pure (r_move hE rfl)) ?_
 rintro _ _ ⟨rfl, rfl⟩
 exact ⟨_, M.le.refl _, hS', rfl⟩
 }
 {
 refine cguard rfl rfl (by decide) (fun _ _ _ h_ => Eq.trans h_ (cb hd319)) fun pre_ post_ L_ T_ m' a' w' hl' hp' hm' hq' hS' hE' hT' => ?_
 obtain rfl := len0 hl'
 refine Step.imp (Run1.pure (r_move hE' rfl)) ?_
 rintro _ _ ⟨rfl, rfl⟩
 exact ⟨_, M.le.refl _, hS', rfl⟩
 }
 {
 refine cguard rfl rfl (by decide) (fun _ _ _ h_ => Eq.trans h_ (cb hd319)) fun pre_ post_ L_ T_ m' a' w' hl' hp' hm' hq' hS' hE' hT' => ?_
 obtain rfl := len0 hl'
 obtain ⟨v593, e594, q595⟩ : ∃ v, a'.tmps.getD 14 undef = v ∧ (v = v0) := ⟨_, rfl, hT' 4 (by decide) 14 rfl⟩
 have hE := hE'.add (e594.trans q595)
 refine Step.imp (st_index (k := (kInt .u8)) hE rfl rfl Try.underlying37 Try.sizeOf5 (ha0.mono hm') hx386) ?_
 rintro v596 _ ⟨rfl, hp387⟩
 exact ⟨_, M.le.refl _, hS', hp387⟩
 }
 {
 refine cguard rfl rfl (by decide) (fun _ _ _ h_ => Eq.trans h_ (cb hd319)) fun pre_ post_ L_ T_ m' a' w' hl' hp' hm' hq' hS' hE' hT' => ?_
 obtain rfl := len0 hl'
 obtain ⟨v597, e598, q599⟩ : ∃ v, a'.tmps.getD 15 undef = v ∧ (PR (kInt .u8) m' v x385) := ⟨_, rfl, hT' 5 (by decide) 15 rfl⟩
 have hE := hE'.add (e598)
 refine Step.imp (st_loadM hE hS' ty5 rfl q599) ?_
 rintro v600 _ ⟨rfl, hv388⟩
 obtain ⟨rfl, hr601⟩ := RV_int hv388
 exact ⟨_, M.le.refl _, hS', ⟨rfl, hr601⟩⟩
 }
 {
 refine cguard rfl rfl (by decide) (fun _ _ _ h_ => Eq.trans h_ (cb hd319)) fun pre_ post_ L_ T_ m' a' w' hl' hp' hm' hq' hS' hE' hT' => ?_
 obtain rfl := len0 hl'
 obtain ⟨v602, e603, q604⟩ : ∃ v, a'.tmps.getD 16 undef = v ∧ (v = (.int .u8 x385) ∧ inR .u8 x385) := ⟨_, rfl, hT' 6 (by decide) 16 rfl⟩
 obtain ⟨q604, hr605⟩ := q604
 have hE := hE'.add (e603.trans q604)
 refine Step.imp (Run1.pure (r_bin hE rfl rfl b_gtr)) ?_
 rintro _ _ ⟨rfl, rfl⟩
 exact ⟨_, M.le.refl _, hS', rfl⟩
 }
 {
 refine cplain fun pre_ post_ L_ T_ m' a' w' hl' hp' hm' hq' hS' hE' hT' => ?_
 obtain rfl := len0 hl'
 obtain ⟨v607, e608, q609⟩ : ∃ v, a'.tmps.getD 13 undef = v ∧ (v = (.bool (decide ((p0.length : Int) < 3)))) := ⟨_, rfl, hT' 3 (by decide) 13 rfl⟩
 have hE := hE'.add (e608.trans q609)
 obtain ⟨v610, e611, q612⟩ : ∃ v, a'.tmps.getD 17 undef = v ∧ (v = (.bool (decide (4 < x385)))) := ⟨_, rfl, hT' 7 (by decide) 17 rfl⟩
 have hE := hE.add (e611.trans q612)
 refine Step.imp (Run1.pure (r_pickF hE rfl hd319 rfl)) ?_
 rintro _ _ ⟨rfl, rfl⟩
 exact ⟨_, M.le.refl _, hS', rfl⟩
 }
 {
 refine cplain fun pre_ post_ L_ T_ m' a' w' hl' hp' hm' hq' hS' hE' hT' => ?_
 obtain rfl := len0 hl'
 obtain ⟨v614, e615, q616⟩ : ∃ v, a'.tmps.getD 18 undef = v ∧ (v = (.bool (decide (4 < x385)))) := ⟨_, rfl, hT' 8 (by decide) 18 rfl⟩
 have hE := hE'.add (e615.trans q616)
 refine Step.imp (Run1.pure (r_move hE rfl)) ?_
 rintro _ _ ⟨rfl, rfl⟩
 exact ⟨_, M.le.refl _, hS', rfl⟩
 }
 {
 refine cguard rfl rfl (by decide) (fun _ _ _ h_ => Eq.trans h_ (cb hd390)) fun pre_ post_ L_ T_ m' a' w' hl' hp' hm' hq' hS' hE' hT' => ?_
 obtain rfl := len0 hl'
 refine Step.imp (Run1.pure (r_move hE' rfl)) ?_
 rintro _ _ ⟨rfl, rfl⟩
 exact ⟨_, M.le.refl _, hS', rfl⟩
 }
 {
 refine cguard rfl rfl (by decide) (fun _ _ _ h_ => Eq.trans h_ (cb hd390)) fun pre_ post_ L_ T_ m' a' w' hl' hp' hm' hq' hS' hE' hT' => ?_
 obtain rfl := len0 hl'
 obtain ⟨v619, e620, q621⟩ : ∃ v, a'.tmps.getD 20 undef = v ∧ (v = v0) := ⟨_, rfl, hT' 10 (by decide) 20 rfl⟩
 have hE := hE'.add (e620.trans q621)
 refine Step.imp (st_index (k := (kInt .u8)) hE rfl rfl Try.underlying37 Try.sizeOf5 (ha0.mono hm') hx472) ?_
 rintro v622 _ ⟨rfl, hp473⟩
 exact ⟨_, M.le.refl _, hS', hp473⟩
 }
 {
 refine cguard rfl rfl (by decide) (fun _ _ _ h_ => Eq.trans h_ (cb hd390)) fun pre_ post_ L_ T_ m' a' w' hl' hp' hm' hq' hS' hE' hT' => ?_
 obtain rfl := len0 hl'
 obtain ⟨v623, e624, q625⟩ : ∃ v, a'.tmps.getD 21 undef = v ∧ (PR (kInt .u8) m' v x471) := ⟨_, rfl, hT' 11 (by decide) 21 rfl⟩
 have hE := hE'.add (e624)
 refine Step.imp (st_loadM hE hS' ty5 rfl q625) ?_
 rintro v626 _ ⟨rfl, hv474⟩
 obtain ⟨rfl, hr627⟩ := RV_int hv474
 exact ⟨_, M.le.refl _, hS', ⟨rfl, hr627⟩⟩
 }
 {
 refine cguard rfl rfl (by decide) (fun _ _ _ h_ => Eq.trans h_ (cb hd390)) fun pre_ post_ L_ T_ m' a' w' hl' hp' hm' hq' hS' hE' hT' => ?_
 obtain rfl := len0 hl'
 obtain ⟨v628, e629, q630⟩ : ∃ v, a'.tmps.getD 22 undef = v ∧ (v = (.int .u8 x471) ∧ inR .u8 x471) := ⟨_, rfl, hT' 12 (by decide) 22 rfl⟩
 obtain ⟨q630, hr631⟩ := q630
 have hE := hE'.add (e629.trans q630)
 refine Step.imp (Run1.pure (r_bin hE rfl rfl b_eql)) ?_
 rintro _ _ ⟨rfl, rfl⟩
 exact ⟨_, M.le.refl _, hS', rfl⟩
 }
 {
 refine cplain fun pre_ post_ L_ T_ m' a' w' hl' hp' hm' hq' hS' hE' hT' => ?_
 obtain rfl := len0 hl'
 obtain ⟨v633, e634, q635⟩ : ∃ v, a'.tmps.getD 19 undef = v ∧ (v = (.bool (decide (4 < x385)))) := ⟨_, rfl, hT' 9 (by decide) 19 rfl⟩
 have hE := hE'.add (e634.trans q635)
 obtain ⟨v636, e637, q638⟩ : ∃ v, a'.tmps.getD 23 undef = v ∧ (v = (.bool (x471 == 0))) := ⟨_, rfl, hT' 13 (by decide) 23 rfl⟩
 have hE := hE.add (e637.trans q638)
 refine Step.imp (Run1.pure (r_pickF hE rfl hd390 rfl)) ?_
 rintro _ _ ⟨rfl, rfl⟩
 exact ⟨_, M.le.refl _, hS', rfl⟩
 }
 {
 refine cplain fun pre_ post_ L_ T_ m' a' w' hl' hp' hm' hq' hS' hE' hT' => ?_
 obtain rfl := len0 hl'
 obtain ⟨v640, e641, q642⟩ : ∃ v, a'.tmps.getD 24 undef = v ∧ (v = (.bool (x471 == 0))) := ⟨_, rfl, hT' 14 (by decide) 24 rfl⟩
 have hE := hE'.add (e641.trans q642)
 refine Step.imp (Run1.pure (r_move hE rfl)) ?_
 rintro _ _ ⟨rfl, rfl⟩
 exact ⟨_, M.le.refl _, hS', rfl⟩
 }
 {
 refine cguard rfl rfl (by decide) (fun _ _ _ h_ => Eq.trans h_ (cb hd476)) fun pre_ post_ L_ T_ m' a' w' hl' hp' hm' hq' hS' hE' hT' => ?_
 obtain rfl := len0 hl'
 refine Step.imp (Run1.pure (r_move hE' rfl)) ?_
 rintro _ _ ⟨rfl, rfl⟩
 exact ⟨_, M.le.refl _, hS', rfl⟩
 }
 {
 refine cguard rfl rfl (by decide) (fun _ _ _ h_ => Eq.trans h_ (cb hd476)) fun pre_ post_ L_ T_ m' a' w' hl' hp' hm' hq' hS' hE' hT' => ?_
 obtain rfl := len0 hl'
 obtain ⟨v645, e646, q647⟩ : ∃ v, a'.tmps.getD 26 undef = v ∧ (v = v0) := ⟨_, rfl, hT' 16 (by decide) 26 rfl⟩
 have hE := hE'.add (e646.trans q647)
 refine Step.imp (st_index (k := (kInt .u8)) hE rfl rfl Try.underlying37 Try.sizeOf5 (ha0.mono hm') hx573) ?_
 rintro v648 _ ⟨rfl, hp574⟩
 exact ⟨_, M.le.refl _, hS', hp574⟩
 }
 {
 refine cguard rfl rfl (by decide) (fun _ _ _ h_ => Eq.trans h_ (cb hd476)) fun pre_ post_ L_ T_ m' a' w' hl' hp' hm' hq' hS' hE' hT' => ?_
 obtain rfl := len0 hl'
 obtain ⟨v649, e650, q651⟩ : ∃ v, a'.tmps.getD 27 undef = v ∧ (PR (kInt .u8) m' v x572) := ⟨_, rfl, hT' 17 (by decide) 27 rfl⟩
 have hE := hE'.add (e650)
 refine Step.imp (st_loadM hE hS' ty5 rfl q651) ?_
 rintro v652 _ ⟨rfl, hv575⟩
 obtain ⟨rfl, hr653⟩ := RV_int hv575
 exact ⟨_, M.le.refl _, hS', ⟨rfl, hr653⟩⟩
 }
 {
 refine cguard rfl rfl (by decide) (fun _ _ _ h_ => Eq.trans h_ (cb hd476)) fun pre_ post_ L_ T_ m' a' w' hl' hp' hm' hq' hS' hE' hT' => ?_
 obtain rfl := len0 hl'
 obtain ⟨v654, e655, q656⟩ : ∃ v, a'.tmps.getD 28 undef = v ∧ (v = (.int .u8 x572) ∧ inR .u8 x572) := ⟨_, rfl, hT' 18 (by decide) 28 rfl⟩
 obtain ⟨q656, hr657⟩ := q656
 have hE := hE'.add (e655.trans q656)
 refine Step.imp (Run1.pure (r_bin hE rfl rfl b_gtr)) ?_
 rintro _ _ ⟨rfl, rfl⟩
 exact ⟨_, M.le.refl _, hS', rfl⟩
 }
 {
 refine cplain fun pre_ post_ L_ T_ m' a' w' hl' hp' hm' hq' hS' hE' hT' => ?_
 obtain rfl := len0 hl'
 obtain ⟨v659, e660, q661⟩ : ∃ v, a'.tmps.getD 25 undef = v ∧ (v = (.bool (x471 == 0))) := ⟨_, rfl, hT' 15 (by decide) 25 rfl⟩
 have hE := hE'.add (e660.trans q661)
 obtain ⟨v662, e663, q664⟩ : ∃ v, a'.tmps.getD 29 undef = v ∧ (v = (.bool (decide (64 < x572)))) := ⟨_, rfl, hT' 19 (by decide) 29 rfl⟩
 have hE := hE.add (e663.trans q664)
 refine Step.imp (Run1.pure (r_pickF hE rfl hd476 rfl)) ?_
 rintro _ _ ⟨rfl, rfl⟩
 exact ⟨_, M.le.refl _, hS', rfl⟩
 }
 {
 refine cplain fun pre_ post_ L_ T_ m' a' w' hl' hp' hm' hq' hS' hE' hT' => ?_
 obtain rfl := len0 hl'
 obtain ⟨v666, e667, q668⟩ : ∃ v, a'.tmps.getD 30 undef = v ∧ (v = (.bool (decide (64 < x572)))) := ⟨_, rfl, hT' 20 (by decide) 30 rfl⟩
 have hE := hE'.add (e667.trans q668)
 refine Step.imp (Run1.pure (r_move hE rfl)) ?_
 rintro _ _ ⟨rfl, rfl⟩
 exact ⟨_, M.le.refl _, hS', rfl⟩
 }
 {
 exact cskip (b := true) rfl rfl (by decide) (fun _ _ _ h_ => Eq.trans h_ (cb hd577)) (by decide) (fun _ _ => rfl)
 }
 {
 exact cskip (b := true) rfl rfl (by decide) (fun _ _ _ h_ => Eq.trans h_ (cb hd577)) (by decide) (fun _ _ => rfl)
 }
 {
 exact cskip (b := true) rfl rfl (by decide) (fun _ _ _ h_ => Eq.trans h_ (cb hd577)) (by decide) (fun _ _ => rfl)
 }
 {
 exact cskip (b := true) rfl rfl (by decide) (fun _ _ _ h_ => Eq.trans h_ (cb hd577)) (by decide) (fun _ _ => rfl)
 }
 {
 exact cskip (b := true) rfl rfl (by decide) (fun _ _ _ h_ => Eq.trans h_ (cb hd577)) (by decide) (fun _ _ => rfl)
 }
 {
 exact cskip (b := true) rfl rfl (by decide) (fun _ _ _ h_ => Eq.trans h_ (cb hd577)) (by decide) (fun _ _ => rfl)
 }
 }
 {
 intro ws_ L_ T_ m670 a w hl671 hm672 hq673 hS hd674 hn675 ho676 hT677
 obtain rfl := len0 hl671
 obtain ⟨rfl, rfl⟩ := hq673
 have hE := EnvD.of (k := 28) (l' := [(0, v0), (2, (.pointer (some ⟨b1, 0, none⟩))), (3, (.slice none 0 0)), (4, (.bool false))]) hd674 hn675 ho676 ⟨rfl, rfl, rfl, rfl, trivial⟩ rfl
 obtain ⟨v678, e679, q680⟩ : ∃ v, a.tmps.getD 31 undef = v ∧ (v = (.bool (decide (64 < x572)))) := ⟨_, rfl, hT677 21 (by decide) 31 rfl⟩
 have hE := hE.add (e679.trans q680)
 obtain ⟨v681, e682, q683⟩ : ∃ v, a.tmps.getD 34 undef = v ∧ (v = undef) := ⟨_, rfl, hT677 24 (by decide) 34 rfl⟩
 have hE := hE.add (e682.trans q683)
 obtain ⟨v684, e685, q686⟩ : ∃ v, a.tmps.getD 37 undef = v ∧ (v = undef) := ⟨_, rfl, hT677 27 (by decide) 37 rfl⟩
 have hE := hE.add (e685.trans q686)
 refine sx hE rfl rfl rfl rfl hd577 rfl fun a hE => ?_
 refine sp hE (r_pickT hE rfl hd577 rfl) rfl fun a hE => ?_
 refine knil ?_
 exact ⟨true, h, _, hm672, hS, hE.cut ⟨rfl, rfl, rfl, trivial⟩⟩
 }
 }
 {
 have h := ite_F hd577 h
 obtain ⟨x688, hx689, h⟩ := ob h
 obtain ⟨x693, hx694, h⟩ := ob h
 refine kchain (k := 28) (m := m) (es := []) (Φ := (fun i m ws v => match i with | 0 => v = v0 | 1 => v = (.int .i64 (p0.length : Int)) ∧ inR .i64 (p0.length : Int) | 2 => v = (.bool (decide ((p0.length : Int) < 3))) | 3 => v = (.bool (decide ((p0.length : Int) < 3))) | 4 => v = v0 | 5 => PR (kInt .u8) m v x385 | 6 => v = (.int .u8 x385) ∧ inR .u8 x385 | 7 => v = (.bool (decide (4 < x385))) | 8 => v = (.bool (decide (4 < x385))) | 9 => v = (.bool (decide (4 < x385))) | 10 => v = v0 | 11 => PR (kInt .u8) m v x471 | 12 => v = (.int .u8 x471) ∧ inR .u8 x471 | 13 => v = (.bool (x471 == 0)) | 14 => v = (.bool (x471 == 0)) | 15 => v = (.bool (x471 == 0)) | 16 => v = v0 | 17 => PR (kInt .u8) m v x572 | 18 => v = (.int .u8 x572) ∧ inR .u8 x572 | 19 => v = (.bool (decide (64 < x572))) | 20 => v = (.bool (decide (64 < x572))) | 21 => v = (.bool (decide (64 < x572))) | 22 => v = v0 | 23 => PR (kInt .u8) m v x688 | 24 => v = (.int .u8 x688) ∧ inR .u8 x688 | 25 => v = v0 | 26 => PR (kInt .u8) m v x693 | 27 => v = (.int .u8 x693) ∧ inR .u8 x693 | _ => True)) (Q := (fun c m ws L' TL' => match c with | 0 => (b1, zc62) :: L = L' ∧ TL = TL' | _ => False)) (cs := [⟨0, 0, false, [(0, v0)]⟩, ⟨0, 0, false, []⟩, ⟨0, 0, false, []⟩, ⟨0, 0, false, []⟩, ⟨0, 0, false, [(0, v0)]⟩, ⟨0, 0, false, []⟩, ⟨0, 0, false, []⟩, ⟨0, 0, false, []⟩, ⟨0, 0, false, []⟩, ⟨0, 0, false, []⟩, ⟨0, 0, false, [(0, v0)]⟩, ⟨0, 0, false, []⟩, ⟨0, 0, false, []⟩, ⟨0, 0, false, []⟩, ⟨0, 0, false, []⟩, ⟨0, 0, false, []⟩, ⟨0, 0, false, [(0, v0)]⟩, ⟨0, 0, false, []⟩, ⟨0, 0, false, []⟩, ⟨0, 0, false, []⟩, ⟨0, 0, false, []⟩, ⟨0, 0, false, []⟩, ⟨0, 0, false, [(0, v0)]⟩, ⟨0, 0, false, []⟩, ⟨0, 0, false, []⟩, ⟨0, 0, false, [(0, v0)]⟩, ⟨0, 0, false, []⟩, ⟨0, 0, false, []⟩]) mixed hE hS ⟨rfl, rfl⟩ rfl rfl ⟨⟨rfl, trivial⟩, trivial, trivial, trivial, ⟨rfl, trivial⟩, trivial, trivial, trivial, trivial, trivial, ⟨rfl, trivial⟩, trivial, trivial, trivial, trivial, trivial, ⟨rfl, trivial⟩, trivial, trivial, trivial, trivial, trivial, ⟨rfl, trivial⟩, trivial, trivial, ⟨rfl, trivial⟩, trivial, trivial, trivial⟩ (by kernel_rfl) ?_ ?_ ?_ ?_
 {
 intro i m_ m2_ ws v hm_ hp_
 match i, hp_ with
 | 0, hp_ => exact hp_
 | 1, hp_ => exact hp_
 | 2, hp_ => exact hp_
 | 3, hp_ => exact hp_
 | 4, hp_ => exact hp_
 | 5, hp_ => exact PR.mono hp_ hm_
 | 6, hp_ => exact hp_
 | 7, hp_ => exact hp_
 | 8, hp_ => exact hp_
 | 9, hp_ => exact hp_
 | 10, hp_ => exact hp_
 | 11, hp_ => exact PR.mono hp_ hm_
 | 12, hp_ => exact hp_
 | 13, hp_ => exact hp_
 | 14, hp_ => exact hp_
 | 15, hp_ => exact hp_
 | 16, hp_ => exact hp_
 | 17, hp_ => exact PR.mono hp_ hm_
 | 18, hp_ => exact hp_
 | 19, hp_ => exact hp_
 | 20, hp_ => exact hp_
 | 21, hp_ => exact hp_
 | 22, hp_ => exact hp_
 | 23, hp_ => exact PR.mono hp_ hm_
 | 24, hp_ => exact hp_
 | 25, hp_ => exact hp_
 | 26, hp_ => exact PR.mono hp_ hm_
 | 27, hp_ => exact hp_
 | _ + 28, hp_ => exact trivial
 }
 {
 intro c m_ m2_ ws L_ T_ hm_ hq_
 match c, hq_ with
 | 0, ⟨e1_, e2_⟩ => exact ⟨e1_, e2_⟩
 | _ + 1, hq_ => exact hq_.elim
 }
 {
 refine ⟨?_, ?_, ?_, ?_, ?_, ?_, ?_, ?_, ?_, ?_, ?_, ?_, ?_, ?_, ?_, ?_, ?_, ?_, ?_, ?_, ?_, ?_, ?_, ?_, ?_, ?_, ?_, ?_, trivial⟩
 {
 refine cplain fun pre_ post_ L_ T_ m' a' w' hl' hp' hm' hq' hS' hE' hT' => ?_
 obtain rfl := len0 hl'
 refine Step.imp (Run1.pure (r_move hE' rfl)) ?_
 rintro _ _ ⟨rfl, rfl⟩
 exact ⟨_, M.le.refl _, hS', rfl⟩
 }
 {
 refine cplain fun pre_ post_ L_ T_ m' a' w' hl' hp' hm' hq' hS' hE' hT' => ?_
 obtain rfl := len0 hl'
 obtain ⟨v699, e700, q701⟩ : ∃ v, a'.tmps.getD 10 undef = v ∧ (v = v0) := ⟨_, rfl, hT' 0 (by decide) 10 rfl⟩
 have hE := hE'.add (e700.trans q701)
 refine Step.imp (Run1.pure (r_lenSl (k := (kInt .u8)) hE rfl rfl Try.underlying37 (ha0.mono hm'))) ?_
 rintro _ _ ⟨rfl, rfl⟩
 exact ⟨_, M.le.refl _, hS', ⟨rfl, (inR_len (RV_len (ha0.mono hm')))⟩⟩
 }
 {
 refine cplain fun pre_ post_ L_ T_ m' a' w' hl' hp' hm' hq' hS' hE' hT' => ?_
 obtain rfl := len0 hl'
 obtain ⟨v703, e704, q705⟩ : ∃ v, a'.tmps.getD 11 undef = v ∧ (v = (.int .i64 (p0.length : Int)) ∧ inR .i64 (p0.length : Int)) := ⟨_, rfl, hT' 1 (by decide) 11 rfl⟩
 obtain ⟨q705, hr706⟩ := q705
 have hE := hE'.add (e704.trans q705)
 refine Step.imp (Run1.pure (r_bin hE rfl rfl b_lss)) ?_
 rintro _ _ ⟨rfl, rfl⟩
 exact ⟨_, M.le.refl _, hS', rfl⟩
 }
 {
 refine cplain fun pre_ post_ L_ T_ m' a' w' hl' hp' hm' hq' hS' hE' hT' => ?_
 obtain rfl := len0 hl'
 obtain ⟨v708, e709, q710⟩ : ∃ v, a'.tmps.getD 12 undef = v ∧ (v = (.bool (decide ((p0.length : Int) < 3)))) := ⟨_, rfl, hT' 2 (by decide) 12 rfl⟩
 have hE := hE'.add (e709.trans q710)
 refine Step.imp (Run1.pure (r_move hE rfl)) ?_
 rintro _ _ ⟨rfl, rfl⟩
 exact ⟨_, M.le.refl _, hS', rfl⟩
 }
 {
 refine cguard rfl rfl (by decide) (fun _ _ _ h_ => Eq.trans h_ (cb hd319)) fun pre_ post_ L_ T_ m' a' w' hl' hp' hm' hq' hS' hE' hT' => ?_
 obtain rfl := len0 hl'
 refine Step.imp (Run1.pure (r_move hE' rfl)) ?_
 rintro _ _ ⟨rfl, rfl⟩
 exact ⟨_, M.le.refl _, hS', rfl⟩
 }
 {
 refine cguard rfl rfl (by decide) (fun _ _ _ h_ => Eq.trans h_ (cb hd319)) fun pre_ post_ L_ T_ m' a' w' hl' hp' hm' hq' hS' hE' hT' => ?_
 obtain rfl := len0 hl'
 obtain ⟨v713, e714, q715⟩ : ∃ v, a'.tmps.getD 14 undef = v ∧ (v = v0) := ⟨_, rfl, hT' 4 (by decide) 14 rfl⟩
 have hE := hE'.add (e714.trans q715)
 refine Step.imp (st_index (k := (kInt .u8)) hE rfl rfl Try.underlying37 Try.sizeOf5 (ha0.mono hm') hx386) ?_
 rintro v716 _ ⟨rfl, hp387⟩
 exact ⟨_, M.le.refl _, hS', hp387⟩
 }
 {
 refine cguard rfl rfl (by decide) (fun _ _ _ h_ => Eq.trans h_ (cb hd319)) fun pre_ post_ L_ T_ m' a' w' hl' hp' hm' hq' hS' hE' hT' => ?_
 obtain rfl := len0 hl'
 obtain ⟨v717, e718, q719⟩ : ∃ v, a'.tmps.getD 15 undef = v ∧ (PR (kInt .u8) m' v x385) := ⟨_, rfl, hT' 5 (by decide) 15 rfl⟩
 have hE := hE'.add (e718)
 refine Step.imp (st_loadM hE hS' ty5 rfl q719) ?_
 rintro v720 _ ⟨rfl, hv388⟩
 obtain ⟨rfl, hr721⟩ := RV_int hv388
 exact ⟨_, M.le.refl _, hS', ⟨rfl, hr721⟩⟩
 }
 {
 refine cguard rfl rfl (by decide) (fun _ _ _ h_ => Eq.trans h_ (cb hd319)) fun pre_ post_ L_ T_ m' a' w' hl' hp' hm' hq' hS' hE' hT' => ?_
 obtain rfl := len0 hl'
 obtain ⟨v722, e723, q724⟩ : ∃ v, a'.tmps.getD 16 undef = v ∧ (v = (.int .u8 x385) ∧ inR .u8 x385) := ⟨_, rfl, hT' 6 (by decide) 16 rfl⟩
 obtain ⟨q724, hr725⟩ := q724
 have hE := hE'.add (e723.trans q724)
 refine Step.imp (Run1.pure (r_bin hE rfl rfl b_gtr)) ?_
 rintro _ _ ⟨rfl, rfl⟩
 exact ⟨_, M.le.refl _, hS', rfl⟩
 }
 {
 refine cplain fun pre_ post_ L_ T_ m' a' w' hl' hp' hm' hq' hS' hE' hT' => ?_
 obtain rfl := len0 hl'
 obtain ⟨v727, e728, q729⟩ : ∃ v, a'.tmps.getD 13 undef = v ∧ (v = (.bool (decide ((p0.length : Int) < 3)))) := ⟨_, rfl, hT' 3 (by decide) 13 rfl⟩
 have hE := hE'.add (e728.trans q729)
 obtain ⟨v730, e731, q732⟩ : ∃ v, a'.tmps.getD 17 undef = v ∧ (v = (.bool (decide (4 < x385)))) := ⟨_, rfl, hT' 7 (by decide) 17 rfl⟩
 have hE := hE.add (e731.trans q732)
 refine Step.imp (Run1.pure (r_pickF hE rfl hd319 rfl)) ?_
 rintro _ _ ⟨rfl, rfl⟩
 exact ⟨_, M.le.refl _, hS', rfl⟩
 }
 {
 refine cplain fun pre_ post_ L_ T_ m' a' w' hl' hp' hm' hq' hS' hE' hT' => ?_
 obtain rfl := len0 hl'
 obtain ⟨v734, e735, q736⟩ : ∃ v, a'.tmps.getD 18 undef = v ∧ (v = (.bool (decide (4 < x385)))) := ⟨_, rfl, hT' 8 (by decide) 18 rfl⟩
 have hE := hE'.add (e735.trans q736)
 refine Step.imp (Run1.pure (r_move hE rfl)) ?_
 rintro _ _ ⟨rfl, rfl⟩
 exact ⟨_, M.le.refl _, hS', rfl⟩
 }
 {
 refine cguard rfl rfl (by decide) (fun _ _ _ h_ => Eq.trans h_ (cb hd390)) fun pre_ post_ L_ T_ m' a' w' hl' hp' hm' hq' hS' hE' hT' => ?_
 obtain rfl := len0 hl'
 refine Step.imp (Run1.pure (r_move hE' rfl)) ?_
 rintro _ _ ⟨rfl, rfl⟩
 exact ⟨_, M.le.refl _, hS', rfl⟩
 }
 {
 refine cguard rfl rfl (by decide) (fun _ _ _ h_ => Eq.trans h_ (cb hd390)) fun pre_ post_ L_ T_ m' a' w' hl' hp' hm' hq' hS' hE' hT' => ?_
 obtain rfl := len0 hl'
 obtain ⟨v739, e740, q741⟩ : ∃ v, a'.tmps.getD 20 undef = v ∧ (v = v0) := ⟨_, rfl, hT' 10 (by decide) 20 rfl⟩
 have hE := hE'.add (e740.trans q741)
 refine Step.imp (st_index (k := (kInt .u8)) hE rfl rfl Try.underlying37 Try.sizeOf5 (ha0.mono hm') hx472) ?_
 rintro v742 _ ⟨rfl, hp473⟩
 exact ⟨_, M.le.refl _, hS', hp473⟩
 }
 {
 refine cguard rfl rfl (by decide) (fun _ _ _ h_ => Eq.trans h_ (cb hd390)) fun pre_ post_ L_ T_ m' a' w' hl' hp' hm' hq' hS' hE' hT' => ?_
 obtain rfl := len0 hl'
 obtain ⟨v743, e744, q745⟩ : ∃ v, a'.tmps.getD 21 undef = v ∧ (PR (kInt .u8) m' v x471) := ⟨_, rfl, hT' 11 (by decide) 21 rfl⟩
 have hE := hE'.add (e744)
 refine Step.imp (st_loadM hE hS' ty5 rfl q745) ?_
 rintro v746 _ ⟨rfl, hv474⟩
 obtain ⟨rfl, hr747⟩ := RV_int hv474
 exact ⟨_, M.le.refl _, hS', ⟨rfl, hr747⟩⟩
 }
 {
 refine cguard rfl rfl (by decide) (fun _ _ _ h_ => Eq.trans h_ (cb hd390)) fun pre_ post_ L_ T_ m' a' w' hl' hp' hm' hq' hS' hE' hT' => ?_
 obtain rfl := len0 hl'
 obtain ⟨v748, e749, q750⟩ : ∃ v, a'.tmps.getD 22 undef = v ∧ (v = (.int .u8 x471) ∧ inR .u8 x471) := ⟨_, rfl, hT' 12 (by decide) 22 rfl⟩
 obtain ⟨q750, hr751⟩ := q750
 have hE := hE'.add (e749.trans q750)
 refine Step.imp (Run1.pure (r_bin hE rfl rfl b_eql)) ?_
 rintro _ _ ⟨rfl, rfl⟩
 exact ⟨_, M.le.refl _, hS', rfl⟩
 }
 {
 refine cplain fun pre_ post_ L_ T_ m' a' w' hl' hp' hm' hq' hS' hE' hT' => ?_
 obtain rfl := len0 hl'
 obtain ⟨v753, e754, q755⟩ : ∃ v, a'.tmps.getD 19 undef = v ∧ (v = (.bool (decide (4 < x385)))) := ⟨_, rfl, hT' 9 (by decide) 19 rfl⟩
 have hE := hE'.add (e754.trans q755)
 obtain ⟨v756, e757, q758⟩ : ∃ v, a'.tmps.getD 23 undef = v ∧ (v = (.bool (x471 == 0))) := ⟨_, rfl, hT' 13 (by decide) 23 rfl⟩
 have hE := hE.add (e757.trans q758)
 refine Step.imp (Run1.pure (r_pickF hE rfl hd390 rfl)) ?_
 rintro _ _ ⟨rfl, rfl⟩
 exact ⟨_, M.le.refl _, hS', rfl⟩
 }
 {
 refine cplain fun pre_ post_ L_ T_ m' a' w' hl' hp' hm' hq' hS' hE' hT' => ?_
 obtain rfl := len0 hl'
 obtain ⟨v760, e761, q762⟩ : ∃ v, a'.tmps.getD 24 undef = v ∧ (v = (.bool (x471 == 0))) := ⟨_, rfl, hT' 14 (by decide) 24 rfl⟩
 have hE := hE'.add (e761.trans q762)
 refine Step.imp (Run1.pure (r_move hE rfl)) ?_
 rintro _ _ ⟨rfl, rfl⟩
 exact ⟨_, M.le.refl _, hS', rfl⟩
 }
 {
 refine cguard rfl rfl (by decide) (fun _ _ _ h_ => Eq.trans h_ (cb hd476)) fun pre_ post_ L_ T_ m' a' w' hl' hp' hm' hq' hS' hE' hT' => ?_
 obtain rfl := len0 hl'
 refine Step.imp (Run1.pure (r_move hE' rfl)) ?_
 rintro _ _ ⟨rfl, rfl⟩
 exact ⟨_, M.le.refl _, hS', rfl⟩
 }
 {
 refine cguard rfl rfl (by decide) (fun _ _ _ h_ => Eq.trans h_ (cb hd476)) fun pre_ post_ L_ T_ m' a' w' hl' hp' hm' hq' hS' hE' hT' => ?_
 obtain rfl := len0 hl'
 obtain ⟨v765, e766, q767⟩ : ∃ v, a'.tmps.getD 26 undef = v ∧ (v = v0) := ⟨_, rfl, hT' 16 (by decide) 26 rfl⟩
 have hE := hE'.add (e766.trans q767)
 refine Step.imp (st_index (k := (kInt .u8)) hE rfl rfl Try.underlying37 Try.sizeOf5 (ha0.mono hm') hx573) ?_
 rintro v768 _ ⟨rfl, hp574⟩
 exact ⟨_, M.le.refl _, hS', hp574⟩
 }
 {
 refine cguard rfl rfl (by decide) (fun _ _ _ h_ => Eq.trans h_ (cb hd476)) fun pre_ post_ L_ T_ m' a' w' hl' hp' hm' hq' hS' hE' hT' => ?_
 obtain rfl := len0 hl'
 obtain ⟨v769, e770, q771⟩ : ∃ v, a'.tmps.getD 27 undef = v ∧ (PR (kInt .u8) m' v x572) := ⟨_, rfl, hT' 17 (by decide) 27 rfl⟩
 have hE := hE'.add (e770)
 refine Step.imp (st_loadM hE hS' ty5 rfl q771) ?_
 rintro v772 _ ⟨rfl, hv575⟩
 obtain ⟨rfl, hr773⟩ := RV_int hv575
 exact ⟨_, M.le.refl _, hS', ⟨rfl, hr773⟩⟩
 }
 {
 refine cguard rfl rfl (by decide) (fun _ _ _ h_ => Eq.trans h_ (cb hd476)) fun pre_ post_ L_ T_ m' a' w' hl' hp' hm' hq' hS' hE' hT' => ?_
 obtain rfl := len0 hl'
 obtain ⟨v774, e775, q776⟩ : ∃ v, a'.tmps.getD 28 undef = v ∧ (v = (.int .u8 x572) ∧ inR .u8 x572) := ⟨_, rfl, hT' 18 (by decide) 28 rfl⟩
 obtain ⟨q776, hr777⟩ := q776
 have hE := hE'.add (e775.trans q776)
 refine Step.imp (Run1.pure (r_bin hE rfl rfl b_gtr)) ?_
 rintro _ _ ⟨rfl, rfl⟩
 exact ⟨_, M.le.refl _, hS', rfl⟩
 }
 {
 refine cplain fun pre_ post_ L_ T_ m' a' w' hl' hp' hm' hq' hS' hE' hT' => ?_
 obtain rfl := len0 hl'
 obtain ⟨v779, e780, q781⟩ : ∃ v, a'.tmps.getD 25 undef = v ∧ (v = (.bool (x471 == 0))) := ⟨_, rfl, hT' 15 (by decide) 25 rfl⟩
 have hE := hE'.add (e780.trans q781)
 obtain ⟨v782, e783, q784⟩ : ∃ v, a'.tmps.getD 29 undef = v ∧ (v = (.bool (decide (64 < x572)))) := ⟨_, rfl, hT' 19 (by decide) 29 rfl⟩
 have hE := hE.add (e783.trans q784)
 refine Step.imp (Run1.pure (r_pickF hE rfl hd476 rfl)) ?_
 rintro _ _ ⟨rfl, rfl⟩
 exact ⟨_, M.le.refl _, hS', rfl⟩
 }
 {
 refine cplain fun pre_ post_ L_ T_ m' a' w' hl' hp' hm' hq' hS' hE' hT' => ?_
 obtain rfl := len0 hl'
 obtain ⟨v786, e787, q788⟩ : ∃ v, a'.tmps.getD 30 undef = v ∧ (v = (.bool (decide (64 < x572)))) := ⟨_, rfl, hT' 20 (by decide) 30 rfl⟩
 have hE := hE'.add (e787.trans q788)
 refine Step.imp (Run1.pure (r_move hE rfl)) ?_
 rintro _ _ ⟨rfl, rfl⟩
 exact ⟨_, M.le.refl _, hS', rfl⟩
 }
 {
 refine cguard rfl rfl (by decide) (fun _ _ _ h_ => Eq.trans h_ (cb hd577)) fun pre_ post_ L_ T_ m' a' w' hl' hp' hm' hq' hS' hE' hT' => ?_
 obtain rfl := len0 hl'
 refine Step.imp (Run1.pure (r_move hE' rfl)) ?_
 rintro _ _ ⟨rfl, rfl⟩
 exact ⟨_, M.le.refl _, hS', rfl⟩
 }
 {
 refine cguard rfl rfl (by decide) (fun _ _ _ h_ => Eq.trans h_ (cb hd577)) fun pre_ post_ L_ T_ m' a' w' hl' hp' hm' hq' hS' hE' hT' => ?_
 obtain rfl := len0 hl'
 obtain ⟨v791, e792, q793⟩ : ∃ v, a'.tmps.getD 32 undef = v ∧ (v = v0) := ⟨_, rfl, hT' 22 (by decide) 32 rfl⟩
 have hE := hE'.add (e792.trans q793)
 refine Step.imp (st_index (k := (kInt .u8)) hE rfl rfl Try.underlying37 Try.sizeOf5 (ha0.mono hm') hx689) ?_
 rintro v794 _ ⟨rfl, hp690⟩
 exact ⟨_, M.le.refl _, hS', hp690⟩
 }
 {
 refine cguard rfl rfl (by decide) (fun _ _ _ h_ => Eq.trans h_ (cb hd577)) fun pre_ post_ L_ T_ m' a' w' hl' hp' hm' hq' hS' hE' hT' => ?_
 obtain rfl := len0 hl'
 obtain ⟨v795, e796, q797⟩ : ∃ v, a'.tmps.getD 33 undef = v ∧ (PR (kInt .u8) m' v x688) := ⟨_, rfl, hT' 23 (by decide) 33 rfl⟩
 have hE := hE'.add (e796)
 refine Step.imp (st_loadM hE hS' ty5 rfl q797) ?_
 rintro v798 _ ⟨rfl, hv691⟩
 obtain ⟨rfl, hr799⟩ := RV_int hv691
 exact ⟨_, M.le.refl _, hS', ⟨rfl, hr799⟩⟩
 }
 {
 refine cguard rfl rfl (by decide) (fun _ _ _ h_ => Eq.trans h_ (cb hd577)) fun pre_ post_ L_ T_ m' a' w' hl' hp' hm' hq' hS' hE' hT' => ?_
 obtain rfl := len0 hl'
 refine Step.imp (Run1.pure (r_move hE' rfl)) ?_
 rintro _ _ ⟨rfl, rfl⟩
 exact ⟨_, M.le.refl _, hS', rfl⟩
 }
 {
 refine cguard rfl rfl (by decide) (fun _ _ _ h_ => Eq.trans h_ (cb hd577)) fun pre_ post_ L_ T_ m' a' w' hl' hp' hm' hq' hS' hE' hT' => ?_
 obtain rfl := len0 hl'
 obtain ⟨v801, e802, q803⟩ : ∃ v, a'.tmps.getD 35 undef = v ∧ (v = v0) := ⟨_, rfl, hT' 25 (by decide) 35 rfl⟩
 have hE := hE'.add (e802.trans q803)
 refine Step.imp (st_index (k := (kInt .u8)) hE rfl rfl Try.underlying37 Try.sizeOf5 (ha0.mono hm') hx694) ?_
 rintro v804 _ ⟨rfl, hp695⟩
 exact ⟨_, M.le.refl _, hS', hp695⟩
 }
 {
 refine cguard rfl rfl (by decide) (fun _ _ _ h_ => Eq.trans h_ (cb hd577)) fun pre_ post_ L_ T_ m' a' w' hl' hp' hm' hq' hS' hE' hT' => ?_
 obtain rfl := len0 hl'
 obtain ⟨v805, e806, q807⟩ : ∃ v, a'.tmps.getD 36 undef = v ∧ (PR (kInt .u8) m' v x693) := ⟨_, rfl, hT' 26 (by decide) 36 rfl⟩
 have hE := hE'.add (e806)
 refine Step.imp (st_loadM hE hS' ty5 rfl q807) ?_
 rintro v808 _ ⟨rfl, hv696⟩
 obtain ⟨rfl, hr809⟩ := RV_int hv696
 exact ⟨_, M.le.refl _, hS', ⟨rfl, hr809⟩⟩
 }
 }
 {
 intro ws_ L_ T_ m810 a w hl811 hm812 hq813 hS hd814 hn815 ho816 hT817
 obtain rfl := len0 hl811
 obtain ⟨rfl, rfl⟩ := hq813
 have hE := EnvD.of (k := 28) (l' := [(0, v0), (2, (.pointer (some ⟨b1, 0, none⟩))), (3, (.slice none 0 0)), (4, (.bool false))]) hd814 hn815 ho816 ⟨rfl, rfl, rfl, rfl, trivial⟩ rfl
 obtain ⟨v818, e819, q820⟩ : ∃ v, a.tmps.getD 31 undef = v ∧ (v = (.bool (decide (64 < x572)))) := ⟨_, rfl, hT817 21 (by decide) 31 rfl⟩
 have hE := hE.add (e819.trans q820)
 obtain ⟨v821, e822, q823⟩ : ∃ v, a.tmps.getD 34 undef = v ∧ (v = (.int .u8 x688) ∧ inR .u8 x688) := ⟨_, rfl, hT817 24 (by decide) 34 rfl⟩
 obtain ⟨q823, hr824⟩ := q823
 have hE := hE.add (e822.trans q823)
 obtain ⟨v825, e826, q827⟩ : ∃ v, a.tmps.getD 37 undef = v ∧ (v = (.int .u8 x693) ∧ inR .u8 x693) := ⟨_, rfl, hT817 27 (by decide) 37 rfl⟩
 obtain ⟨q827, hr828⟩ := q827
 have hE := hE.add (e826.trans q827)
 refine spg hE rfl rfl rfl rfl hd577 (r_bin hE rfl rfl b_gtr) rfl fun a hE => ?_
 refine sp hE (r_pickF hE rfl hd577 rfl) rfl fun a hE => ?_
 refine knil ?_
 exact ⟨(decide (x693 < x688)), h, _, hm812, hS, hE.cut ⟨rfl, rfl, rfl, trivial⟩⟩
 }
 }
 }
 }
 }
 }
 {
 rintro a w ⟨x7, h, m5, hm6, hS, hE⟩
 unfold block_read_j1 at h
 refine kif hE rfl (fun hd9 => ?_) (fun hd9 => ?_)
 {
 have h := ite_T hd9 h
 refine kseq (kreg ?_)
 refine st hE (st_build (m := m5) (k := kBlock_Info) (x0 := Block_Info.zero) (xx := (⟨0, 0, AV.zero, AV.zero, 0, 0⟩ : Block_Info)) (pl := [(0, 1), (1, 1), (2, 4), (6, 4), (10, 1), (11, 1)]) (pv := []) hE rfl Try.underlying62 rfl Try.zeroValue62 zr62 rfl .nil) rfl ?_
 rintro v11 a _ ⟨rfl, hv10⟩ hE
 refine st0 hE (st_storeF hE hS ty62 StF_self rfl rfl hv10 (i := 0) rfl (zr62 _)) ?_
 rintro _ w ⟨cs12, hc13, hS⟩ hE
 refine qa hE rfl rfl fun a hE => ?_
 refine qa hE rfl rfl fun a hE => ?_
 refine knil (kret ?_)
 obtain rfl := oi h
 try dsimp only
 refine Fin.mk hE (rs := [.cell 2 62, .tmp 3, .tmp 4]) rfl (ResL.cell hE hS ty62 rfl (i := 0) rfl (R_whole hc13) (ResL.tmp hE rfl (ResL.tmp hE rfl ResL.nil))) ?_
 exact ⟨_, hm6, (hS.dropL 1), _, _, _, rfl, (RV_of_R (R_whole hc13)), RV_nil, RV_of_bool⟩
 }
 {
 have h := ite_F hd9 h
 refine kskip (kseq ?_)
 obtain ⟨x17, hx18, h⟩ := ob h
 obtain ⟨x22, hx23, h⟩ := ob h
 obtain ⟨x27, hx28, h⟩ := ob h
 refine kchain (k := 14) (m := m5) (es := [13]) (Φ := (fun i m ws v => match i with | 0 => v = v0 | 1 => PR (kInt .u8) m v x17 | 2 => v = (.int .u8 x17) ∧ inR .u8 x17 | 3 => v = (.int .i64 (IntKind.i64.wrap x17)) ∧ inR .i64 (IntKind.i64.wrap x17) | 4 => v = v0 | 5 => PR (kInt .u8) m v x22 | 6 => v = (.int .u8 x22) ∧ inR .u8 x22 | 7 => v = (.int .i64 (IntKind.i64.wrap x22)) ∧ inR .i64 (IntKind.i64.wrap x22) | 8 => v = v0 | 9 => PR (kInt .u8) m v x27 | 10 => v = (.int .u8 x27) ∧ inR .u8 x27 | 11 => v = (.int .i64 (IntKind.i64.wrap x27)) ∧ inR .i64 (IntKind.i64.wrap x27) | 12 => RV kBlock_Info m v (⟨IntKind.i64.wrap x17, IntKind.i64.wrap x22, AV.zero, AV.zero, IntKind.i64.wrap x27, 0⟩ : Block_Info) | 13 => v = (.pointer (some ⟨(wi ws 0).b, 0, none⟩)) | _ => True)) (Q := (fun c m ws L' TL' => match c with | 0 => (b1, zc62) :: L = L' ∧ TL = TL' | 1 => ((wi ws 0).b, zc62) :: (b1, zc62) :: L = L' ∧ TL = TL' | _ => False)) (cs := [⟨0, 1, false, [(0, v0)]⟩, ⟨0, 1, false, []⟩, ⟨0, 1, false, []⟩, ⟨0, 1, false, []⟩, ⟨0, 1, false, [(0, v0)]⟩, ⟨0, 1, false, []⟩, ⟨0, 1, false, []⟩, ⟨0, 1, false, []⟩, ⟨0, 1, false, [(0, v0)]⟩, ⟨0, 1, false, []⟩, ⟨0, 1, false, []⟩, ⟨0, 1, false, []⟩, ⟨0, 1, false, []⟩, ⟨0, 0, true, []⟩]) mixed hE hS ⟨rfl, rfl⟩ rfl rfl ⟨⟨rfl, trivial⟩, trivial, trivial, trivial, ⟨rfl, trivial⟩, trivial, trivial, trivial, ⟨rfl, trivial⟩, trivial, trivial, trivial, trivial, trivial, trivial⟩ (by kernel_rfl) ?_ ?_ ?_ ?_
 {
 intro i m_ m2_ ws v hm_ hp_
 match i, hp_ with
 | 0, hp_ => exact hp_
 | 1, hp_ => exact PR.mono hp_ hm_
 | 2, hp_ => exact hp_
 | 3, hp_ => exact hp_
 | 4, hp_ => exact hp_
 | 5, hp_ => exact PR.mono hp_ hm_
 | 6, hp_ => exact hp_
 | 7, hp_ => exact hp_
 | 8, hp_ => exact hp_
 | 9, hp_ => exact PR.mono hp_ hm_
 | 10, hp_ => exact hp_
 | 11, hp_ => exact hp_
 | 12, hp_ => exact RV.mono hp_ hm_
 | 13, hp_ => exact hp_
 | _ + 14, hp_ => exact trivial
 }
 {
 intro c m_ m2_ ws L_ T_ hm_ hq_
 match c, hq_ with
 | 0, ⟨e1_, e2_⟩ => exact ⟨e1_, e2_⟩
 | 1, ⟨e1_, e2_⟩ => exact ⟨e1_, e2_⟩
 | _ + 2, hq_ => exact hq_.elim
 }
 {
 refine ⟨?_, ?_, ?_, ?_, ?_, ?_, ?_, ?_, ?_, ?_, ?_, ?_, ?_, ?_, trivial⟩
 {
 refine cplain fun pre_ post_ L_ T_ m' a' w' hl' hp' hm' hq' hS' hE' hT' => ?_
 obtain rfl := len0 hl'
 refine Step.imp (Run1.pure (r_move hE' rfl)) ?_
 rintro _ _ ⟨rfl, rfl⟩
 exact ⟨_, M.le.refl _, hS', rfl⟩
 }
 {
 refine cplain fun pre_ post_ L_ T_ m' a' w' hl' hp' hm' hq' hS' hE' hT' => ?_
 obtain rfl := len0 hl'
 obtain ⟨v36, e37, q38⟩ : ∃ v, a'.tmps.getD 41 undef = v ∧ (v = v0) := ⟨_, rfl, hT' 0 (by decide) 41 rfl⟩
 have hE := hE'.add (e37.trans q38)
 refine Step.imp (st_index (k := (kInt .u8)) hE rfl rfl Try.underlying37 Try.sizeOf5 (ha0.mono (M.le.trans hm6 hm')) hx18) ?_
 rintro v39 _ ⟨rfl, hp19⟩
 exact ⟨_, M.le.refl _, hS', hp19⟩
 }
 {
 refine cplain fun pre_ post_ L_ T_ m' a' w' hl' hp' hm' hq' hS' hE' hT' => ?_
 obtain rfl := len0 hl'
 obtain ⟨v40, e41, q42⟩ : ∃ v, a'.tmps.getD 42 undef = v ∧ (PR (kInt .u8) m' v x17) := ⟨_, rfl, hT' 1 (by decide) 42 rfl⟩
 have hE := hE'.add (e41)
 refine Step.imp (st_loadM hE hS' ty5 rfl q42) ?_
 rintro v43 _ ⟨rfl, hv20⟩
 obtain ⟨rfl, hr44⟩ := RV_int hv20
 exact ⟨_, M.le.refl _, hS', ⟨rfl, hr44⟩⟩
 }
 {
 refine cplain fun pre_ post_ L_ T_ m' a' w' hl' hp' hm' hq' hS' hE' hT' => ?_
 obtain rfl := len0 hl'
 obtain ⟨v45, e46, q47⟩ : ∃ v, a'.tmps.getD 43 undef = v ∧ (v = (.int .u8 x17) ∧ inR .u8 x17) := ⟨_, rfl, hT' 2 (by decide) 43 rfl⟩
 obtain ⟨q47, hr48⟩ := q47
 have hE := hE'.add (e46.trans q47)
 refine Step.imp (Run1.pure (r_conv hE rfl Try.underlying5 Try.underlying3 rfl)) ?_
 rintro _ _ ⟨rfl, rfl⟩
 exact ⟨_, M.le.refl _, hS', ⟨rfl, (inR_wrap _ _)⟩⟩
 }
 {
 refine cplain fun pre_ post_ L_ T_ m' a' w' hl' hp' hm' hq' hS' hE' hT' => ?_
 obtain rfl := len0 hl'
 refine Step.imp (Run1.pure (r_move hE' rfl)) ?_
 rintro _ _ ⟨rfl, rfl⟩
 exact ⟨_, M.le.refl _, hS', rfl⟩
 }
 {
 refine cplain fun pre_ post_ L_ T_ m' a' w' hl' hp' hm' hq' hS' hE' hT' => ?_
 obtain rfl := len0 hl'
 obtain ⟨v51, e52, q53⟩ : ∃ v, a'.tmps.getD 45 undef = v ∧ (v = v0) := ⟨_, rfl, hT' 4 (by decide) 45 rfl⟩
 have hE := hE'.add (e52.trans q53)
 refine Step.imp (st_index (k := (kInt .u8)) hE rfl rfl Try.underlying37 Try.sizeOf5 (ha0.mono (M.le.trans hm6 hm')) hx23) ?_
 rintro v54 _ ⟨rfl, hp24⟩
 exact ⟨_, M.le.refl _, hS', hp24⟩
 }
 {
 refine cplain fun pre_ post_ L_ T_ m' a' w' hl' hp' hm' hq' hS' hE' hT' => ?_
 obtain rfl := len0 hl'
 obtain ⟨v55, e56, q57⟩ : ∃ v, a'.tmps.getD 46 undef = v ∧ (PR (kInt .u8) m' v x22) := ⟨_, rfl, hT' 5 (by decide) 46 rfl⟩
 have hE := hE'.add (e56)
 refine Step.imp (st_loadM hE hS' ty5 rfl q57) ?_
 rintro v58 _ ⟨rfl, hv25⟩
 obtain ⟨rfl, hr59⟩ := RV_int hv25
 exact ⟨_, M.le.refl _, hS', ⟨rfl, hr59⟩⟩
 }
 {
 refine cplain fun pre_ post_ L_ T_ m' a' w' hl' hp' hm' hq' hS' hE' hT' => ?_
 obtain rfl := len0 hl'
 obtain ⟨v60, e61, q62⟩ : ∃ v, a'.tmps.getD 47 undef = v ∧ (v = (.int .u8 x22) ∧ inR .u8 x22) := ⟨_, rfl, hT' 6 (by decide) 47 rfl⟩
 obtain ⟨q62, hr63⟩ := q62
 have hE := hE'.add (e61.trans q62)
 refine Step.imp (Run1.pure (r_conv hE rfl Try.underlying5 Try.underlying3 rfl)) ?_
 rintro _ _ ⟨rfl, rfl⟩
 exact ⟨_, M.le.refl _, hS', ⟨rfl, (inR_wrap _ _)⟩⟩
 }
 {
 refine cplain fun pre_ post_ L_ T_ m' a' w' hl' hp' hm' hq' hS' hE' hT' => ?_
 obtain rfl := len0 hl'
 refine Step.imp (Run1.pure (r_move hE' rfl)) ?_
 rintro _ _ ⟨rfl, rfl⟩
 exact ⟨_, M.le.refl _, hS', rfl⟩
 }
 {
 refine cplain fun pre_ post_ L_ T_ m' a' w' hl' hp' hm' hq' hS' hE' hT' => ?_
 obtain rfl := len0 hl'
 obtain ⟨v66, e67, q68⟩ : ∃ v, a'.tmps.getD 49 undef = v ∧ (v = v0) := ⟨_, rfl, hT' 8 (by decide) 49 rfl⟩
 have hE := hE'.add (e67.trans q68)
 refine Step.imp (st_index (k := (kInt .u8)) hE rfl rfl Try.underlying37 Try.sizeOf5 (ha0.mono (M.le.trans hm6 hm')) hx28) ?_
 rintro v69 _ ⟨rfl, hp29⟩
 exact ⟨_, M.le.refl _, hS', hp29⟩
 }
 {
 refine cplain fun pre_ post_ L_ T_ m' a' w' hl' hp' hm' hq' hS' hE' hT' => ?_
 obtain rfl := len0 hl'
 obtain ⟨v70, e71, q72⟩ : ∃ v, a'.tmps.getD 50 undef = v ∧ (PR (kInt .u8) m' v x27) := ⟨_, rfl, hT' 9 (by decide) 50 rfl⟩
 have hE := hE'.add (e71)
 refine Step.imp (st_loadM hE hS' ty5 rfl q72) ?_
 rintro v73 _ ⟨rfl, hv30⟩
 obtain ⟨rfl, hr74⟩ := RV_int hv30
 exact ⟨_, M.le.refl _, hS', ⟨rfl, hr74⟩⟩
 }
 {
 refine cplain fun pre_ post_ L_ T_ m' a' w' hl' hp' hm' hq' hS' hE' hT' => ?_
 obtain rfl := len0 hl'
 obtain ⟨v75, e76, q77⟩ : ∃ v, a'.tmps.getD 51 undef = v ∧ (v = (.int .u8 x27) ∧ inR .u8 x27) := ⟨_, rfl, hT' 10 (by decide) 51 rfl⟩
 obtain ⟨q77, hr78⟩ := q77
 have hE := hE'.add (e76.trans q77)
 refine Step.imp (Run1.pure (r_conv hE rfl Try.underlying5 Try.underlying3 rfl)) ?_
 rintro _ _ ⟨rfl, rfl⟩
 exact ⟨_, M.le.refl _, hS', ⟨rfl, (inR_wrap _ _)⟩⟩
 }
 {
 refine cplain fun pre_ post_ L_ T_ m' a' w' hl' hp' hm' hq' hS' hE' hT' => ?_
 obtain rfl := len0 hl'
 obtain ⟨v80, e81, q82⟩ : ∃ v, a'.tmps.getD 44 undef = v ∧ (v = (.int .i64 (IntKind.i64.wrap x17)) ∧ inR .i64 (IntKind.i64.wrap x17)) := ⟨_, rfl, hT' 3 (by decide) 44 rfl⟩
 obtain ⟨q82, hr83⟩ := q82
 have hE := hE'.add (e81.trans q82)
 obtain ⟨v84, e85, q86⟩ : ∃ v, a'.tmps.getD 48 undef = v ∧ (v = (.int .i64 (IntKind.i64.wrap x22)) ∧ inR .i64 (IntKind.i64.wrap x22)) := ⟨_, rfl, hT' 7 (by decide) 48 rfl⟩
 obtain ⟨q86, hr87⟩ := q86
 have hE := hE.add (e85.trans q86)
 obtain ⟨v88, e89, q90⟩ : ∃ v, a'.tmps.getD 52 undef = v ∧ (v = (.int .i64 (IntKind.i64.wrap x27)) ∧ inR .i64 (IntKind.i64.wrap x27)) := ⟨_, rfl, hT' 11 (by decide) 52 rfl⟩
 obtain ⟨q90, hr91⟩ := q90
 have hE := hE.add (e89.trans q90)
 refine Step.imp (st_build (m := m') (k := kBlock_Info) (x0 := Block_Info.zero) (xx := (⟨IntKind.i64.wrap x17, IntKind.i64.wrap x22, AV.zero, AV.zero, IntKind.i64.wrap x27, 0⟩ : Block_Info)) (pl := [(0, 1), (1, 1), (2, 4), (6, 4), (10, 1), (11, 1)]) (pv := [(0, (.int .i64 (IntKind.i64.wrap x17))), (1, (.int .i64 (IntKind.i64.wrap x22))), (4, (.int .i64 (IntKind.i64.wrap x27)))]) hE rfl Try.underlying62 rfl Try.zeroValue62 zr62 rfl (.cons rfl sf62_0 (RV_of_int hr83) (.cons rfl sf62_1 (RV_of_int hr87) (.cons rfl sf62_4 (RV_of_int hr91) .nil)))) ?_
 rintro v92 _ ⟨rfl, hv32⟩
 exact ⟨_, M.le.refl _, hS', hv32⟩
 }
 {
 refine cturn fun pre_ L_ T_ m' a' w' hl' hm' hq' hS' hE' hT' => ?_
 obtain rfl := len0 hl'
 obtain ⟨rfl, rfl⟩ := hq'
 refine Step.imp (st_alloc hS' Try.zeroValue62 rfl (cs := zc62)) ?_
 rintro vv34 w ⟨b33, rfl, hS⟩
 exact ⟨_, ⟨b33, undef, [], [], []⟩, _, _, M.le.refl _, hS, ⟨rfl, rfl⟩, rfl⟩
 }
 }
 {
 intro ws_ L_ T_ m93 a w hl94 hm95 hq96 hS hd97 hn98 ho99 hT100
 obtain ⟨⟨b33, _, _, _, _⟩, rfl⟩ := len1 hl94
 obtain ⟨rfl, rfl⟩ := hq96
 have hE := EnvD.of (k := 14) (l' := [(0, v0), (2, (.pointer (some ⟨b1, 0, none⟩))), (39, (.bool x7))]) hd97 hn98 ho99 ⟨rfl, rfl, rfl, trivial⟩ rfl
 obtain ⟨v101, e102, q103⟩ : ∃ v, a.tmps.getD 53 undef = v ∧ (RV kBlock_Info m93 v (⟨IntKind.i64.wrap x17, IntKind.i64.wrap x22, AV.zero, AV.zero, IntKind.i64.wrap x27, 0⟩ : Block_Info)) := ⟨_, rfl, hT100 12 (by decide) 53 rfl⟩
 have hE := hE.add (e102)
 obtain ⟨v104, e105, q106⟩ : ∃ v, a.tmps.getD 5 undef = v ∧ (v = (.pointer (some ⟨b33, 0, none⟩))) := ⟨_, rfl, hT100 13 (by decide) 5 rfl⟩
 have hE := hE.add (e105.trans q106)
 refine st0 hE (st_storeF hE hS ty62 StF_self rfl rfl q103 (i := 0) rfl (zr62 _)) ?_
 rintro _ w ⟨cs107, hc108, hS⟩ hE
 refine knil (kseq (kreg ?_))
 refine qa hE rfl rfl fun a hE => ?_
 refine qa hE rfl rfl fun a hE => ?_
 refine knil (kseq (kreg ?_))
 refine qa hE rfl rfl fun a hE => ?_
 refine knil (kseq (kreg ?_))
 refine qm hE rfl rfl fun a hE => ?_
 obtain ⟨x114, hx115, h⟩ := ob h
 refine st hE (st_slice (k := (kInt .u8)) hE rfl Try.underlying37 Try.sizeOf5 (ha0.mono (M.le.trans hm6 hm95)) ⟨_, rfl⟩ rfl hx115 (xl := (some (.const (.int .i64 3)))) (xh := none)) rfl ?_
 rintro v117 a _ ⟨rfl, hv116⟩ hE
 obtain ⟨r118, hr119, h⟩ := ob h
 refine st hE (st_call (vs := [v117]) hE rfl Try.call117 (c_block_front (hS := hS) hv116 hr119)) rfl ?_
 rintro _ a w ⟨m120, hm121, hS, v0_122, v1_123, v2_124, rfl, hv0_125, hv1_126, hv2_127⟩ hE
 obtain rfl := RV_bool hv2_127
 refine qm hE rfl rfl fun a hE => ?_
 refine sp hE (r_extract hE rfl rfl) rfl fun a hE => ?_
 refine sp hE (r_extract hE rfl rfl) rfl fun a hE => ?_
 refine sp hE (r_extract hE rfl rfl) rfl fun a hE => ?_
 refine sp hE (r_fieldL hE fo62_2 rfl) rfl fun a hE => ?_
 refine st0 hE (st_storeF hE hS ty53 sf62_2 rfl rfl hv0_125 (i := 0) rfl (kBlock_Info.mono hm121 hc108)) ?_
 rintro _ w ⟨cs134, hc135, hS⟩ hE
 refine qa hE rfl rfl fun a hE => ?_
 refine qa hE rfl rfl fun a hE => ?_
 refine knil (kseq (kreg ?_))
 refine qm hE rfl rfl fun a hE => ?_
 obtain ⟨r140, hr141, h⟩ := ob h
 refine st hE (st_call (vs := [v1_123]) hE rfl Try.call117 (c_block_front (hS := hS) hv1_126 hr141)) rfl ?_
 rintro _ a w ⟨m142, hm143, hS, v0_144, v1_145, v2_146, rfl, hv0_147, hv1_148, hv2_149⟩ hE
 obtain rfl := RV_bool hv2_149
 refine qm hE rfl rfl fun a hE => ?_
 refine sp hE (r_extract hE rfl rfl) rfl fun a hE => ?_
 refine sp hE (r_extract hE rfl rfl) rfl fun a hE => ?_
 refine sp hE (r_extract hE rfl rfl) rfl fun a hE => ?_
 refine sp hE (r_fieldL hE fo62_3 rfl) rfl fun a hE => ?_
 refine st0 hE (st_storeF hE hS ty53 sf62_3 rfl rfl hv0_147 (i := 0) rfl (kBlock_Info.mono hm143 hc135)) ?_
 rintro _ w ⟨cs156, hc157, hS⟩ hE
 refine qa hE rfl rfl fun a hE => ?_
 refine qa hE rfl rfl fun a hE => ?_
 refine knil (kseq (kseq ?_))
 refine kcut (fun a w => ∃ x163 : Bool, block_read_j2 p0 x17 x22 x27 r118 r140 x163 = some r ∧ ∃ m', M.le m142 m' ∧ S W0 m' w ((b33, cs156) :: (b1, zc62) :: L) (TL) ∧ Env 112 a [(0, v0), (2, (.pointer (some ⟨b1, 0, none⟩))), (5, (.pointer (some ⟨b33, 0, none⟩))), (8, v1_145), (79, (.bool x163))]) ?_ ?_
 {
 refine kreg ?_
 refine qm hE rfl rfl fun a hE => ?_
 refine sp hE (r_not hE rfl) rfl fun a hE => ?_
 refine qm hE rfl rfl fun a hE => ?_
 rcases Bool.eq_false_or_eq_true (!r118.2.2) with hd305 | hd305
 {
 have h := ite_T hd305 h
 refine sx hE rfl rfl rfl rfl hd305 rfl fun a hE => ?_
 refine sx hE rfl rfl rfl rfl hd305 rfl fun a hE => ?_
 refine sp hE (r_pickT hE rfl hd305 rfl) rfl fun a hE => ?_
 refine qm hE rfl rfl fun a hE => ?_
 refine sx hE rfl rfl rfl rfl rfl rfl fun a hE => ?_
 refine sx hE rfl rfl rfl rfl rfl rfl fun a hE => ?_
 refine sx hE rfl rfl rfl rfl rfl rfl fun a hE => ?_
 refine sp hE (r_pickT hE rfl rfl rfl) rfl fun a hE => ?_
 refine knil ?_
 exact ⟨true, h, _, (M.le.refl _), hS, hE.cut ⟨rfl, rfl, rfl, rfl, rfl, trivial⟩⟩
 }
 {
 have h := ite_F hd305 h
 refine spg hE rfl rfl rfl rfl hd305 (r_move hE rfl) rfl fun a hE => ?_
 refine spg hE rfl rfl rfl rfl hd305 (r_not hE rfl) rfl fun a hE => ?_
 refine sp hE (r_pickF hE rfl hd305 rfl) rfl fun a hE => ?_
 refine qm hE rfl rfl fun a hE => ?_
 rcases Bool.eq_false_or_eq_true (!r140.2.2) with hd313 | hd313
 {
 have h := ite_T hd313 h
 refine sx hE rfl rfl rfl rfl hd313 rfl fun a hE => ?_
 refine sx hE rfl rfl rfl rfl hd313 rfl fun a hE => ?_
 refine sx hE rfl rfl rfl rfl hd313 rfl fun a hE => ?_
 refine sp hE (r_pickT hE rfl hd313 rfl) rfl fun a hE => ?_
 refine knil ?_
 exact ⟨true, h, _, (M.le.refl _), hS, hE.cut ⟨rfl, rfl, rfl, rfl, rfl, trivial⟩⟩
 }
 {
 have h := ite_F hd313 h
 refine spg hE rfl rfl rfl rfl hd313 (r_move hE rfl) rfl fun a hE => ?_
 refine spg hE rfl rfl rfl rfl hd313 (r_lenSl (k := (kInt .u8)) hE rfl rfl Try.underlying37 hv1_148) rfl fun a hE => ?_
 refine spg hE rfl rfl rfl rfl hd313 (r_bin hE rfl rfl b_lss) rfl fun a hE => ?_
 refine sp hE (r_pickF hE rfl hd313 rfl) rfl fun a hE => ?_
 refine knil ?_
 exact ⟨(decide ((r140.2.1.length : Int) < 2)), h, _, (M.le.refl _), hS, hE.cut ⟨rfl, rfl, rfl, rfl, rfl, trivial⟩⟩
 }
 }
 }
 {
 rintro a w ⟨x163, h, m161, hm162, hS, hE⟩
 unfold block_read_j2 at h
 refine kif hE rfl (fun hd165 => ?_) (fun hd165 => ?_)
 {
 have h := ite_T hd165 h
 refine kseq (kreg ?_)
 refine st hE (st_build (m := m161) (k := kBlock_Info) (x0 := Block_Info.zero) (xx := (⟨0, 0, AV.zero, AV.zero, 0, 0⟩ : Block_Info)) (pl := [(0, 1), (1, 1), (2, 4), (6, 4), (10, 1), (11, 1)]) (pv := []) hE rfl Try.underlying62 rfl Try.zeroValue62 zr62 rfl .nil) rfl ?_
 rintro v167 a _ ⟨rfl, hv166⟩ hE
 refine st0 hE (st_storeF hE hS ty62 StF_self rfl rfl hv166 (i := 1) rfl (zr62 _)) ?_
 rintro _ w ⟨cs168, hc169, hS⟩ hE
 refine qa hE rfl rfl fun a hE => ?_
 refine qa hE rfl rfl fun a hE => ?_
 refine knil (kret ?_)
 obtain rfl := oi h
 try dsimp only
 refine Fin.mk hE (rs := [.cell 2 62, .tmp 3, .tmp 4]) rfl (ResL.cell hE hS ty62 rfl (i := 1) rfl (R_whole hc169) (ResL.tmp hE rfl (ResL.tmp hE rfl ResL.nil))) ?_
 exact ⟨_, (M.le.trans hm6 (M.le.trans hm95 (M.le.trans hm121 (M.le.trans hm143 hm162)))), (hS.dropL 2), _, _, _, rfl, (RV_of_R (R_whole hc169)), RV_nil, RV_of_bool⟩
 }
 {
 have h := ite_F hd165 h
 refine kskip (kseq ?_)
 obtain ⟨x173, hx174, h⟩ := ob h
 obtain ⟨x178, hx179, h⟩ := ob h
 refine kchain (k := 9) (m := m161) (es := []) (Φ := (fun i m ws v => match i with | 0 => v = v1_145 | 1 => PR (kInt .u8) m v x173 | 2 => v = (.int .u8 x173) ∧ inR .u8 x173 | 3 => v = (.int .i64 (IntKind.i64.wrap x173)) ∧ inR .i64 (IntKind.i64.wrap x173) | 4 => v = (.int .i64 (iShl .i64 (IntKind.i64.wrap x173) 8)) ∧ inR .i64 (iShl .i64 (IntKind.i64.wrap x173) 8) | 5 => v = v1_145 | 6 => PR (kInt .u8) m v x178 | 7 => v = (.int .u8 x178) ∧ inR .u8 x178 | 8 => v = (.int .i64 (IntKind.i64.wrap x178)) ∧ inR .i64 (IntKind.i64.wrap x178) | _ => True)) (Q := (fun c m ws L' TL' => match c with | 0 => (b33, cs156) :: (b1, zc62) :: L = L' ∧ TL = TL' | _ => False)) (cs := [⟨0, 0, false, [(8, v1_145)]⟩, ⟨0, 0, false, []⟩, ⟨0, 0, false, []⟩, ⟨0, 0, false, []⟩, ⟨0, 0, false, []⟩, ⟨0, 0, false, [(8, v1_145)]⟩, ⟨0, 0, false, []⟩, ⟨0, 0, false, []⟩, ⟨0, 0, false, []⟩]) mixed hE hS ⟨rfl, rfl⟩ rfl rfl ⟨⟨rfl, trivial⟩, trivial, trivial, trivial, trivial, ⟨rfl, trivial⟩, trivial, trivial, trivial, trivial⟩ (by kernel_rfl) ?_ ?_ ?_ ?_
 {
 intro i m_ m2_ ws v hm_ hp_
 match i, hp_ with
 | 0, hp_ => exact hp_
 | 1, hp_ => exact PR.mono hp_ hm_
 | 2, hp_ => exact hp_
 | 3, hp_ => exact hp_
 | 4, hp_ => exact hp_
 | 5, hp_ => exact hp_
 | 6, hp_ => exact PR.mono hp_ hm_
 | 7, hp_ => exact hp_
 | 8, hp_ => exact hp_
 | _ + 9, hp_ => exact trivial
 }
 {
 intro c m_ m2_ ws L_ T_ hm_ hq_
 match c, hq_ with
 | 0, ⟨e1_, e2_⟩ => exact ⟨e1_, e2_⟩
 | _ + 1, hq_ => exact hq_.elim
 }
 {
 refine ⟨?_, ?_, ?_, ?_, ?_, ?_, ?_, ?_, ?_, trivial⟩
 {
 refine cplain fun pre_ post_ L_ T_ m' a' w' hl' hp' hm' hq' hS' hE' hT' => ?_
 obtain rfl := len0 hl'
 refine Step.imp (Run1.pure (r_move hE' rfl)) ?_
 rintro _ _ ⟨rfl, rfl⟩
 exact ⟨_, M.le.refl _, hS', rfl⟩
 }
 {
 refine cplain fun pre_ post_ L_ T_ m' a' w' hl' hp' hm' hq' hS' hE' hT' => ?_
 obtain rfl := len0 hl'
 obtain ⟨v184, e185, q186⟩ : ∃ v, a'.tmps.getD 81 undef = v ∧ (v = v1_145) := ⟨_, rfl, hT' 0 (by decide) 81 rfl⟩
 have hE := hE'.add (e185.trans q186)
 refine Step.imp (st_index (k := (kInt .u8)) hE rfl rfl Try.underlying37 Try.sizeOf5 (hv1_148.mono (M.le.trans hm162 hm')) hx174) ?_
 rintro v187 _ ⟨rfl, hp175⟩
 exact ⟨_, M.le.refl _, hS', hp175⟩
 }
 {
 refine cplain fun pre_ post_ L_ T_ m' a' w' hl' hp' hm' hq' hS' hE' hT' => ?_
 obtain rfl := len0 hl'
 obtain ⟨v188, e189, q190⟩ : ∃ v, a'.tmps.getD 82 undef = v ∧ (PR (kInt .u8) m' v x173) := ⟨_, rfl, hT' 1 (by decide) 82 rfl⟩
 have hE := hE'.add (e189)
 refine Step.imp (st_loadM hE hS' ty5 rfl q190) ?_
 rintro v191 _ ⟨rfl, hv176⟩
 obtain ⟨rfl, hr192⟩ := RV_int hv176
 exact ⟨_, M.le.refl _, hS', ⟨rfl, hr192⟩⟩
 }
 {
 refine cplain fun pre_ post_ L_ T_ m' a' w' hl' hp' hm' hq' hS' hE' hT' => ?_
 obtain rfl := len0 hl'
 obtain ⟨v193, e194, q195⟩ : ∃ v, a'.tmps.getD 83 undef = v ∧ (v = (.int .u8 x173) ∧ inR .u8 x173) := ⟨_, rfl, hT' 2 (by decide) 83 rfl⟩
 obtain ⟨q195, hr196⟩ := q195
 have hE := hE'.add (e194.trans q195)
 refine Step.imp (Run1.pure (r_conv hE rfl Try.underlying5 Try.underlying3 rfl)) ?_
 rintro _ _ ⟨rfl, rfl⟩
 exact ⟨_, M.le.refl _, hS', ⟨rfl, (inR_wrap _ _)⟩⟩
 }
 {
 refine cplain fun pre_ post_ L_ T_ m' a' w' hl' hp' hm' hq' hS' hE' hT' => ?_
 obtain rfl := len0 hl'
 obtain ⟨v198, e199, q200⟩ : ∃ v, a'.tmps.getD 84 undef = v ∧ (v = (.int .i64 (IntKind.i64.wrap x173)) ∧ inR .i64 (IntKind.i64.wrap x173)) := ⟨_, rfl, hT' 3 (by decide) 84 rfl⟩
 obtain ⟨q200, hr201⟩ := q200
 have hE := hE'.add (e199.trans q200)
 refine Step.imp (Run1.pure (r_bin hE rfl rfl (b_shl rfl (by decide)))) ?_
 rintro _ _ ⟨rfl, rfl⟩
 exact ⟨_, M.le.refl _, hS', ⟨rfl, (inR_shl _ _ _)⟩⟩
 }
 {
 refine cplain fun pre_ post_ L_ T_ m' a' w' hl' hp' hm' hq' hS' hE' hT' => ?_
 obtain rfl := len0 hl'
 refine Step.imp (Run1.pure (r_move hE' rfl)) ?_
 rintro _ _ ⟨rfl, rfl⟩
 exact ⟨_, M.le.refl _, hS', rfl⟩
 }
 {
 refine cplain fun pre_ post_ L_ T_ m' a' w' hl' hp' hm' hq' hS' hE' hT' => ?_
 obtain rfl := len0 hl'
 obtain ⟨v204, e205, q206⟩ : ∃ v, a'.tmps.getD 86 undef = v ∧ (v = v1_145) := ⟨_, rfl, hT' 5 (by decide) 86 rfl⟩
 have hE := hE'.add (e205.trans q206)
 refine Step.imp (st_index (k := (kInt .u8)) hE rfl rfl Try.underlying37 Try.sizeOf5 (hv1_148.mono (M.le.trans hm162 hm')) hx179) ?_
 rintro v207 _ ⟨rfl, hp180⟩
 exact ⟨_, M.le.refl _, hS', hp180⟩
 }
 {
 refine cplain fun pre_ post_ L_ T_ m' a' w' hl' hp' hm' hq' hS' hE' hT' => ?_
 obtain rfl := len0 hl'
 obtain ⟨v208, e209, q210⟩ : ∃ v, a'.tmps.getD 87 undef = v ∧ (PR (kInt .u8) m' v x178) := ⟨_, rfl, hT' 6 (by decide) 87 rfl⟩
 have hE := hE'.add (e209)
 refine Step.imp (st_loadM hE hS' ty5 rfl q210) ?_
 rintro v211 _ ⟨rfl, hv181⟩
 obtain ⟨rfl, hr212⟩ := RV_int hv181
 exact ⟨_, M.le.refl _, hS', ⟨rfl, hr212⟩⟩
 }
 {
 refine cplain fun pre_ post_ L_ T_ m' a' w' hl' hp' hm' hq' hS' hE' hT' => ?_
 obtain rfl := len0 hl'
 obtain ⟨v213, e214, q215⟩ : ∃ v, a'.tmps.getD 88 undef = v ∧ (v = (.int .u8 x178) ∧ inR .u8 x178) := ⟨_, rfl, hT' 7 (by decide) 88 rfl⟩
 obtain ⟨q215, hr216⟩ := q215
 have hE := hE'.add (e214.trans q215)
 refine Step.imp (Run1.pure (r_conv hE rfl Try.underlying5 Try.underlying3 rfl)) ?_
 rintro _ _ ⟨rfl, rfl⟩
 exact ⟨_, M.le.refl _, hS', ⟨rfl, (inR_wrap _ _)⟩⟩
 }
 }
 {
 intro ws_ L_ T_ m218 a w hl219 hm220 hq221 hS hd222 hn223 ho224 hT225
 obtain rfl := len0 hl219
 obtain ⟨rfl, rfl⟩ := hq221
 have hE := EnvD.of (k := 9) (l' := [(0, v0), (2, (.pointer (some ⟨b1, 0, none⟩))), (5, (.pointer (some ⟨b33, 0, none⟩))), (8, v1_145), (79, (.bool x163))]) hd222 hn223 ho224 ⟨rfl, rfl, rfl, rfl, rfl, trivial⟩ rfl
 obtain ⟨v226, e227, q228⟩ : ∃ v, a.tmps.getD 85 undef = v ∧ (v = (.int .i64 (iShl .i64 (IntKind.i64.wrap x173) 8)) ∧ inR .i64 (iShl .i64 (IntKind.i64.wrap x173) 8)) := ⟨_, rfl, hT225 4 (by decide) 85 rfl⟩
 obtain ⟨q228, hr229⟩ := q228
 have hE := hE.add (e227.trans q228)
 obtain ⟨v230, e231, q232⟩ : ∃ v, a.tmps.getD 89 undef = v ∧ (v = (.int .i64 (IntKind.i64.wrap x178)) ∧ inR .i64 (IntKind.i64.wrap x178)) := ⟨_, rfl, hT225 8 (by decide) 89 rfl⟩
 obtain ⟨q232, hr233⟩ := q232
 have hE := hE.add (e231.trans q232)
 refine sp hE (r_bin hE rfl rfl (b_or rfl)) rfl fun a hE => ?_
 refine qa hE rfl rfl fun a hE => ?_
 refine knil (kseq (kreg ?_))
 refine qm hE rfl rfl fun a hE => ?_
 obtain ⟨x237, hx238, h⟩ := ob h
 refine st hE (st_slice (k := (kInt .u8)) hE rfl Try.underlying37 Try.sizeOf5 (hv1_148.mono (M.le.trans hm162 hm220)) ⟨_, rfl⟩ rfl hx238 (xl := (some (.const (.int .i64 2)))) (xh := none)) rfl ?_
 rintro v240 a _ ⟨rfl, hv239⟩ hE
 refine qa hE rfl rfl fun a hE => ?_
 refine knil (kseq (kseq (kreg ?_)))
 refine qm hE rfl rfl fun a hE => ?_
 refine sp hE (r_lenSl (k := (kInt .u8)) hE rfl rfl Try.underlying37 hv239) rfl fun a hE => ?_
 refine qm hE rfl rfl fun a hE => ?_
 refine sp hE (r_bin hE rfl rfl (b_add rfl)) rfl fun a hE => ?_
 refine sp hE (r_bin hE rfl rfl b_lss) rfl fun a hE => ?_
 refine knil ?_
 refine kif hE rfl (fun hd247 => ?_) (fun hd247 => ?_)
 {
 have h := ite_T hd247 h
 refine kseq (kreg ?_)
 refine st hE (st_build (m := m218) (k := kBlock_Info) (x0 := Block_Info.zero) (xx := (⟨0, 0, AV.zero, AV.zero, 0, 0⟩ : Block_Info)) (pl := [(0, 1), (1, 1), (2, 4), (6, 4), (10, 1), (11, 1)]) (pv := []) hE rfl Try.underlying62 rfl Try.zeroValue62 zr62 rfl .nil) rfl ?_
 rintro v249 a _ ⟨rfl, hv248⟩ hE
 refine st0 hE (st_storeF hE hS ty62 StF_self rfl rfl hv248 (i := 1) rfl (zr62 _)) ?_
 rintro _ w ⟨cs250, hc251, hS⟩ hE
 refine qa hE rfl rfl fun a hE => ?_
 refine qa hE rfl rfl fun a hE => ?_
 refine knil (kret ?_)
 obtain rfl := oi h
 try dsimp only
 refine Fin.mk hE (rs := [.cell 2 62, .tmp 3, .tmp 4]) rfl (ResL.cell hE hS ty62 rfl (i := 1) rfl (R_whole hc251) (ResL.tmp hE rfl (ResL.tmp hE rfl ResL.nil))) ?_
 exact ⟨_, (M.le.trans hm6 (M.le.trans hm95 (M.le.trans hm121 (M.le.trans hm143 (M.le.trans hm162 hm220))))), (hS.dropL 2), _, _, _, rfl, (RV_of_R (R_whole hc251)), RV_nil, RV_of_bool⟩
 }
 {
 have h := ite_F hd247 h
 refine kskip (kseq (kreg ?_))
 refine qm hE rfl rfl fun a hE => ?_
 refine sp hE (r_lenSl (k := (kInt .u8)) hE rfl rfl Try.underlying37 (ha0.mono (M.le.trans hm6 (M.le.trans hm95 (M.le.trans hm121 (M.le.trans hm143 (M.le.trans hm162 hm220))))))) rfl fun a hE => ?_
 refine qm hE rfl rfl fun a hE => ?_
 refine sp hE (r_lenSl (k := (kInt .u8)) hE rfl rfl Try.underlying37 hv239) rfl fun a hE => ?_
 refine sp hE (r_bin hE rfl rfl (b_sub rfl)) rfl fun a hE => ?_
 refine qm hE rfl rfl fun a hE => ?_
 refine sp hE (r_bin hE rfl rfl (b_add rfl)) rfl fun a hE => ?_
 refine sp hE (r_bin hE rfl rfl (b_add rfl)) rfl fun a hE => ?_
 refine sp hE (r_fieldL hE fo62_5 rfl) rfl fun a hE => ?_
 refine st0 hE (st_storeF hE hS ty3 sf62_5 rfl rfl (RV_of_int (inR_wrap _ _)) (i := 0) rfl (kBlock_Info.mono (M.le.trans hm162 hm220) hc157)) ?_
 rintro _ w ⟨cs264, hc265, hS⟩ hE
 refine knil (kseq ?_)
 obtain ⟨x268, hx269, h⟩ := ob h
 refine kchain (k := 5) (m := m218) (es := [4]) (Φ := (fun i m ws v => match i with | 0 => RV kBlock_Info m v ({ { { (⟨IntKind.i64.wrap x17, IntKind.i64.wrap x22, AV.zero, AV.zero, IntKind.i64.wrap x27, 0⟩ : Block_Info) with fMin := r118.1 } with fMax := r140.1 } with fBytes := IntKind.i64.wrap ((IntKind.i64.wrap ((IntKind.i64.wrap ((p0.length : Int) - (x237.length : Int))) + (bOr .i64 (iShl .i64 (IntKind.i64.wrap x173) 8) (IntKind.i64.wrap x178)))) + 4) }) | 1 => v = v240 | 2 => v = (.int .i64 (bOr .i64 (iShl .i64 (IntKind.i64.wrap x173) 8) (IntKind.i64.wrap x178))) ∧ inR .i64 (bOr .i64 (iShl .i64 (IntKind.i64.wrap x173) 8) (IntKind.i64.wrap x178)) | 3 => RV (kSl (kInt .u8)) m v x268 | 4 => True | _ => True)) (Q := (fun c m ws L' TL' => match c with | 0 => (b33, cs264) :: (b1, zc62) :: L = L' ∧ TL = TL' | 1 => (b33, cs264) :: (b1, (wi ws 0).c) :: L = L' ∧ TL = TL' ∧ kBlock_Info.R m (wi ws 0).c ({ { { (⟨IntKind.i64.wrap x17, IntKind.i64.wrap x22, AV.zero, AV.zero, IntKind.i64.wrap x27, 0⟩ : Block_Info) with fMin := r118.1 } with fMax := r140.1 } with fBytes := IntKind.i64.wrap ((IntKind.i64.wrap ((IntKind.i64.wrap ((p0.length : Int) - (x237.length : Int))) + (bOr .i64 (iShl .i64 (IntKind.i64.wrap x173) 8) (IntKind.i64.wrap x178)))) + 4) }) | _ => False)) (cs := [⟨0, 0, false, [(5, (.pointer (some ⟨b33, 0, none⟩)))]⟩, ⟨0, 1, false, [(8, v240)]⟩, ⟨0, 1, false, [(9, (.int .i64 (bOr .i64 (iShl .i64 (IntKind.i64.wrap x173) 8) (IntKind.i64.wrap x178))))]⟩, ⟨0, 1, false, []⟩, ⟨0, 0, true, [(2, (.pointer (some ⟨b1, 0, none⟩)))]⟩]) mixed hE hS ⟨rfl, rfl⟩ rfl rfl ⟨⟨rfl, trivial⟩, ⟨rfl, trivial⟩, ⟨rfl, trivial⟩, trivial, ⟨rfl, trivial⟩, trivial⟩ (by kernel_rfl) ?_ ?_ ?_ ?_
 {
 intro i m_ m2_ ws v hm_ hp_
 match i, hp_ with
 | 0, hp_ => exact RV.mono hp_ hm_
 | 1, hp_ => exact hp_
 | 2, hp_ => exact hp_
 | 3, hp_ => exact RV.mono hp_ hm_
 | 4, hp_ => exact hp_
 | _ + 5, hp_ => exact trivial
 }
 {
 intro c m_ m2_ ws L_ T_ hm_ hq_
 match c, hq_ with
 | 0, ⟨e1_, e2_⟩ => exact ⟨e1_, e2_⟩
 | 1, ⟨e1_, e2_, f0_⟩ => exact ⟨e1_, e2_, (kBlock_Info.mono hm_ f0_)⟩
 | _ + 2, hq_ => exact hq_.elim
 }
 {
 refine ⟨?_, ?_, ?_, ?_, ?_, trivial⟩
 {
 refine cplain fun pre_ post_ L_ T_ m' a' w' hl' hp' hm' hq' hS' hE' hT' => ?_
 obtain rfl := len0 hl'
 obtain rfl := len0 (lenz (a := 0) hp')
 obtain ⟨rfl, rfl⟩ := hq'
 refine Step.imp (st_loadL hE' hS' ty62 rfl (i := 0) rfl (R_whole (kBlock_Info.mono hm' hc265))) ?_
 rintro v274 _ ⟨rfl, hv267⟩
 exact ⟨_, M.le.refl _, hS', hv267⟩
 }
 {
 refine cplain fun pre_ post_ L_ T_ m' a' w' hl' hp' hm' hq' hS' hE' hT' => ?_
 obtain rfl := len0 hl'
 refine Step.imp (Run1.pure (r_move hE' rfl)) ?_
 rintro _ _ ⟨rfl, rfl⟩
 exact ⟨_, M.le.refl _, hS', rfl⟩
 }
 {
 refine cplain fun pre_ post_ L_ T_ m' a' w' hl' hp' hm' hq' hS' hE' hT' => ?_
 obtain rfl := len0 hl'
 refine Step.imp (Run1.pure (r_move hE' rfl)) ?_
 rintro _ _ ⟨rfl, rfl⟩
 exact ⟨_, M.le.refl _, hS', ⟨rfl, (inR_or _ _ _)⟩⟩
 }
 {
 refine cplain fun pre_ post_ L_ T_ m' a' w' hl' hp' hm' hq' hS' hE' hT' => ?_
 obtain rfl := len0 hl'
 obtain ⟨v277, e278, q279⟩ : ∃ v, a'.tmps.getD 109 undef = v ∧ (v = v240) := ⟨_, rfl, hT' 1 (by decide) 109 rfl⟩
 have hE := hE'.add (e278.trans q279)
 obtain ⟨v280, e281, q282⟩ : ∃ v, a'.tmps.getD 110 undef = v ∧ (v = (.int .i64 (bOr .i64 (iShl .i64 (IntKind.i64.wrap x173) 8) (IntKind.i64.wrap x178))) ∧ inR .i64 (bOr .i64 (iShl .i64 (IntKind.i64.wrap x173) 8) (IntKind.i64.wrap x178))) := ⟨_, rfl, hT' 2 (by decide) 110 rfl⟩
 obtain ⟨q282, hr283⟩ := q282
 have hE := hE.add (e281.trans q282)
 refine Step.imp (st_slice (k := (kInt .u8)) hE rfl Try.underlying37 Try.sizeOf5 (hv239.mono hm') rfl ⟨_, rfl⟩ hx269 (xl := none) (xh := (some (.tmp 110)))) ?_
 rintro v284 _ ⟨rfl, hv270⟩
 exact ⟨_, M.le.refl _, hS', hv270⟩
 }
 {
 refine cturn fun pre_ L_ T_ m' a' w' hl' hm' hq' hS' hE' hT' => ?_
 obtain rfl := len0 hl'
 obtain ⟨rfl, rfl⟩ := hq'
 obtain ⟨v285, e286, q287⟩ : ∃ v, a'.tmps.getD 108 undef = v ∧ (RV kBlock_Info m' v ({ { { (⟨IntKind.i64.wrap x17, IntKind.i64.wrap x22, AV.zero, AV.zero, IntKind.i64.wrap x27, 0⟩ : Block_Info) with fMin := r118.1 } with fMax := r140.1 } with fBytes := IntKind.i64.wrap ((IntKind.i64.wrap ((IntKind.i64.wrap ((p0.length : Int) - (x237.length : Int))) + (bOr .i64 (iShl .i64 (IntKind.i64.wrap x173) 8) (IntKind.i64.wrap x178)))) + 4) })) := ⟨_, rfl, hT' 0 (by decide) 108 rfl⟩
 have hE := hE'.add (e286)
 refine Step.imp (st_storeF hE hS' ty62 StF_self rfl rfl q287 (i := 1) rfl (zr62 _)) ?_
 rintro vv273 w ⟨cs271, hc272, hS⟩
 exact ⟨_, ⟨0, undef, cs271, [], []⟩, _, _, M.le.refl _, hS, ⟨rfl, rfl, hc272⟩, trivial⟩
 }
 }
 {
 intro ws_ L_ T_ m288 a w hl289 hm290 hq291 hS hd292 hn293 ho294 hT295
 obtain ⟨⟨_, _, cs271, _, _⟩, rfl⟩ := len1 hl289
 obtain ⟨rfl, rfl, hc296⟩ := hq291
 have hE := EnvD.of (k := 5) (l' := [(0, v0), (2, (.pointer (some ⟨b1, 0, none⟩))), (5, (.pointer (some ⟨b33, 0, none⟩))), (8, v240), (9, (.int .i64 (bOr .i64 (iShl .i64 (IntKind.i64.wrap x173) 8) (IntKind.i64.wrap x178)))), (79, (.bool x163)), (85, (.int .i64 (iShl .i64 (IntKind.i64.wrap x173) 8))), (89, (.int .i64 (IntKind.i64.wrap x178))), (90, (.int .i64 (bOr .i64 (iShl .i64 (IntKind.i64.wrap x173) 8) (IntKind.i64.wrap x178)))), (91, v1_145), (92, v240), (93, v240), (94, (.int .i64 (x237.length : Int))), (95, (.int .i64 (bOr .i64 (iShl .i64 (IntKind.i64.wrap x173) 8) (IntKind.i64.wrap x178)))), (96, (.int .i64 (IntKind.i64.wrap ((bOr .i64 (iShl .i64 (IntKind.i64.wrap x173) 8) (IntKind.i64.wrap x178)) + 4)))), (97, (.bool (decide ((x237.length : Int) < (IntKind.i64.wrap ((bOr .i64 (iShl .i64 (IntKind.i64.wrap x173) 8) (IntKind.i64.wrap x178)) + 4)))))), (99, v0), (100, (.int .i64 (p0.length : Int))), (101, v240), (102, (.int .i64 (x237.length : Int))), (103, (.int .i64 (IntKind.i64.wrap ((p0.length : Int) - (x237.length : Int))))), (104, (.int .i64 (bOr .i64 (iShl .i64 (IntKind.i64.wrap x173) 8) (IntKind.i64.wrap x178)))), (105, (.int .i64 (IntKind.i64.wrap ((IntKind.i64.wrap ((p0.length : Int) - (x237.length : Int))) + (bOr .i64 (iShl .i64 (IntKind.i64.wrap x173) 8) (IntKind.i64.wrap x178)))))), (106, (.int .i64 (IntKind.i64.wrap ((IntKind.i64.wrap ((IntKind.i64.wrap ((p0.length : Int) - (x237.length : Int))) + (bOr .i64 (iShl .i64 (IntKind.i64.wrap x173) 8) (IntKind.i64.wrap x178)))) + 4)))), (107, (.pointer (some ⟨b33, 11, none⟩)))]) hd292 hn293 ho294 ⟨rfl, rfl, rfl, rfl, rfl, rfl, rfl, rfl, rfl, rfl, rfl, rfl, rfl, rfl, rfl, rfl, rfl, rfl, rfl, rfl, rfl, rfl, rfl, rfl, rfl, trivial⟩ rfl
 obtain ⟨v297, e298, q299⟩ : ∃ v, a.tmps.getD 111 undef = v ∧ (RV (kSl (kInt .u8)) m288 v x268) := ⟨_, rfl, hT295 3 (by decide) 111 rfl⟩
 have hE := hE.add (e298)
 refine qa hE rfl rfl fun a hE => ?_
 refine qa hE rfl rfl fun a hE => ?_
 refine knil (kret ?_)
 obtain rfl := oi h
 try dsimp only
 refine Fin.mk hE (rs := [.cell 2 62, .tmp 3, .tmp 4]) rfl (ResL.cell hE hS ty62 rfl (i := 1) rfl (R_whole hc296) (ResL.tmp hE rfl (ResL.tmp hE rfl ResL.nil))) ?_
 exact ⟨_, (M.le.trans hm6 (M.le.trans hm95 (M.le.trans hm121 (M.le.trans hm143 (M.le.trans hm162 (M.le.trans hm220 hm290)))))), (hS.dropL 2), _, _, _, rfl, (RV_of_R (R_whole hc296)), q299, RV_of_bool⟩
 }
 }
 }
 }
 }
 }
 }
 }
theorem c_block_Head {W0 : Bse} {m : M} {w : World} {L : List (Nat × List Value)} {TL : List (Nat × Value)} (hS : S W0 m w (L) (TL)) {v0 : Value} {p0 : (List Int)} (ha0 : RV (kSl (kInt .u8)) m v0 p0) {r : (Block_Info × Int)} (h : block_Head p0 = some r) :
    Calls Try.prog 34 [v0].toArray w (Ret fun v w' => ∃ m', M.le m m' ∧ S W0 m' w' (L) (TL) ∧ ∃ v0_ v1_ : Value, v = .tuple #[v0_, v1_] ∧ RV kBlock_Info m' v0_ r.1 ∧ RV (kInt .i64) m' v1_ r.2) := by
 refine kcall Try.func34 rfl Try.ntmps34 (Nat.le_of_ble_eq_true rfl) fun a hE => ?_
 have hE : Env 17 a [(0, v0)] := hE
 unfold block_Head at h
 refine kseq (kreg ?_)
 refine st hE (st_alloc hS Try.zeroValue62 rfl (cs := zc62)) rfl ?_
 rintro _ a w ⟨b1, rfl, hS⟩ hE
 refine qa hE rfl rfl fun a hE => ?_
 refine knil (kseq (kreg ?_))
 refine qm hE rfl rfl fun a hE => ?_
 obtain ⟨r5, hr6, h⟩ := ob h
 refine st hE (st_call (vs := [v0]) hE rfl Try.call69 (c_block_read (hS := hS) ha0 hr6)) rfl ?_
 rintro _ a w ⟨m7, hm8, hS, v0_9, v1_10, v2_11, rfl, hv0_12, hv1_13, hv2_14⟩ hE
 obtain rfl := RV_bool hv2_14
 refine qm hE rfl rfl fun a hE => ?_
 refine sp hE (r_extract hE rfl rfl) rfl fun a hE => ?_
 refine sp hE (r_extract hE rfl rfl) rfl fun a hE => ?_
 refine sp hE (r_extract hE rfl rfl) rfl fun a hE => ?_
 refine st hE (st_alloc hS Try.zeroValue62 rfl (cs := zc62)) rfl ?_
 rintro _ a w ⟨b20, rfl, hS⟩ hE
 refine st0 hE (st_storeF hE hS ty62 StF_self rfl rfl hv0_12 (i := 0) rfl (zr62 _)) ?_
 rintro _ w ⟨cs22, hc23, hS⟩ hE
 refine qa hE rfl rfl fun a hE => ?_
 refine qa hE rfl rfl fun a hE => ?_
 refine knil (kseq (kseq (kreg ?_)))
 refine qm hE rfl rfl fun a hE => ?_
 refine sp hE (r_not hE rfl) rfl fun a hE => ?_
 refine knil ?_
 refine kif hE rfl (fun hd29 => ?_) (fun hd29 => ?_)
 {
 have h := ite_T hd29 h
 refine kseq (kreg ?_)
 refine st hE (st_build (m := m7) (k := kBlock_Info) (x0 := Block_Info.zero) (xx := (⟨0, 0, AV.zero, AV.zero, 0, 0⟩ : Block_Info)) (pl := [(0, 1), (1, 1), (2, 4), (6, 4), (10, 1), (11, 1)]) (pv := []) hE rfl Try.underlying62 rfl Try.zeroValue62 zr62 rfl .nil) rfl ?_
 rintro v31 a _ ⟨rfl, hv30⟩ hE
 refine st0 hE (st_storeF hE hS ty62 StF_self rfl rfl hv30 (i := 1) rfl (zr62 _)) ?_
 rintro _ w ⟨cs32, hc33, hS⟩ hE
 refine qa hE rfl rfl fun a hE => ?_
 refine knil (kret ?_)
 obtain rfl := oi h
 try dsimp only
 refine Fin.mk hE (rs := [.cell 2 62, .tmp 3]) rfl (ResL.cell hE hS ty62 rfl (i := 1) rfl (R_whole hc33) (ResL.tmp hE rfl ResL.nil)) ?_
 exact ⟨_, hm8, (hS.dropL 2), _, _, rfl, (RV_of_R (R_whole hc33)), (RV_of_int (show inR .i64 70 from inR_lit (by decide)))⟩
 }
 {
 have h := ite_F hd29 h
 refine kskip (kseq (kreg ?_))
 refine st hE (st_loadL hE hS ty62 rfl (i := 0) rfl (R_whole hc23)) rfl ?_
 rintro v37 a _ ⟨rfl, hv36⟩ hE
 refine st0 hE (st_storeF hE hS ty62 StF_self rfl rfl hv36 (i := 1) rfl (zr62 _)) ?_
 rintro _ w ⟨cs38, hc39, hS⟩ hE
 refine qa hE rfl rfl fun a hE => ?_
 refine knil (kret ?_)
 obtain rfl := oi h
 try dsimp only
 refine Fin.mk hE (rs := [.cell 2 62, .tmp 3]) rfl (ResL.cell hE hS ty62 rfl (i := 1) rfl (R_whole hc39) (ResL.tmp hE rfl ResL.nil)) ?_
 exact ⟨_, hm8, (hS.dropL 2), _, _, rfl, (RV_of_R (R_whole hc39)), (RV_of_int (show inR .i64 0 from inR_lit (by decide)))⟩
 }
theorem c_slices_Clone_byte {W0 : Bse} {m : M} {w : World} {L : List (Nat × List Value)} {TL : List (Nat × Value)} (hS : S W0 m w (L) (TL)) {v0 : Value} {p0 : (List Int)} (ha0 : RV (kSl (kInt .u8)) m v0 p0) {r : (List Int)} (h : slices_Clone_byte p0 = some r) :
    Calls Try.prog 70 [v0].toArray w (Ret fun v w' => ∃ m', M.le m m' ∧ S W0 m' w' (L) ((1, v) :: TL) ∧ RV (kSl (kInt .u8)) m' v r) := by
 refine kcall Try.func70 rfl Try.ntmps70 (Nat.le_of_ble_eq_true rfl) fun a hE => ?_
 have hE : Env 8 a [(0, v0)] := hE
 unfold slices_Clone_byte at h
 refine kseq (kreg ?_)
 refine qa hE rfl rfl fun a hE => ?_
 refine knil (kseq (kseq (kreg ?_)))
 refine qm hE rfl rfl fun a hE => ?_
 refine st hE (st_isnil (k := (kInt .u8)) hE rfl rfl ha0 Try.underlying37) rfl ?_
 rintro v5 a _ ⟨rfl, bn3, rfl, hb4⟩ hE
 refine knil ?_
 refine kif hE rfl (fun hd6 => ?_) (fun hd6 => ?_)
 {
 have hx_ := hb4 hd6
 have h : some ([]) = some r := by rw [hx_] at h; exact h
 refine kseq (kreg ?_)
 refine qa hE rfl rfl fun a hE => ?_
 refine knil (kret ?_)
 obtain rfl := oi h
 try dsimp only
 refine Fin.mk hE (rs := [.tmp 2]) rfl (ResL.tmp hE rfl ResL.nil) ?_
 exact ⟨_, (M.le.refl _), ((hS.dropT 0).tail0 1), RV_nil⟩
 }
 {
 refine kskip (kseq (kreg ?_))
 refine st hE (st_lit (k := (kInt .u8)) (xs := []) (vs := []) hE hS rfl Try.underlying37 Try.sizeOf5 Try.zeroValue5 trivial rfl (by decide)) rfl ?_
 rintro v11 a w ⟨m9, hm10, hS, hv8⟩ hE
 refine qm hE rfl rfl fun a hE => ?_
 obtain ⟨z13, hz14, h⟩ := ob h
 refine st hE (st_app (k := (kInt .u8)) (N := 140737488355328) hE hS rfl rfl Try.underlying37 Try.underlying37 el5 (i := 0) rfl hv8 (ha0.mono hm10) hz14 rfl rfl) rfl ?_
 rintro v18 a w ⟨m16, hm17, hS, hv15⟩ hE
 refine qa hE rfl rfl fun a hE => ?_
 refine knil (kret ?_)
 obtain rfl := oi h
 try dsimp only
 refine Fin.mk hE (rs := [.tmp 2]) rfl (ResL.tmp hE rfl ResL.nil) ?_
 exact ⟨_, (M.le.trans hm10 hm17), (hS.pickT 1 [0] rfl rfl rfl), hv15⟩
 }
theorem c_block_Read {W0 : Bse} {m : M} {w : World} {L : List (Nat × List Value)} {TL : List (Nat × Value)} (hS : S W0 m w (L) (TL)) {v0 : Value} {p0 : (List Int)} (ha0 : RV (kSl (kInt .u8)) m v0 p0) {r : ((List AV) × Int × Int)} (h : block_Read p0 = some r) :
    Calls Try.prog 33 [v0].toArray w (Ret fun v w' => ∃ m', M.le m m' ∧ S W0 m' w' (L) (TL) ∧ ∃ v0_ v1_ v2_ : Value, v = .tuple #[v0_, v1_, v2_] ∧ RV (kSl kAV) m' v0_ r.1 ∧ RV (kInt .i64) m' v1_ r.2.1 ∧ RV (kInt .i64) m' v2_ r.2.2) := by
 refine kcall Try.func33 rfl Try.ntmps33 (Nat.le_of_ble_eq_true rfl) fun a hE => ?_
 have hE : Env 71 a [(0, v0)] := hE
 unfold block_Read at h
 refine kseq (kreg ?_)
 refine qa hE rfl rfl fun a hE => ?_
 refine qa hE rfl rfl fun a hE => ?_
 refine qa hE rfl rfl fun a hE => ?_
 refine knil (kseq (kreg ?_))
 refine qm hE rfl rfl fun a hE => ?_
 obtain ⟨r5, hr6, h⟩ := ob h
 refine st hE (st_call (vs := [v0]) hE rfl Try.call69 (c_block_read (hS := hS) ha0 hr6)) rfl ?_
 rintro _ a w ⟨m7, hm8, hS, v0_9, v1_10, v2_11, rfl, hv0_12, hv1_13, hv2_14⟩ hE
 obtain rfl := RV_bool hv2_14
 refine qm hE rfl rfl fun a hE => ?_
 refine sp hE (r_extract hE rfl rfl) rfl fun a hE => ?_
 refine sp hE (r_extract hE rfl rfl) rfl fun a hE => ?_
 refine sp hE (r_extract hE rfl rfl) rfl fun a hE => ?_
 refine st hE (st_alloc hS Try.zeroValue62 rfl (cs := zc62)) rfl ?_
 rintro _ a w ⟨b20, rfl, hS⟩ hE
 refine st0 hE (st_storeF hE hS ty62 StF_self rfl rfl hv0_12 (i := 0) rfl (zr62 _)) ?_
 rintro _ w ⟨cs22, hc23, hS⟩ hE
 refine qa hE rfl rfl fun a hE => ?_
 refine qa hE rfl rfl fun a hE => ?_
 refine knil (kseq (kseq (kreg ?_)))
 refine qm hE rfl rfl fun a hE => ?_
 refine sp hE (r_not hE rfl) rfl fun a hE => ?_
 refine knil ?_
 refine kif hE rfl (fun hd29 => ?_) (fun hd29 => ?_)
 {
 have h := ite_T hd29 h
 refine kseq (kreg ?_)
 refine qa hE rfl rfl fun a hE => ?_
 refine qa hE rfl rfl fun a hE => ?_
 refine qa hE rfl rfl fun a hE => ?_
 refine knil (kret ?_)
 obtain rfl := oi h
 try dsimp only
 refine Fin.mk hE (rs := [.tmp 2, .tmp 3, .tmp 4]) rfl (ResL.tmp hE rfl (ResL.tmp hE rfl (ResL.tmp hE rfl ResL.nil))) ?_
 exact ⟨_, hm8, (hS.dropL 1), _, _, _, rfl, RV_nil, (RV_of_int (show inR .i64 0 from inR_lit (by decide))), (RV_of_int (show inR .i64 70 from inR_lit (by decide)))⟩
 }
 {
 have h := ite_F hd29 h
 refine kskip (kseq (kreg ?_))
 refine qm hE rfl rfl fun a hE => ?_
 refine sp hE (r_fieldL hE fo62_5 rfl) rfl fun a hE => ?_
 refine st hE (st_loadL hE hS ty3 rfl (i := 0) rfl (fl62_5.R_drop (R_whole hc23))) rfl ?_
 rintro v36 a _ ⟨rfl, hv35⟩ hE
 obtain ⟨rfl, hr37⟩ := RV_int hv35
 refine sp hE (r_bin hE rfl rfl (b_sub rfl)) rfl fun a hE => ?_
 obtain ⟨x39, hx40, h⟩ := ob h
 refine st hE (st_slice (k := (kInt .u8)) hE rfl Try.underlying37 Try.sizeOf5 (ha0.mono hm8) rfl ⟨_, rfl⟩ hx40 (xl := none) (xh := (some (.tmp 23)))) rfl ?_
 rintro v42 a _ ⟨rfl, hv41⟩ hE
 obtain ⟨r43, hr44, h⟩ := ob h
 refine st hE (st_call (vs := [v42]) hE rfl Try.call70 (c_slices_Clone_byte (hS := hS) hv41 hr44)) rfl ?_
 rintro v48 a w ⟨m45, hm46, hS, hv47⟩ hE
 refine qa hE rfl rfl fun a hE => ?_
 refine knil (kseq (kseq ?_))
 obtain ⟨r50, hr51, h⟩ := ob h
 obtain ⟨x58, hx59, h⟩ := ob h
 refine kchain (k := 6) (m := m45) (es := [1]) (Φ := (fun i m ws v => match i with | 0 => v = v48 | 1 => v = (wi ws 0).v ∧ RV (kSl (kInt .u8)) m v r50 | 2 => v = v0 | 3 => v = (.pointer (some ⟨b20, 11, none⟩)) | 4 => v = (.int .i64 r5.1.fBytes) ∧ inR .i64 r5.1.fBytes | 5 => RV (kSl (kInt .u8)) m v x58 | _ => True)) (Q := (fun c m ws L' TL' => match c with | 0 => (b20, cs22) :: L = L' ∧ (1, v48) :: TL = TL' | 1 => (b20, cs22) :: L = L' ∧ (1, (wi ws 0).v) :: TL = TL' | _ => False)) (cs := [⟨0, 0, false, [(8, v48)]⟩, ⟨0, 0, true, []⟩, ⟨0, 1, false, [(0, v0)]⟩, ⟨0, 1, false, [(5, (.pointer (some ⟨b20, 0, none⟩)))]⟩, ⟨0, 1, false, []⟩, ⟨0, 1, false, []⟩]) mixed hE hS ⟨rfl, rfl⟩ rfl rfl ⟨⟨rfl, trivial⟩, trivial, ⟨rfl, trivial⟩, ⟨rfl, trivial⟩, trivial, trivial, trivial⟩ (by kernel_rfl) ?_ ?_ ?_ ?_
 {
 intro i m_ m2_ ws v hm_ hp_
 match i, hp_ with
 | 0, hp_ => exact hp_
 | 1, hp_ => exact ⟨hp_.1, RV.mono hp_.2 hm_⟩
 | 2, hp_ => exact hp_
 | 3, hp_ => exact hp_
 | 4, hp_ => exact hp_
 | 5, hp_ => exact RV.mono hp_ hm_
 | _ + 6, hp_ => exact trivial
 }
 {
 intro c m_ m2_ ws L_ T_ hm_ hq_
 match c, hq_ with
 | 0, ⟨e1_, e2_⟩ => exact ⟨e1_, e2_⟩
 | 1, ⟨e1_, e2_⟩ => exact ⟨e1_, e2_⟩
 | _ + 2, hq_ => exact hq_.elim
 }
 {
 refine ⟨?_, ?_, ?_, ?_, ?_, ?_, trivial⟩
 {
 refine cplain fun pre_ post_ L_ T_ m' a' w' hl' hp' hm' hq' hS' hE' hT' => ?_
 obtain rfl := len0 hl'
 refine Step.imp (Run1.pure (r_move hE' rfl)) ?_
 rintro _ _ ⟨rfl, rfl⟩
 exact ⟨_, M.le.refl _, hS', rfl⟩
 }
 {
 refine cturn fun pre_ L_ T_ m' a' w' hl' hm' hq' hS' hE' hT' => ?_
 obtain rfl := len0 hl'
 obtain ⟨rfl, rfl⟩ := hq'
 obtain ⟨v62, e63, q64⟩ : ∃ v, a'.tmps.getD 26 undef = v ∧ (v = v48) := ⟨_, rfl, hT' 0 (by decide) 26 rfl⟩
 have hE := hE'.add (e63.trans q64)
 refine Step.imp (st_call (vs := [v48]) hE rfl Try.call68 (c_block_sealed (hS := hS') (hv47.mono hm') hr51)) ?_
 rintro vv55 w ⟨m52, hm53, hS, hv54⟩
 exact ⟨_, ⟨0, vv55, [], [], []⟩, _, _, hm53, hS, ⟨rfl, rfl⟩, ⟨rfl, hv54⟩⟩
 }
 {
 refine cplain fun pre_ post_ L_ T_ m' a' w' hl' hp' hm' hq' hS' hE' hT' => ?_
 obtain rfl := len0 hl'
 refine Step.imp (Run1.pure (r_move hE' rfl)) ?_
 rintro _ _ ⟨rfl, rfl⟩
 exact ⟨_, M.le.refl _, hS', rfl⟩
 }
 {
 refine cplain fun pre_ post_ L_ T_ m' a' w' hl' hp' hm' hq' hS' hE' hT' => ?_
 obtain rfl := len0 hl'
 refine Step.imp (Run1.pure (r_fieldL hE' fo62_5 rfl)) ?_
 rintro _ _ ⟨rfl, rfl⟩
 exact ⟨_, M.le.refl _, hS', rfl⟩
 }
 {
 refine cplain fun pre_ post_ L_ T_ m' a' w' hl' hp' hm' hq' hS' hE' hT' => ?_
 obtain rfl := len0 hl'
 rcases lenle (a := 0) (n := 0) hp' with h0_ | h0_
 {
 obtain rfl := len0 h0_
 obtain ⟨rfl, rfl⟩ := hq'
 obtain ⟨v67, e68, q69⟩ : ∃ v, a'.tmps.getD 29 undef = v ∧ (v = (.pointer (some ⟨b20, 11, none⟩))) := ⟨_, rfl, hT' 3 (by decide) 29 rfl⟩
 have hE := hE'.add (e68.trans q69)
 refine Step.imp (st_loadL hE hS' ty3 rfl (i := 0) rfl (fl62_5.R_drop (R_whole (kBlock_Info.mono (M.le.trans hm46 hm') hc23)))) ?_
 rintro v70 _ ⟨rfl, hv56⟩
 obtain ⟨rfl, hr71⟩ := RV_int hv56
 exact ⟨_, M.le.refl _, hS', ⟨rfl, hr71⟩⟩
 }
 {
 obtain ⟨⟨_, vv55, _, _, _⟩, post_', rfl, hp1_⟩ := h0_
 obtain rfl := len0 (lenz (a := 0) hp1_)
 obtain ⟨rfl, rfl⟩ := hq'
 obtain ⟨v72, e73, q74⟩ : ∃ v, a'.tmps.getD 29 undef = v ∧ (v = (.pointer (some ⟨b20, 11, none⟩))) := ⟨_, rfl, hT' 3 (by decide) 29 rfl⟩
 have hE := hE'.add (e73.trans q74)
 refine Step.imp (st_loadL hE hS' ty3 rfl (i := 0) rfl (fl62_5.R_drop (R_whole (kBlock_Info.mono (M.le.trans hm46 hm') hc23)))) ?_
 rintro v75 _ ⟨rfl, hv56⟩
 obtain ⟨rfl, hr76⟩ := RV_int hv56
 exact ⟨_, M.le.refl _, hS', ⟨rfl, hr76⟩⟩
 }
 }
 {
 refine cplain fun pre_ post_ L_ T_ m' a' w' hl' hp' hm' hq' hS' hE' hT' => ?_
 obtain rfl := len0 hl'
 obtain ⟨v77, e78, q79⟩ : ∃ v, a'.tmps.getD 28 undef = v ∧ (v = v0) := ⟨_, rfl, hT' 2 (by decide) 28 rfl⟩
 have hE := hE'.add (e78.trans q79)
 obtain ⟨v80, e81, q82⟩ : ∃ v, a'.tmps.getD 30 undef = v ∧ (v = (.int .i64 r5.1.fBytes) ∧ inR .i64 r5.1.fBytes) := ⟨_, rfl, hT' 4 (by decide) 30 rfl⟩
 obtain ⟨q82, hr83⟩ := q82
 have hE := hE.add (e81.trans q82)
 refine Step.imp (st_slice (k := (kInt .u8)) hE rfl Try.underlying37 Try.sizeOf5 (ha0.mono (M.le.trans hm8 (M.le.trans hm46 hm'))) rfl ⟨_, rfl⟩ hx59 (xl := none) (xh := (some (.tmp 30)))) ?_
 rintro v84 _ ⟨rfl, hv60⟩
 exact ⟨_, M.le.refl _, hS', hv60⟩
 }
 }
 {
 intro ws_ L_ T_ m85 a w hl86 hm87 hq88 hS hd89 hn90 ho91 hT92
 obtain ⟨⟨_, vv55, _, _, _⟩, rfl⟩ := len1 hl86
 obtain ⟨rfl, rfl⟩ := hq88
 have hE := EnvD.of (k := 6) (l' := [(0, v0), (2, (.slice none 0 0)), (3, (.int .i64 0)), (4, (.int .i64 0)), (5, (.pointer (some ⟨b20, 0, none⟩))), (6, v1_10), (7, (.bool r5.2.2)), (8, v48), (12, (.tuple #[v0_9, v1_10, (.bool r5.2.2)])), (13, v0), (14, (.tuple #[v0_9, v1_10, (.bool r5.2.2)])), (15, v0_9), (16, v1_10), (17, (.bool r5.2.2)), (18, (.bool r5.2.2)), (19, (.bool (!r5.2.2))), (20, v0), (21, (.pointer (some ⟨b20, 11, none⟩))), (22, (.int .i64 r5.1.fBytes)), (23, (.int .i64 (IntKind.i64.wrap (r5.1.fBytes - 4)))), (24, v42), (25, v48)]) hd89 hn90 ho91 ⟨rfl, rfl, rfl, rfl, rfl, rfl, rfl, rfl, rfl, rfl, rfl, rfl, rfl, rfl, rfl, rfl, rfl, rfl, rfl, rfl, rfl, rfl, trivial⟩ rfl
 obtain ⟨v93, e94, q95⟩ : ∃ v, a.tmps.getD 27 undef = v ∧ (v = vv55 ∧ RV (kSl (kInt .u8)) m85 v r50) := ⟨_, rfl, hT92 1 (by decide) 27 rfl⟩
 obtain ⟨q96, q95⟩ := q95
 rw [q96] at q95
 have hE := hE.add (e94.trans q96)
 obtain ⟨v97, e98, q99⟩ : ∃ v, a.tmps.getD 31 undef = v ∧ (RV (kSl (kInt .u8)) m85 v x58) := ⟨_, rfl, hT92 5 (by decide) 31 rfl⟩
 have hE := hE.add (e98)
 obtain ⟨r100, hr101, h⟩ := ob h
 refine st hE (st_call (vs := [vv55, v97]) hE rfl Try.call46 (c_slices_Equal_byte (hS := hS) q95 q99 hr101)) rfl ?_
 rintro v105 a w ⟨m102, hm103, hS, hv104⟩ hE
 obtain rfl := RV_bool hv104
 refine sp hE (r_not hE rfl) rfl fun a hE => ?_
 refine knil ?_
 refine kif hE rfl (fun hd107 => ?_) (fun hd107 => ?_)
 {
 have h := ite_T hd107 h
 refine kseq (kreg ?_)
 refine qa hE rfl rfl fun a hE => ?_
 refine qa hE rfl rfl fun a hE => ?_
 refine qa hE rfl rfl fun a hE => ?_
 refine knil (kret ?_)
 obtain rfl := oi h
 try dsimp only
 refine Fin.mk hE (rs := [.tmp 2, .tmp 3, .tmp 4]) rfl (ResL.tmp hE rfl (ResL.tmp hE rfl (ResL.tmp hE rfl ResL.nil))) ?_
 exact ⟨_, (M.le.trans hm8 (M.le.trans hm46 (M.le.trans hm87 hm103))), ((hS.dropL 1).dropT 1), _, _, _, rfl, RV_nil, (RV_of_int (show inR .i64 0 from inR_lit (by decide))), (RV_of_int (show inR .i64 71 from inR_lit (by decide)))⟩
 }
 {
 have h := ite_F hd107 h
 refine kskip (kseq (kreg ?_))
 refine sp hE (r_fieldL hE fo62_0 rfl) rfl fun a hE => ?_
 refine st hE (st_loadL hE hS ty3 rfl (i := 0) rfl (fl62_0.R_drop (R_whole (kBlock_Info.mono (M.le.trans hm46 (M.le.trans hm87 hm103)) hc23)))) rfl ?_
 rintro v113 a _ ⟨rfl, hv112⟩ hE
 obtain ⟨rfl, hr114⟩ := RV_int hv112
 refine qm hE rfl rfl fun a hE => ?_
 refine sp hE (r_fieldL hE fo62_1 rfl) rfl fun a hE => ?_
 refine st hE (st_loadL hE hS ty3 rfl (i := 0) rfl (fl62_1.R_drop (R_whole (kBlock_Info.mono (M.le.trans hm46 (M.le.trans hm87 hm103)) hc23)))) rfl ?_
 rintro v118 a _ ⟨rfl, hv117⟩ hE
 obtain ⟨rfl, hr119⟩ := RV_int hv117
 obtain ⟨r120, hr121, h⟩ := ob h
 refine st hE (st_call (vs := [(.int .i64 r5.1.fKind), v1_10, (.int .i64 r5.1.fMany)]) hE rfl Try.call20 (c_encode_Decode (hS := hS) hr114 (hv1_13.mono (M.le.trans hm46 (M.le.trans hm87 hm103))) hr119 hr121)) rfl ?_
 rintro _ a w ⟨m122, hm123, hS, v0_124, v1_125, rfl, hv0_126, hv1_127⟩ hE
 obtain ⟨rfl, hr129⟩ := RV_int hv1_127
 refine qm hE rfl rfl fun a hE => ?_
 refine sp hE (r_extract hE rfl rfl) rfl fun a hE => ?_
 refine sp hE (r_extract hE rfl rfl) rfl fun a hE => ?_
 refine qa hE rfl rfl fun a hE => ?_
 refine qa hE rfl rfl fun a hE => ?_
 refine knil (kseq (kseq (kreg ?_)))
 refine qm hE rfl rfl fun a hE => ?_
 refine sp hE (r_bin hE rfl rfl b_neq) rfl fun a hE => ?_
 refine knil ?_
 refine kif hE rfl (fun hd137 => ?_) (fun hd137 => ?_)
 {
 have h := ite_T hd137 h
 refine kseq (kreg ?_)
 refine qa hE rfl rfl fun a hE => ?_
 refine qa hE rfl rfl fun a hE => ?_
 refine qa hE rfl rfl fun a hE => ?_
 refine knil (kret ?_)
 obtain rfl := oi h
 try dsimp only
 refine Fin.mk hE (rs := [.tmp 2, .tmp 3, .tmp 4]) rfl (ResL.tmp hE rfl (ResL.tmp hE rfl (ResL.tmp hE rfl ResL.nil))) ?_
 exact ⟨_, (M.le.trans hm8 (M.le.trans hm46 (M.le.trans hm87 (M.le.trans hm103 hm123)))), ((hS.dropL 1).dropT 1), _, _, _, rfl, RV_nil, (RV_of_int (show inR .i64 0 from inR_lit (by decide))), (RV_of_int (show inR .i64 70 from inR_lit (by decide)))⟩
 }
 {
 have h := ite_F hd137 h
 refine kskip (kseq (kreg ?_))
 refine sp hE (r_fieldL hE fo62_0 rfl) rfl fun a hE => ?_
 refine st hE (st_loadL hE hS ty3 rfl (i := 0) rfl (fl62_0.R_drop (R_whole (kBlock_Info.mono (M.le.trans hm46 (M.le.trans hm87 (M.le.trans hm103 hm123))) hc23)))) rfl ?_
 rintro v143 a _ ⟨rfl, hv142⟩ hE
 obtain ⟨rfl, hr144⟩ := RV_int hv142
 refine qm hE rfl rfl fun a hE => ?_
 obtain ⟨r146, hr147, h⟩ := ob h
 refine st hE (st_call (vs := [(.int .i64 r5.1.fKind), v0_124]) hE rfl Try.call66 (c_block_head (hS := hS) hr144 hv0_126 hr147)) rfl ?_
 rintro v151 a w ⟨m148, hm149, hS, hv150⟩ hE
 refine st hE (st_alloc hS Try.zeroValue62 rfl (cs := zc62)) rfl ?_
 rintro _ a w ⟨b152, rfl, hS⟩ hE
 refine st0 hE (st_storeF hE hS ty62 StF_self rfl rfl hv150 (i := 0) rfl (zr62 _)) ?_
 rintro _ w ⟨cs154, hc155, hS⟩ hE
 refine knil (kseq (kseq ?_))
 refine kcut (fun a w => ∃ x159 : Bool, block_Read_j1 r5 r120 x159 = some r ∧ ∃ m', M.le m148 m' ∧ S W0 m' w ((b152, cs154) :: (b20, cs22) :: L) (TL) ∧ Env 71 a [(5, (.pointer (some ⟨b20, 0, none⟩))), (9, v0_124), (67, (.bool x159))]) ?_ ?_
 {
 refine kreg ?_
 refine sp hE (r_fieldL hE fo62_4 rfl) rfl fun a hE => ?_
 refine st hE (st_loadL hE hS ty3 rfl (i := 0) rfl (fl62_4.R_drop (R_whole hc155))) rfl ?_
 rintro v197 a _ ⟨rfl, hv196⟩ hE
 obtain ⟨rfl, hr198⟩ := RV_int hv196
 refine sp hE (r_fieldL hE fo62_4 rfl) rfl fun a hE => ?_
 refine st hE (st_loadL hE hS ty3 rfl (i := 1) rfl (fl62_4.R_drop (R_whole (kBlock_Info.mono (M.le.trans hm46 (M.le.trans hm87 (M.le.trans hm103 (M.le.trans hm123 hm149)))) hc23)))) rfl ?_
 rintro v201 a _ ⟨rfl, hv200⟩ hE
 obtain ⟨rfl, hr202⟩ := RV_int hv200
 refine sp hE (r_bin hE rfl rfl b_neq) rfl fun a hE => ?_
 refine qm hE rfl rfl fun a hE => ?_
 rcases Bool.eq_false_or_eq_true (r146.fNulls != r5.1.fNulls) with hd205 | hd205
 {
 have h := ite_T hd205 h
 refine sx hE rfl rfl rfl rfl hd205 rfl fun a hE => ?_
 refine sx hE rfl rfl rfl rfl hd205 rfl fun a hE => ?_
 refine sx hE rfl rfl rfl rfl hd205 rfl fun a hE => ?_
 refine sx hE rfl rfl rfl rfl hd205 rfl fun a hE => ?_
 refine sx hE rfl rfl rfl rfl hd205 rfl fun a hE => ?_
 refine sp hE (r_pickT hE rfl hd205 rfl) rfl fun a hE => ?_
 refine qm hE rfl rfl fun a hE => ?_
 refine sx hE rfl rfl rfl rfl rfl rfl fun a hE => ?_
 refine sx hE rfl rfl rfl rfl rfl rfl fun a hE => ?_
 refine sx hE rfl rfl rfl rfl rfl rfl fun a hE => ?_
 refine sx hE rfl rfl rfl rfl rfl rfl fun a hE => ?_
 refine sx hE rfl rfl rfl rfl rfl rfl fun a hE => ?_
 refine sp hE (r_pickT hE rfl rfl rfl) rfl fun a hE => ?_
 refine knil ?_
 exact ⟨true, h, _, (M.le.refl _), (hS.pickT 1 [] rfl rfl rfl), hE.cut ⟨rfl, rfl, rfl, trivial⟩⟩
 }
 {
 have h := ite_F hd205 h
 refine spg hE rfl rfl rfl rfl hd205 (r_fieldL hE fo62_2 rfl) rfl fun a hE => ?_
 refine stg hE rfl rfl rfl rfl hd205 (st_loadL hE hS ty53 rfl (i := 0) rfl (fl62_2.R_drop (R_whole hc155))) rfl ?_
 rintro v211 a _ ⟨rfl, hv210⟩ hE
 refine spg hE rfl rfl rfl rfl hd205 (r_fieldL hE fo62_2 rfl) rfl fun a hE => ?_
 refine stg hE rfl rfl rfl rfl hd205 (st_loadL hE hS ty53 rfl (i := 1) rfl (fl62_2.R_drop (R_whole (kBlock_Info.mono (M.le.trans hm46 (M.le.trans hm87 (M.le.trans hm103 (M.le.trans hm123 hm149)))) hc23)))) rfl ?_
 rintro v214 a _ ⟨rfl, hv213⟩ hE
 refine spg hE rfl rfl rfl rfl hd205 (r_neqK hE eq53 rfl rfl hv210 hv213 rfl) rfl fun a hE => ?_
 refine sp hE (r_pickF hE rfl hd205 rfl) rfl fun a hE => ?_
 refine qm hE rfl rfl fun a hE => ?_
 rcases Bool.eq_false_or_eq_true (!decide (r146.fMin = r5.1.fMin)) with hd218 | hd218
 {
 have h := ite_T hd218 h
 refine sx hE rfl rfl rfl rfl hd218 rfl fun a hE => ?_
 refine sx hE rfl rfl rfl rfl hd218 rfl fun a hE => ?_
 refine sx hE rfl rfl rfl rfl hd218 rfl fun a hE => ?_
 refine sx hE rfl rfl rfl rfl hd218 rfl fun a hE => ?_
 refine sx hE rfl rfl rfl rfl hd218 rfl fun a hE => ?_
 refine sp hE (r_pickT hE rfl hd218 rfl) rfl fun a hE => ?_
 refine knil ?_
 exact ⟨true, h, _, (M.le.refl _), (hS.pickT 1 [] rfl rfl rfl), hE.cut ⟨rfl, rfl, rfl, trivial⟩⟩
 }
 {
 have h := ite_F hd218 h
 refine spg hE rfl rfl rfl rfl hd218 (r_fieldL hE fo62_3 rfl) rfl fun a hE => ?_
 refine stg hE rfl rfl rfl rfl hd218 (st_loadL hE hS ty53 rfl (i := 0) rfl (fl62_3.R_drop (R_whole hc155))) rfl ?_
 rintro v222 a _ ⟨rfl, hv221⟩ hE
 refine spg hE rfl rfl rfl rfl hd218 (r_fieldL hE fo62_3 rfl) rfl fun a hE => ?_
 refine stg hE rfl rfl rfl rfl hd218 (st_loadL hE hS ty53 rfl (i := 1) rfl (fl62_3.R_drop (R_whole (kBlock_Info.mono (M.le.trans hm46 (M.le.trans hm87 (M.le.trans hm103 (M.le.trans hm123 hm149)))) hc23)))) rfl ?_
 rintro v225 a _ ⟨rfl, hv224⟩ hE
 refine spg hE rfl rfl rfl rfl hd218 (r_neqK hE eq53 rfl rfl hv221 hv224 rfl) rfl fun a hE => ?_
 refine sp hE (r_pickF hE rfl hd218 rfl) rfl fun a hE => ?_
 refine knil ?_
 exact ⟨(!decide (r146.fMax = r5.1.fMax)), h, _, (M.le.refl _), (hS.pickT 1 [] rfl rfl rfl), hE.cut ⟨rfl, rfl, rfl, trivial⟩⟩
 }
 }
 }
 {
 rintro a w ⟨x159, h, m157, hm158, hS, hE⟩
 unfold block_Read_j1 at h
 refine kif hE rfl (fun hd161 => ?_) (fun hd161 => ?_)
 {
 have h := ite_T hd161 h
 refine kseq (kreg ?_)
 refine qa hE rfl rfl fun a hE => ?_
 refine qa hE rfl rfl fun a hE => ?_
 refine qa hE rfl rfl fun a hE => ?_
 refine knil (kret ?_)
 obtain rfl := oi h
 try dsimp only
 refine Fin.mk hE (rs := [.tmp 2, .tmp 3, .tmp 4]) rfl (ResL.tmp hE rfl (ResL.tmp hE rfl (ResL.tmp hE rfl ResL.nil))) ?_
 exact ⟨_, (M.le.trans hm8 (M.le.trans hm46 (M.le.trans hm87 (M.le.trans hm103 (M.le.trans hm123 (M.le.trans hm149 hm158)))))), (hS.dropL 2), _, _, _, rfl, RV_nil, (RV_of_int (show inR .i64 0 from inR_lit (by decide))), (RV_of_int (show inR .i64 70 from inR_lit (by decide)))⟩
 }
 {
 have h := ite_F hd161 h
 refine kskip (kseq ?_)
 refine kchain (k := 4) (m := m157) (es := []) (Φ := (fun i m ws v => match i with | 0 => v = v0_124 | 1 => v = (.pointer (some ⟨b20, 11, none⟩)) | 2 => v = (.int .i64 r5.1.fBytes) ∧ inR .i64 r5.1.fBytes | 3 => v = v0_124 | _ => True)) (Q := (fun c m ws L' TL' => match c with | 0 => (b152, cs154) :: (b20, cs22) :: L = L' ∧ TL = TL' | _ => False)) (cs := [⟨0, 0, false, [(9, v0_124)]⟩, ⟨0, 0, false, [(5, (.pointer (some ⟨b20, 0, none⟩)))]⟩, ⟨0, 0, false, []⟩, ⟨0, 0, false, []⟩]) mixed hE hS ⟨rfl, rfl⟩ rfl rfl ⟨⟨rfl, trivial⟩, ⟨rfl, trivial⟩, trivial, trivial, trivial⟩ (by kernel_rfl) ?_ ?_ ?_ ?_
 {
 intro i m_ m2_ ws v hm_ hp_
 match i, hp_ with
 | 0, hp_ => exact hp_
 | 1, hp_ => exact hp_
 | 2, hp_ => exact hp_
 | 3, hp_ => exact hp_
 | _ + 4, hp_ => exact trivial
 }
 {
 intro c m_ m2_ ws L_ T_ hm_ hq_
 match c, hq_ with
 | 0, ⟨e1_, e2_⟩ => exact ⟨e1_, e2_⟩
 | _ + 1, hq_ => exact hq_.elim
 }
 {
 refine ⟨?_, ?_, ?_, ?_, trivial⟩
 {
 refine cplain fun pre_ post_ L_ T_ m' a' w' hl' hp' hm' hq' hS' hE' hT' => ?_
 obtain rfl := len0 hl'
 refine Step.imp (Run1.pure (r_move hE' rfl)) ?_
 rintro _ _ ⟨rfl, rfl⟩
 exact ⟨_, M.le.refl _, hS', rfl⟩
 }
 {
 refine cplain fun pre_ post_ L_ T_ m' a' w' hl' hp' hm' hq' hS' hE' hT' => ?_
 obtain rfl := len0 hl'
 refine Step.imp (Run1.pure (r_fieldL hE' fo62_5 rfl)) ?_
 rintro _ _ ⟨rfl, rfl⟩
 exact ⟨_, M.le.refl _, hS', rfl⟩
 }
 {
 refine cplain fun pre_ post_ L_ T_ m' a' w' hl' hp' hm' hq' hS' hE' hT' => ?_
 obtain rfl := len0 hl'
 obtain rfl := len0 (lenz (a := 0) hp')
 obtain ⟨rfl, rfl⟩ := hq'
 obtain ⟨v169, e170, q171⟩ : ∃ v, a'.tmps.getD 69 undef = v ∧ (v = (.pointer (some ⟨b20, 11, none⟩))) := ⟨_, rfl, hT' 1 (by decide) 69 rfl⟩
 have hE := hE'.add (e170.trans q171)
 refine Step.imp (st_loadL hE hS' ty3 rfl (i := 1) rfl (fl62_5.R_drop (R_whole (kBlock_Info.mono (M.le.trans hm46 (M.le.trans hm87 (M.le.trans hm103 (M.le.trans hm123 (M.le.trans hm149 (M.le.trans hm158 hm')))))) hc23)))) ?_
 rintro v172 _ ⟨rfl, hv165⟩
 obtain ⟨rfl, hr173⟩ := RV_int hv165
 exact ⟨_, M.le.refl _, hS', ⟨rfl, hr173⟩⟩
 }
 {
 refine cplain fun pre_ post_ L_ T_ m' a' w' hl' hp' hm' hq' hS' hE' hT' => ?_
 obtain rfl := len0 hl'
 obtain ⟨v174, e175, q176⟩ : ∃ v, a'.tmps.getD 68 undef = v ∧ (v = v0_124) := ⟨_, rfl, hT' 0 (by decide) 68 rfl⟩
 have hE := hE'.add (e175.trans q176)
 refine Step.imp (Run1.pure (r_assign hE rfl)) ?_
 rintro _ _ ⟨rfl, rfl⟩
 exact ⟨_, M.le.refl _, hS', rfl⟩
 }
 }
 {
 intro ws_ L_ T_ m178 a w hl179 hm180 hq181 hS hd182 hn183 ho184 hT185
 obtain rfl := len0 hl179
 obtain ⟨rfl, rfl⟩ := hq181
 have hE := EnvD.of (k := 4) (l' := [(5, (.pointer (some ⟨b20, 0, none⟩))), (9, v0_124), (67, (.bool x159))]) hd182 hn183 ho184 ⟨rfl, rfl, rfl, trivial⟩ rfl
 obtain ⟨v186, e187, q188⟩ : ∃ v, a.tmps.getD 70 undef = v ∧ (v = (.int .i64 r5.1.fBytes) ∧ inR .i64 r5.1.fBytes) := ⟨_, rfl, hT185 2 (by decide) 70 rfl⟩
 obtain ⟨q188, hr189⟩ := q188
 have hE := hE.add (e187.trans q188)
 obtain ⟨v190, e191, q192⟩ : ∃ v, a.tmps.getD 2 undef = v ∧ (v = v0_124) := ⟨_, rfl, hT185 3 (by decide) 2 rfl⟩
 have hE := hE.add (e191.trans q192)
 refine qa hE rfl rfl fun a hE => ?_
 refine qa hE rfl rfl fun a hE => ?_
 refine knil (kret ?_)
 obtain rfl := oi h
 try dsimp only
 refine Fin.mk hE (rs := [.tmp 2, .tmp 3, .tmp 4]) rfl (ResL.tmp hE rfl (ResL.tmp hE rfl (ResL.tmp hE rfl ResL.nil))) ?_
 exact ⟨_, (M.le.trans hm8 (M.le.trans hm46 (M.le.trans hm87 (M.le.trans hm103 (M.le.trans hm123 (M.le.trans hm149 (M.le.trans hm158 hm180))))))), (hS.dropL 2), _, _, _, rfl, (hv0_126.mono (M.le.trans hm149 (M.le.trans hm158 hm180))), (RV_of_int hr189), (RV_of_int (show inR .i64 0 from inR_lit (by decide)))⟩
 }
 }
 }
 }
 }
 }
 }
theorem c_hayloftlaw07_alive {W0 : Bse} {m : M} {w : World} {L : List (Nat × List Value)} {TL : List (Nat × Value)} (hS : S W0 m w (L) (TL))  {r : Bool} (h : hayloftlaw07_alive = some r) :
    Calls Try.prog 31 [].toArray w (Ret fun v w' => ∃ m', M.le m m' ∧ S W0 m' w' (L) (TL) ∧ RV kBool m' v r) := by
 refine kcall Try.func31 rfl Try.ntmps31 (Nat.le_of_ble_eq_true rfl) fun a hE => ?_
 have hE : Env 60 a [] := hE
 unfold hayloftlaw07_alive at h
 refine kseq (kreg ?_)
 refine qa hE rfl rfl fun a hE => ?_
 refine knil (kseq (kreg ?_))
 refine st hE (st_build (m := m) (k := kAV) (x0 := AV.zero) (xx := (⟨1, true, 0, []⟩ : AV)) (pl := [(0, 1), (1, 1), (2, 1), (3, 1)]) (pv := [(0, (.int .i64 1)), (1, (.bool true))]) hE rfl Try.underlying53 rfl Try.zeroValue53 zr53 rfl (.cons rfl sf53_0 (RV_of_int (show inR .i64 1 from inR_lit (by decide))) (.cons rfl sf53_1 RV_of_bool .nil))) rfl ?_
 rintro v3 a _ ⟨rfl, hv2⟩ hE
 refine st hE (st_lit (k := kAV) (xs := [(⟨1, true, 0, []⟩ : AV)]) (vs := [v3]) hE hS rfl Try.underlying29 Try.sizeOf53 Try.zeroValue53 ⟨hv2, trivial⟩ rfl (by decide)) rfl ?_
 rintro v7 a w ⟨m5, hm6, hS, hv4⟩ hE
 obtain ⟨r8, hr9, h⟩ := ob h
 refine st hE (st_call (vs := [(.int .i64 0), v7]) hE rfl Try.call32 (c_block_Write (hS := hS) (show inR .i64 0 from inR_lit (by decide)) hv4 hr9)) rfl ?_
 rintro _ a w ⟨m10, hm11, hS, v0_12, v1_13, rfl, hv0_14, hv1_15⟩ hE
 obtain ⟨rfl, hr17⟩ := RV_int hv1_15
 refine qm hE rfl rfl fun a hE => ?_
 refine sp hE (r_extract hE rfl rfl) rfl fun a hE => ?_
 refine sp hE (r_extract hE rfl rfl) rfl fun a hE => ?_
 refine qa hE rfl rfl fun a hE => ?_
 refine qa hE rfl rfl fun a hE => ?_
 refine knil (kseq (kreg ?_))
 refine qm hE rfl rfl fun a hE => ?_
 obtain ⟨r24, hr25, h⟩ := ob h
 refine st hE (st_call (vs := [v0_12]) hE rfl Try.call34 (c_block_Head (hS := hS) hv0_14 hr25)) rfl ?_
 rintro _ a w ⟨m26, hm27, hS, v0_28, v1_29, rfl, hv0_30, hv1_31⟩ hE
 obtain ⟨rfl, hr33⟩ := RV_int hv1_31
 refine qm hE rfl rfl fun a hE => ?_
 refine sp hE (r_extract hE rfl rfl) rfl fun a hE => ?_
 refine sp hE (r_extract hE rfl rfl) rfl fun a hE => ?_
 refine st hE (st_alloc hS Try.zeroValue62 rfl (cs := zc62)) rfl ?_
 rintro _ a w ⟨b37, rfl, hS⟩ hE
 refine st0 hE (st_storeF hE hS ty62 StF_self rfl rfl hv0_30 (i := 0) rfl (zr62 _)) ?_
 rintro _ w ⟨cs39, hc40, hS⟩ hE
 refine qa hE rfl rfl fun a hE => ?_
 refine knil (kseq (kreg ?_))
 refine qm hE rfl rfl fun a hE => ?_
 obtain ⟨r44, hr45, h⟩ := ob h
 refine st hE (st_call (vs := [v0_12]) hE rfl Try.call33 (c_block_Read (hS := hS) (hv0_14.mono hm27) hr45)) rfl ?_
 rintro _ a w ⟨m46, hm47, hS, v0_48, v1_49, v2_50, rfl, hv0_51, hv1_52, hv2_53⟩ hE
 obtain ⟨rfl, hr55⟩ := RV_int hv1_52
 obtain ⟨rfl, hr56⟩ := RV_int hv2_53
 refine qm hE rfl rfl fun a hE => ?_
 refine sp hE (r_extract hE rfl rfl) rfl fun a hE => ?_
 refine sp hE (r_extract hE rfl rfl) rfl fun a hE => ?_
 refine sp hE (r_extract hE rfl rfl) rfl fun a hE => ?_
 refine qa hE rfl rfl fun a hE => ?_
 refine qa hE rfl rfl fun a hE => ?_
 refine qa hE rfl rfl fun a hE => ?_
 refine knil (kseq ?_)
 refine kcut (fun a w => ∃ x66 : Bool, hayloftlaw07_alive_j1 x66 = some r ∧ ∃ m', M.le m46 m' ∧ S W0 m' w ((b37, cs39) :: L) (TL) ∧ Env 60 a [(0, (.bool x66))]) ?_ ?_
 {
 refine kreg ?_
 refine qm hE rfl rfl fun a hE => ?_
 refine sp hE (r_bin hE rfl rfl b_eql) rfl fun a hE => ?_
 refine qm hE rfl rfl fun a hE => ?_
 rcases Bool.eq_false_or_eq_true (r8.2 == 0) with hd71 | hd71
 {
 have h := ite_T hd71 h
 refine spg hE rfl rfl rfl rfl hd71 (r_move hE rfl) rfl fun a hE => ?_
 refine spg hE rfl rfl rfl rfl hd71 (r_lenSl (k := (kInt .u8)) hE rfl rfl Try.underlying37 (hv0_14.mono (M.le.trans hm27 hm47))) rfl fun a hE => ?_
 refine spg hE rfl rfl rfl rfl hd71 (r_bin hE rfl rfl b_eql) rfl fun a hE => ?_
 refine sp hE (r_pickT hE rfl hd71 rfl) rfl fun a hE => ?_
 refine qm hE rfl rfl fun a hE => ?_
 rcases Bool.eq_false_or_eq_true ((r8.1.length : Int) == 15) with hd77 | hd77
 {
 have h := ite_T hd77 h
 refine spg hE rfl rfl rfl rfl hd77 (r_move hE rfl) rfl fun a hE => ?_
 refine spg hE rfl rfl rfl rfl hd77 (r_bin hE rfl rfl b_eql) rfl fun a hE => ?_
 refine sp hE (r_pickT hE rfl hd77 rfl) rfl fun a hE => ?_
 refine qm hE rfl rfl fun a hE => ?_
 rcases Bool.eq_false_or_eq_true (r24.2 == 0) with hd82 | hd82
 {
 have h := ite_T hd82 h
 refine spg hE rfl rfl rfl rfl hd82 (r_fieldL hE fo62_1 rfl) rfl fun a hE => ?_
 refine stg hE rfl rfl rfl rfl hd82 (st_loadL hE hS ty3 rfl (i := 0) rfl (fl62_1.R_drop (R_whole (kBlock_Info.mono hm47 hc40)))) rfl ?_
 rintro v85 a _ ⟨rfl, hv84⟩ hE
 obtain ⟨rfl, hr86⟩ := RV_int hv84
 refine spg hE rfl rfl rfl rfl hd82 (r_bin hE rfl rfl b_eql) rfl fun a hE => ?_
 refine sp hE (r_pickT hE rfl hd82 rfl) rfl fun a hE => ?_
 refine qm hE rfl rfl fun a hE => ?_
 rcases Bool.eq_false_or_eq_true (r24.1.fMany == 1) with hd90 | hd90
 {
 have h := ite_T hd90 h
 refine spg hE rfl rfl rfl rfl hd90 (r_move hE rfl) rfl fun a hE => ?_
 refine spg hE rfl rfl rfl rfl hd90 (r_bin hE rfl rfl b_eql) rfl fun a hE => ?_
 refine sp hE (r_pickT hE rfl hd90 rfl) rfl fun a hE => ?_
 refine qm hE rfl rfl fun a hE => ?_
 rcases Bool.eq_false_or_eq_true (r44.2.2 == 0) with hd95 | hd95
 {
 have h := ite_T hd95 h
 refine spg hE rfl rfl rfl rfl hd95 (r_move hE rfl) rfl fun a hE => ?_
 refine spg hE rfl rfl rfl rfl hd95 (r_bin hE rfl rfl b_eql) rfl fun a hE => ?_
 refine sp hE (r_pickT hE rfl hd95 rfl) rfl fun a hE => ?_
 refine qm hE rfl rfl fun a hE => ?_
 rcases Bool.eq_false_or_eq_true (r44.2.1 == 15) with hd100 | hd100
 {
 have h := ite_T hd100 h
 refine spg hE rfl rfl rfl rfl hd100 (r_move hE rfl) rfl fun a hE => ?_
 refine spg hE rfl rfl rfl rfl hd100 (r_lenSl (k := kAV) hE rfl rfl Try.underlying29 hv0_51) rfl fun a hE => ?_
 refine spg hE rfl rfl rfl rfl hd100 (r_bin hE rfl rfl b_eql) rfl fun a hE => ?_
 refine sp hE (r_pickT hE rfl hd100 rfl) rfl fun a hE => ?_
 refine qm hE rfl rfl fun a hE => ?_
 rcases Bool.eq_false_or_eq_true ((r44.1.length : Int) == 1) with hd106 | hd106
 {
 have h := ite_T hd106 h
 refine spg hE rfl rfl rfl rfl hd106 (r_move hE rfl) rfl fun a hE => ?_
 obtain ⟨x108, hx109, h⟩ := ob h
 refine stg hE rfl rfl rfl rfl hd106 (st_index (k := kAV) hE rfl rfl Try.underlying29 Try.sizeOf53 hv0_51 hx109) rfl ?_
 rintro v111 a _ ⟨rfl, hp110⟩ hE
 refine stg hE rfl rfl rfl rfl hd106 (st_fieldM hE fo53_1 fl53_1 rfl hp110) rfl ?_
 rintro v114 a _ ⟨rfl, hp113⟩ hE
 refine stg hE rfl rfl rfl rfl hd106 (st_loadM hE hS ty4 rfl hp113) rfl ?_
 rintro v116 a _ ⟨rfl, hv115⟩ hE
 obtain rfl := RV_bool hv115
 refine sp hE (r_pickT hE rfl hd106 rfl) rfl fun a hE => ?_
 refine qa hE rfl rfl fun a hE => ?_
 refine knil ?_
 exact ⟨x108.fBool, h, _, (M.le.refl _), (hS.pickT 1 [] rfl rfl rfl), hE.cut ⟨rfl, trivial⟩⟩
 }
 {
 have h := ite_F hd106 h
 refine sx hE rfl rfl rfl rfl hd106 rfl fun a hE => ?_
 refine sx hE rfl rfl rfl rfl hd106 rfl fun a hE => ?_
 refine sx hE rfl rfl rfl rfl hd106 rfl fun a hE => ?_
 refine sx hE rfl rfl rfl rfl hd106 rfl fun a hE => ?_
 refine sp hE (r_pickF hE rfl hd106 rfl) rfl fun a hE => ?_
 refine qa hE rfl rfl fun a hE => ?_
 refine knil ?_
 exact ⟨false, h, _, (M.le.refl _), (hS.pickT 1 [] rfl rfl rfl), hE.cut ⟨rfl, trivial⟩⟩
 }
 }
 {
 have h := ite_F hd100 h
 refine sx hE rfl rfl rfl rfl hd100 rfl fun a hE => ?_
 refine sx hE rfl rfl rfl rfl hd100 rfl fun a hE => ?_
 refine sx hE rfl rfl rfl rfl hd100 rfl fun a hE => ?_
 refine sp hE (r_pickF hE rfl hd100 rfl) rfl fun a hE => ?_
 refine qm hE rfl rfl fun a hE => ?_
 refine sx hE rfl rfl rfl rfl rfl rfl fun a hE => ?_
 refine sx hE rfl rfl rfl rfl rfl rfl fun a hE => ?_
 refine sx hE rfl rfl rfl rfl rfl rfl fun a hE => ?_
 refine sx hE rfl rfl rfl rfl rfl rfl fun a hE => ?_
 refine sp hE (r_pickF hE rfl rfl rfl) rfl fun a hE => ?_
 refine qa hE rfl rfl fun a hE => ?_
 refine knil ?_
 exact ⟨false, h, _, (M.le.refl _), (hS.pickT 1 [] rfl rfl rfl), hE.cut ⟨rfl, trivial⟩⟩
 }
 }
 {
 have h := ite_F hd95 h
 refine sx hE rfl rfl rfl rfl hd95 rfl fun a hE => ?_
 refine sx hE rfl rfl rfl rfl hd95 rfl fun a hE => ?_
 refine sp hE (r_pickF hE rfl hd95 rfl) rfl fun a hE => ?_
 refine qm hE rfl rfl fun a hE => ?_
 refine sx hE rfl rfl rfl rfl rfl rfl fun a hE => ?_
 refine sx hE rfl rfl rfl rfl rfl rfl fun a hE => ?_
 refine sx hE rfl rfl rfl rfl rfl rfl fun a hE => ?_
 refine sp hE (r_pickF hE rfl rfl rfl) rfl fun a hE => ?_
 refine qm hE rfl rfl fun a hE => ?_
 refine sx hE rfl rfl rfl rfl rfl rfl fun a hE => ?_
 refine sx hE rfl rfl rfl rfl rfl rfl fun a hE => ?_
 refine sx hE rfl rfl rfl rfl rfl rfl fun a hE => ?_
 refine sx hE rfl rfl rfl rfl rfl rfl fun a hE => ?_
 refine sp hE (r_pickF hE rfl rfl rfl) rfl fun a hE => ?_
 refine qa hE rfl rfl fun a hE => ?_
 refine knil ?_
 exact ⟨false, h, _, (M.le.refl _), (hS.pickT 1 [] rfl rfl rfl), hE.cut ⟨rfl, trivial⟩⟩
 }
 }
 {
 have h := ite_F hd90 h
 refine sx hE rfl rfl rfl rfl hd90 rfl fun a hE => ?_
 refine sx hE rfl rfl rfl rfl hd90 rfl fun a hE => ?_
 refine sp hE (r_pickF hE rfl hd90 rfl) rfl fun a hE => ?_
 refine qm hE rfl rfl fun a hE => ?_
 refine sx hE rfl rfl rfl rfl rfl rfl fun a hE => ?_
 refine sx hE rfl rfl rfl rfl rfl rfl fun a hE => ?_
 refine sp hE (r_pickF hE rfl rfl rfl) rfl fun a hE => ?_
 refine qm hE rfl rfl fun a hE => ?_
 refine sx hE rfl rfl rfl rfl rfl rfl fun a hE => ?_
 refine sx hE rfl rfl rfl rfl rfl rfl fun a hE => ?_
 refine sx hE rfl rfl rfl rfl rfl rfl fun a hE => ?_
 refine sp hE (r_pickF hE rfl rfl rfl) rfl fun a hE => ?_
 refine qm hE rfl rfl fun a hE => ?_
 refine sx hE rfl rfl rfl rfl rfl rfl fun a hE => ?_
 refine sx hE rfl rfl rfl rfl rfl rfl fun a hE => ?_
 refine sx hE rfl rfl rfl rfl rfl rfl fun a hE => ?_
 refine sx hE rfl rfl rfl rfl rfl rfl fun a hE => ?_
 refine sp hE (r_pickF hE rfl rfl rfl) rfl fun a hE => ?_
 refine qa hE rfl rfl fun a hE => ?_
 refine knil ?_
 exact ⟨false, h, _, (M.le.refl _), (hS.pickT 1 [] rfl rfl rfl), hE.cut ⟨rfl, trivial⟩⟩
 }
 }
 {
 have h := ite_F hd82 h
 refine sx hE rfl rfl rfl rfl hd82 rfl fun a hE => ?_
 refine sx hE rfl rfl rfl rfl hd82 rfl fun a hE => ?_
 refine sx hE rfl rfl rfl rfl hd82 rfl fun a hE => ?_
 refine sp hE (r_pickF hE rfl hd82 rfl) rfl fun a hE => ?_
 refine qm hE rfl rfl fun a hE => ?_
 refine sx hE rfl rfl rfl rfl rfl rfl fun a hE => ?_
 refine sx hE rfl rfl rfl rfl rfl rfl fun a hE => ?_
 refine sp hE (r_pickF hE rfl rfl rfl) rfl fun a hE => ?_
 refine qm hE rfl rfl fun a hE => ?_
 refine sx hE rfl rfl rfl rfl rfl rfl fun a hE => ?_
 refine sx hE rfl rfl rfl rfl rfl rfl fun a hE => ?_
 refine sp hE (r_pickF hE rfl rfl rfl) rfl fun a hE => ?_
 refine qm hE rfl rfl fun a hE => ?_
 refine sx hE rfl rfl rfl rfl rfl rfl fun a hE => ?_
 refine sx hE rfl rfl rfl rfl rfl rfl fun a hE => ?_
 refine sx hE rfl rfl rfl rfl rfl rfl fun a hE => ?_
 refine sp hE (r_pickF hE rfl rfl rfl) rfl fun a hE => ?_
 refine qm hE rfl rfl fun a hE => ?_
 refine sx hE rfl rfl rfl rfl rfl rfl fun a hE => ?_
 refine sx hE rfl rfl rfl rfl rfl rfl fun a hE => ?_
 refine sx hE rfl rfl rfl rfl rfl rfl fun a hE => ?_
 refine sx hE rfl rfl rfl rfl rfl rfl fun a hE => ?_
 refine sp hE (r_pickF hE rfl rfl rfl) rfl fun a hE => ?_
 refine qa hE rfl rfl fun a hE => ?_
 refine knil ?_
 exact ⟨false, h, _, (M.le.refl _), (hS.pickT 1 [] rfl rfl rfl), hE.cut ⟨rfl, trivial⟩⟩
 }
 }
 {
 have h := ite_F hd77 h
 refine sx hE rfl rfl rfl rfl hd77 rfl fun a hE => ?_
 refine sx hE rfl rfl rfl rfl hd77 rfl fun a hE => ?_
 refine sp hE (r_pickF hE rfl hd77 rfl) rfl fun a hE => ?_
 refine qm hE rfl rfl fun a hE => ?_
 refine sx hE rfl rfl rfl rfl rfl rfl fun a hE => ?_
 refine sx hE rfl rfl rfl rfl rfl rfl fun a hE => ?_
 refine sx hE rfl rfl rfl rfl rfl rfl fun a hE => ?_
 refine sp hE (r_pickF hE rfl rfl rfl) rfl fun a hE => ?_
 refine qm hE rfl rfl fun a hE => ?_
 refine sx hE rfl rfl rfl rfl rfl rfl fun a hE => ?_
 refine sx hE rfl rfl rfl rfl rfl rfl fun a hE => ?_
 refine sp hE (r_pickF hE rfl rfl rfl) rfl fun a hE => ?_
 refine qm hE rfl rfl fun a hE => ?_
 refine sx hE rfl rfl rfl rfl rfl rfl fun a hE => ?_
 refine sx hE rfl rfl rfl rfl rfl rfl fun a hE => ?_
 refine sp hE (r_pickF hE rfl rfl rfl) rfl fun a hE => ?_
 refine qm hE rfl rfl fun a hE => ?_
 refine sx hE rfl rfl rfl rfl rfl rfl fun a hE => ?_
 refine sx hE rfl rfl rfl rfl rfl rfl fun a hE => ?_
 refine sx hE rfl rfl rfl rfl rfl rfl fun a hE => ?_
 refine sp hE (r_pickF hE rfl rfl rfl) rfl fun a hE => ?_
 refine qm hE rfl rfl fun a hE => ?_
 refine sx hE rfl rfl rfl rfl rfl rfl fun a hE => ?_
 refine sx hE rfl rfl rfl rfl rfl rfl fun a hE => ?_
 refine sx hE rfl rfl rfl rfl rfl rfl fun a hE => ?_
 refine sx hE rfl rfl rfl rfl rfl rfl fun a hE => ?_
 refine sp hE (r_pickF hE rfl rfl rfl) rfl fun a hE => ?_
 refine qa hE rfl rfl fun a hE => ?_
 refine knil ?_
 exact ⟨false, h, _, (M.le.refl _), (hS.pickT 1 [] rfl rfl rfl), hE.cut ⟨rfl, trivial⟩⟩
 }
 }
 {
 have h := ite_F hd71 h
 refine sx hE rfl rfl rfl rfl hd71 rfl fun a hE => ?_
 refine sx hE rfl rfl rfl rfl hd71 rfl fun a hE => ?_
 refine sx hE rfl rfl rfl rfl hd71 rfl fun a hE => ?_
 refine sp hE (r_pickF hE rfl hd71 rfl) rfl fun a hE => ?_
 refine qm hE rfl rfl fun a hE => ?_
 refine sx hE rfl rfl rfl rfl rfl rfl fun a hE => ?_
 refine sx hE rfl rfl rfl rfl rfl rfl fun a hE => ?_
 refine sp hE (r_pickF hE rfl rfl rfl) rfl fun a hE => ?_
 refine qm hE rfl rfl fun a hE => ?_
 refine sx hE rfl rfl rfl rfl rfl rfl fun a hE => ?_
 refine sx hE rfl rfl rfl rfl rfl rfl fun a hE => ?_
 refine sx hE rfl rfl rfl rfl rfl rfl fun a hE => ?_
 refine sp hE (r_pickF hE rfl rfl rfl) rfl fun a hE => ?_
 refine qm hE rfl rfl fun a hE => ?_
 refine sx hE rfl rfl rfl rfl rfl rfl fun a hE => ?_
 refine sx hE rfl rfl rfl rfl rfl rfl fun a hE => ?_
 refine sp hE (r_pickF hE rfl rfl rfl) rfl fun a hE => ?_
 refine qm hE rfl rfl fun a hE => ?_
 refine sx hE rfl rfl rfl rfl rfl rfl fun a hE => ?_
 refine sx hE rfl rfl rfl rfl rfl rfl fun a hE => ?_
 refine sp hE (r_pickF hE rfl rfl rfl) rfl fun a hE => ?_
 refine qm hE rfl rfl fun a hE => ?_
 refine sx hE rfl rfl rfl rfl rfl rfl fun a hE => ?_
 refine sx hE rfl rfl rfl rfl rfl rfl fun a hE => ?_
 refine sx hE rfl rfl rfl rfl rfl rfl fun a hE => ?_
 refine sp hE (r_pickF hE rfl rfl rfl) rfl fun a hE => ?_
 refine qm hE rfl rfl fun a hE => ?_
 refine sx hE rfl rfl rfl rfl rfl rfl fun a hE => ?_
 refine sx hE rfl rfl rfl rfl rfl rfl fun a hE => ?_
 refine sx hE rfl rfl rfl rfl rfl rfl fun a hE => ?_
 refine sx hE rfl rfl rfl rfl rfl rfl fun a hE => ?_
 refine sp hE (r_pickF hE rfl rfl rfl) rfl fun a hE => ?_
 refine qa hE rfl rfl fun a hE => ?_
 refine knil ?_
 exact ⟨false, h, _, (M.le.refl _), (hS.pickT 1 [] rfl rfl rfl), hE.cut ⟨rfl, trivial⟩⟩
 }
 }
 {
 rintro a w ⟨x66, h, m64, hm65, hS, hE⟩
 unfold hayloftlaw07_alive_j1 at h
 refine kret ?_
 obtain rfl := oi h
 try dsimp only
 refine Fin.mk hE (rs := [.tmp 0]) rfl (ResL.tmp hE rfl ResL.nil) ?_
 exact ⟨_, (M.le.trans hm6 (M.le.trans hm11 (M.le.trans hm27 (M.le.trans hm47 hm65)))), (hS.dropL 1), RV_of_bool⟩
 }
theorem c_block_All_1 {σ : Type} {I : M → σ → Mem → Tls → Prop} {step : σ → (Int × AV) → Option (σ × Bool)} {B : σ → Bse} {v0 : Value} {m : M} {w : World} {L : Mem} {TL : Tls} {s0_ : σ} {Ls_0 : Mem} {TLs_0 : Tls} (mono : ∀ m m' s a b, M.le m m' → I m s a b → I m' s a b) (hy : YieldC Try.prog (Rv2 (kInt .i64) kAV) B v0 I step) (hI0_ : I m s0_ Ls_0 TLs_0) (hS : S (B s0_) m w (Ls_0 ++ L) (TLs_0 ++ TL)) {v1 : Value} {p1 : (List Int)} (ha1 : PR (kSl (kInt .u8)) m v1 p1) {r : σ} (h : block_All_1 step s0_ p1 = some r) :
    Calls Try.prog 71 [v0, v1].toArray w (Ret fun _ w' => ∃ m' Ls' TLs', M.le m m' ∧ I m' r Ls' TLs' ∧ S (B r) m' w' (Ls' ++ L) (TLs' ++ TL)) := by
 refine kcall (args := [v0, v1]) Try.func71 rfl Try.ntmps71 (Nat.le_of_ble_eq_true rfl) fun a hE => ?_
 have hE : Env 39 a [(0, v0), (1, v1)] := hE
 unfold block_All_1 at h
 refine kseq (kreg ?_)
 refine qa hE rfl rfl fun a hE => ?_
 refine knil (kseq (kreg ?_))
 refine st hE (st_loadM hE hS ty37 rfl ha1) rfl ?_
 rintro v3 a _ ⟨rfl, hv2⟩ hE
 refine qa hE rfl rfl fun a hE => ?_
 refine knil (kblock ?_)
 refine kloop h (fun (s : (Int × (List Int) × σ)) a w => ∃ m', M.le m m' ∧ ∃ (v10 : Value), ∃ (Ls13 : Mem), ∃ (TLs14 : Tls), inR .i64 s.1 ∧ RV (kSl (kInt .u8)) m' v10 s.2.1 ∧ I m' s.2.2 Ls13 TLs14 ∧ S (B s.2.2) m' w ((Ls13 ++ L)) ((TLs14 ++ TL)) ∧ Env 39 a [(0, v0), (3, (.int .i64 s.1)), (4, v10)]) ?_ ?_
 {
 exact ⟨_, (M.le.refl _), v3, Ls_0, TLs_0, (show inR .i64 0 from inR_lit (by decide)), hv2, hI0_, hS, hE.cut ⟨rfl, rfl, rfl, trivial⟩⟩
 }
 {
 rintro ⟨x7, x9, x12⟩ a w ⟨m5, hm6, v10, Ls13, TLs14, hr8, hv11, hI15, hS, hE⟩ r16 h hb17
 have h : block_All_1_b1 step x7 x9 x12 = some r16 := h
 unfold block_All_1_b1 at h
 refine kseq (kseq (kreg ?_))
 refine qm hE rfl rfl fun a hE => ?_
 refine sp hE (r_lenSl (k := (kInt .u8)) hE rfl rfl Try.underlying37 hv11) rfl fun a hE => ?_
 refine sp hE (r_bin hE rfl rfl b_gtr) rfl fun a hE => ?_
 refine knil ?_
 refine kif hE rfl (fun hd21 => ?_) (fun hd21 => ?_)
 {
 have h := ite_T hd21 h
 refine kskip (kblock (kseq (kreg ?_)))
 refine qm hE rfl rfl fun a hE => ?_
 obtain ⟨r23, hr24, h⟩ := ob h
 refine st hE (st_call (vs := [v10]) hE rfl Try.call33 (c_block_Read (hS := hS) hv11 hr24)) rfl ?_
 rintro _ a w ⟨m25, hm26, hS, v0_27, v1_28, v2_29, rfl, hv0_30, hv1_31, hv2_32⟩ hE
 obtain ⟨rfl, hr34⟩ := RV_int hv1_31
 obtain ⟨rfl, hr35⟩ := RV_int hv2_32
 refine qm hE rfl rfl fun a hE => ?_
 refine sp hE (r_extract hE rfl rfl) rfl fun a hE => ?_
 refine sp hE (r_extract hE rfl rfl) rfl fun a hE => ?_
 refine sp hE (r_extract hE rfl rfl) rfl fun a hE => ?_
 refine qa hE rfl rfl fun a hE => ?_
 refine qa hE rfl rfl fun a hE => ?_
 refine qa hE rfl rfl fun a hE => ?_
 refine knil (kseq (kseq (kreg ?_)))
 refine qm hE rfl rfl fun a hE => ?_
 refine sp hE (r_bin hE rfl rfl b_neq) rfl fun a hE => ?_
 refine knil ?_
 refine kif hE rfl (fun hd45 => ?_) (fun hd45 => ?_)
 {
 have h := ite_T hd45 h
 refine kret ?_
 have h := unwrap h hb17
 obtain rfl := oi h
 try dsimp only
 refine Fin.mk hE (rs := []) rfl ResL.nil ?_
 exact ⟨_, Ls13, TLs14, (M.le.trans hm6 hm26), (mono _ _ _ _ _ hm26 hI15), hS⟩
 }
 {
 have h := ite_F hd45 h
 refine kskip (kseq (kseq (kreg ?_)))
 refine qm hE rfl rfl fun a hE => ?_
 refine sp hE (r_lenSl (k := kAV) hE rfl rfl Try.underlying29 hv0_30) rfl fun a hE => ?_
 refine qm hE rfl rfl fun a hE => ?_
 refine knil ?_
 refine kcut (fun a w => ∃ x51 : Int, ∃ x53 : σ, block_All_1_j1 x9 r23 x51 x53 = some r16 ∧ ∃ m', M.le m25 m' ∧ ∃ (Ls54 : Mem), ∃ (TLs55 : Tls), inR .i64 x51 ∧ I m' x53 Ls54 TLs55 ∧ S (B x53) m' w ((Ls54 ++ L)) ((TLs55 ++ TL)) ∧ Env 39 a [(0, v0), (3, (.int .i64 x51)), (4, v10), (6, (.int .i64 r23.2.1))]) ?_ ?_
 {
 refine kblock ?_
 refine kloop h (fun (s : (Int × Int × σ)) a w => ∃ m', M.le m25 m' ∧ ∃ (Ls72 : Mem), ∃ (TLs73 : Tls), inR .i64 s.1 ∧ inR .i64 s.2.1 ∧ I m' s.2.2 Ls72 TLs73 ∧ S (B s.2.2) m' w ((Ls72 ++ L)) ((TLs73 ++ TL)) ∧ Env 39 a [(0, v0), (3, (.int .i64 s.1)), (4, v10), (6, (.int .i64 r23.2.1)), (22, v0_27), (23, (.int .i64 (r23.1.length : Int))), (24, (.int .i64 s.2.1))]) ?_ ?_
 {
 exact ⟨_, (M.le.refl _), Ls13, TLs14, hr8, (show inR .i64 0 from inR_lit (by decide)), (mono _ _ _ _ _ hm26 hI15), hS, hE.cut ⟨rfl, rfl, rfl, rfl, rfl, rfl, rfl, trivial⟩⟩
 }
 {
 rintro ⟨x67, x69, x71⟩ a w ⟨m65, hm66, Ls72, TLs73, hr68, hr70, hI74, hS, hE⟩ r75 h hb76
 have h : block_All_1_b2 step x9 r23 x67 x69 x71 = some r75 := h
 unfold block_All_1_b2 at h
 refine kseq (kreg ?_)
 refine sp hE (r_bin hE rfl rfl b_lss) rfl fun a hE => ?_
 refine knil (kseq ?_)
 refine kif hE rfl (fun hd78 => ?_) (fun hd78 => ?_)
 {
 have h := ite_T hd78 h
 refine kskip (kseq (kblock (kseq (kreg ?_))))
 obtain ⟨x79, hx80, h⟩ := ob h
 refine st hE (st_index (k := kAV) hE rfl rfl Try.underlying29 Try.sizeOf53 (hv0_30.mono hm66) hx80) rfl ?_
 rintro v82 a _ ⟨rfl, hp81⟩ hE
 refine st hE (st_loadM hE hS ty53 rfl hp81) rfl ?_
 rintro v84 a _ ⟨rfl, hv83⟩ hE
 refine st hE (st_alloc hS Try.zeroValue53 rfl (cs := zc53)) rfl ?_
 rintro _ a w ⟨b85, rfl, hS⟩ hE
 refine st0 hE (st_storeF hE hS ty53 StF_self rfl rfl hv83 (i := 0) rfl (zr53 _)) ?_
 rintro _ w ⟨cs87, hc88, hS⟩ hE
 refine knil (kseq (kseq (kreg ?_)))
 refine qm hE rfl rfl fun a hE => ?_
 refine qm hE rfl rfl fun a hE => ?_
 refine st hE (st_loadL hE hS ty53 rfl (i := 0) rfl (R_whole hc88)) rfl ?_
 rintro v93 a _ ⟨rfl, hv92⟩ hE
 obtain ⟨r94, hr95, h⟩ := ob h
 refine st hE (hy _ _ L TL _ _ _ [(.int .i64 x67), v93] _ _ _ hI74 (hS.dropL 1) ⟨_, _, rfl, (RV_of_int hr68), hv92⟩ hr95 _ _ _ _ _ _ _ _ _ (hE.eval rfl) (argl_eval hE rfl)) rfl ?_
 rintro v102 a w ⟨hq98, m96, Ls99, TLs100, hm97, hI101, hS⟩ hE
 obtain rfl := hq98
 refine sp hE (r_not hE rfl) rfl fun a hE => ?_
 refine knil ?_
 refine kif hE rfl (fun hd104 => ?_) (fun hd104 => ?_)
 {
 have h := ite_T hd104 h
 refine kret ?_
 have h := unwrap h hb76
 have h := unwrap h hb17
 obtain rfl := oi h
 try dsimp only
 refine Fin.mk hE (rs := []) rfl ResL.nil ?_
 exact ⟨_, Ls99, TLs100, (M.le.trans hm6 (M.le.trans hm26 (M.le.trans hm66 hm97))), hI101, hS⟩
 }
 {
 have h := ite_F hd104 h
 refine kskip (kreg ?_)
 refine qm hE rfl rfl fun a hE => ?_
 refine sp hE (r_bin hE rfl rfl (b_add rfl)) rfl fun a hE => ?_
 refine qa hE rfl rfl fun a hE => ?_
 refine knil (kreg ?_)
 refine sp hE (r_bin hE rfl rfl (b_add rfl)) rfl fun a hE => ?_
 refine qm hE rfl rfl fun a hE => ?_
 refine knil ?_
 exact ⟨(IntKind.i64.wrap (x67 + 1), IntKind.i64.wrap (x69 + 1), r94.1), (Option.some.inj h).symm, _, (M.le.trans hm66 hm97), Ls99, TLs100, (inR_wrap _ _), (inR_wrap _ _), hI101, hS, hE.cut ⟨rfl, rfl, rfl, rfl, rfl, rfl, rfl, trivial⟩⟩
 }
 }
 {
 have h := ite_F hd78 h
 refine kexit rfl rfl ?_
 have h := unwrap h hb76
 exact ⟨x67, x71, h, _, hm66, Ls72, TLs73, hr68, hI74, hS, hE.cut ⟨rfl, rfl, rfl, rfl, trivial⟩⟩
 }
 }
 }
 {
 rintro a w ⟨x51, x53, h, m49, hm50, Ls54, TLs55, hr52, hI56, hS, hE⟩
 unfold block_All_1_j1 at h
 refine kreg ?_
 refine qm hE rfl rfl fun a hE => ?_
 refine qm hE rfl rfl fun a hE => ?_
 obtain ⟨x60, hx61, h⟩ := ob h
 refine st hE (st_slice (k := (kInt .u8)) hE rfl Try.underlying37 Try.sizeOf5 (hv11.mono (M.le.trans hm26 hm50)) ⟨_, rfl⟩ rfl hx61 (xl := (some (.tmp 37))) (xh := none)) rfl ?_
 rintro v63 a _ ⟨rfl, hv62⟩ hE
 refine qa hE rfl rfl fun a hE => ?_
 refine knil ?_
 exact ⟨(x51, x60, x53), (Option.some.inj h).symm, _, (M.le.trans hm6 (M.le.trans hm26 hm50)), v63, Ls54, TLs55, hr52, hv62, hI56, hS, hE.cut ⟨rfl, rfl, rfl, trivial⟩⟩
 }
 }
 }
 {
 have h := ite_F hd21 h
 refine kexit rfl rfl ?_
 have h := unwrap h hb17
 obtain rfl := oi h
 try dsimp only
 refine Fin.mk hE (rs := []) rfl ResL.nil ?_
 exact ⟨_, Ls13, TLs14, hm6, hI15, hS⟩
 }
 }
theorem it_block_All_1 {m : M} {v1 : Value} {p1 : (List Int)} (ha1 : PR (kSl (kInt .u8)) m v1 p1) {xs : List (Int × AV)} (h : block_All_1_list p1 = some xs) : IterC Try.prog (Rv2 (kInt .i64) kAV) 71 [v1].toArray m xs := by
 intro σ I step B y m1 w L TL s Ls TLs r mono hle hy hI hS hf
 exact c_block_All_1 mono hy hI hS (ha1.mono hle) (fold_block_All_1 h hf)
theorem c_block_All {W0 : Bse} {m : M} {w : World} {L : List (Nat × List Value)} {TL : List (Nat × Value)} (hS : S W0 m w (L) (TL)) {v0 : Value} {p0 : (List Int)} (ha0 : RV (kSl (kInt .u8)) m v0 p0) {r : (List (Int × AV))} (h : block_All p0 = some r) :
    Calls Try.prog 35 [v0].toArray w (Ret fun v w' => ∃ m', M.le m m' ∧ S W0 m' w' (L) (TL) ∧ ItV Try.prog (Rv2 (kInt .i64) kAV) m' v r) := by
 refine kcall Try.func35 rfl Try.ntmps35 (Nat.le_of_ble_eq_true rfl) fun a hE => ?_
 have hE : Env 7 a [(0, v0)] := hE
 unfold block_All at h
 refine kseq (kreg ?_)
 refine qa hE rfl rfl fun a hE => ?_
 refine knil (kseq (kreg ?_))
 refine qm hE rfl rfl fun a hE => ?_
 obtain ⟨r3, hr4, h⟩ := ob h
 refine st hE (st_call (vs := [v0]) hE rfl Try.call70 (c_slices_Clone_byte (hS := hS) ha0 hr4)) rfl ?_
 rintro v8 a w ⟨m5, hm6, hS, hv7⟩ hE
 refine st hE (st_alloc hS Try.zeroValue37 rfl (cs := [(.slice none 0 0)])) rfl ?_
 rintro _ a w ⟨b9, rfl, hS⟩ hE
 refine st0 hE (st_storeSl (k := (kInt .u8)) hE hS ty37 rfl rfl hv7 (i := 0) rfl) ?_
 rintro _ w hS hE
 refine knil (kseq (kreg ?_))
 obtain ⟨m14, hm15, hS, hp16⟩ := S.freezeL (k := (kSl (kInt .u8))) hS (R_of_RVsl hv7)
 obtain ⟨x17, hx18, h⟩ := ob h
 refine sp hE (r_makeFunc hE rfl rfl) rfl fun a hE => ?_
 refine qa hE rfl rfl fun a hE => ?_
 refine knil (kret ?_)
 obtain rfl := oi h
 try dsimp only
 refine Fin.mk hE (rs := [.tmp 2]) rfl (ResL.tmp hE rfl ResL.nil) ?_
 exact ⟨_, (M.le.trans hm6 hm15), (hS.dropT 1), (⟨71, _, rfl, Try.call71, it_block_All_1 hp16 hx18⟩ : ItV Try.prog (Rv2 (kInt .i64) kAV) m14 (.func (.func 71) [].toArray [(.pointer (some ⟨b9, 0, none⟩))].toArray) x17)⟩
end Go.Proofs.Ytifobhaccglckaa.Hay
