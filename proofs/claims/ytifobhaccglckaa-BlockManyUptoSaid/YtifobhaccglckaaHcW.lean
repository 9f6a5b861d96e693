import Derived.Test.YtifobhaccglckaaHcV
namespace Go.Proofs.Ytifobhaccglckaa.Hay
theorem ltB_irr : ∀ s : List Int, ltB s s = false
  | [] => rfl
  | a :: x => by simp [ltB, ltB_irr x]
theorem ltB_trans : ∀ {s u v : List Int}, ltB s u = true → ltB u v = true → ltB s v = true
  | _, [], _, h, _ => by simp [ltB] at h
  | _, _ :: _, [], _, h => by simp [ltB] at h
  | [], _ :: _, _ :: _, _, _ => rfl
  | a :: x, b :: y, c :: z, h, k => by
    simp only [ltB, Bool.or_eq_true, decide_eq_true_eq, Bool.and_eq_true, beq_iff_eq] at *
    rcases h with h | ⟨rfl, h⟩
    · rcases k with k | ⟨rfl, k⟩
      · left; omega
      · left; exact h
    · rcases k with k | ⟨rfl, k⟩
      · left; exact k
      · right; exact ⟨rfl, ltB_trans h k⟩
theorem ltB_tri : ∀ {s u : List Int}, ltB s u = false → ltB u s = false → s = u
  | [], [], _, _ => rfl
  | [], _ :: _, h, _ => by simp [ltB] at h
  | _ :: _, [], _, h => by simp [ltB] at h
  | a :: x, b :: y, h, k => by
    simp only [ltB, Bool.or_eq_false_iff, decide_eq_false_iff_not] at h k
    have e : a = b := by omega
    subst e
    simp only [beq_self_eq_true, Bool.true_and] at h k
    rw [ltB_tri h.2 k.2]
def ltV (a b : AV) : Bool :=
  if a.fKind != b.fKind then decide (a.fKind < b.fKind) else if a.fKind == 1 then !a.fBool && b.fBool else if a.fKind == 2 then decide (a.fInt < b.fInt) else
  if a.fKind == 3 then ltB a.fText b.fText else false
theorem ltV_irr (a : AV) : ltV a a = false := by
  unfold ltV
  repeat' split
  all_goals simp_all [ltB_irr]
theorem ltV_trans {a b c : AV} (h : ltV a b = true) (k : ltV b c = true) : ltV a c = true := by
  obtain ⟨ka, ba, na, ta⟩ := a
  obtain ⟨kb, bb, nb, tb⟩ := b
  obtain ⟨kc, bc, nc, tc⟩ := c
  simp only [ltV] at *
  by_cases e1 : ka = kb
  · subst e1
    by_cases e2 : ka = kc
    · subst e2
      by_cases e1 : ka = 1
      · subst e1; cases ba <;> cases bb <;> cases bc <;> simp_all
      by_cases e2 : ka = 2
      · subst e2; simp at *; omega
      by_cases e3 : ka = 3
      · subst e3; simp at *; exact ltB_trans h k
      · have h1 : (ka == 1) = false := by simpa using e1
        have h2 : (ka == 2) = false := by simpa using e2
        have h3 : (ka == 3) = false := by simpa using e3
        simp [h1, h2, h3] at h
    · have : (ka != kc) = true := by simpa using e2
      simp only [this, if_true] at *; exact k
  · have h1 : (ka != kb) = true := by simpa using e1
    simp only [h1, if_true, decide_eq_true_eq] at h
    by_cases e2 : kb = kc
    · subst e2; simp only [h1, if_true, decide_eq_true_eq]; exact h
    · have h2 : (kb != kc) = true := by simpa using e2
      simp only [h2, if_true, decide_eq_true_eq] at k
      have h3 : (ka != kc) = true := by simp; omega
      simp only [h3, if_true, decide_eq_true_eq]; omega
theorem ltV_tri {a b : AV} (ha : Rgt a) (hb : Rgt b) (h : ltV a b = false) (k : ltV b a = false) : a = b := by
  cases ha <;> cases hb <;> simp [ltV] at h k
  · rfl
  · rename_i x y; cases x <;> cases y <;> simp_all
  · have : ∀ x y : Int, x = y → vInt x = vInt y := fun x y h => by rw [h]
    apply this; omega
  · rw [ltB_tri h k]
def cmpV (a b : AV) : Int := if ltV a b then -1 else if ltV b a then 1 else 0
theorem value_Compare_eq (a b : AV) : value_Compare a b = some (cmpV a b) := by
  unfold value_Compare value_Compare_j1 cmp_Compare_int cmp_Compare_int64 cmp_isNaN_int cmp_isNaN_int64 strings_Compare bytealg_CompareString cmpV cmpB
  simp only [bne_self_eq_false, Option.bind_some, Bool.false_eq_true, if_false]
  obtain ⟨ka, ba, na, ta⟩ := a
  obtain ⟨kb, bb, nb, tb⟩ := b
  simp only [ltV]
  by_cases e : ka = kb
  · subst e
    simp only [bne_self_eq_false, Bool.false_eq_true, if_false]
    by_cases e1 : ka = 1
    · subst e1; cases ba <;> cases bb <;> simp
    · have h1 : (ka == 1) = false := by simpa using e1
      simp only [h1, Bool.false_eq_true, if_false]
      by_cases e2 : ka = 2
      · subst e2; simp
        repeat' split
        all_goals rfl
      · have h2 : (ka == 2) = false := by simpa using e2
        simp only [h2, Bool.false_eq_true, if_false]
        by_cases e3 : ka = 3
        · subst e3; simp
        · have h3 : (ka == 3) = false := by simpa using e3
          simp [h3]
  · have h1 : (ka != kb) = true := by simpa using e
    have h2 : (kb != ka) = true := by simp; omega
    simp only [h1, h2, if_true, decide_eq_true_eq]
    repeat' split
    all_goals rfl
theorem ltV_asym {a b : AV} (h : ltV a b = true) : ltV b a = false := by
  cases k : ltV b a with
  | false => rfl
  | true => have := ltV_trans h k; rw [ltV_irr] at this; cases this
theorem cmpV_neg (a b : AV) : cmpV a b < 0 ↔ ltV a b = true := by
  unfold cmpV
  repeat' split
  all_goals simp_all
theorem good_V {l : List AV} (h : ∀ v ∈ l, Rgt v) : Good value_Compare l := by
  refine ⟨fun x _ y _ => ⟨_, value_Compare_eq x y, ?_⟩, fun x _ => ?_, fun x _ y _ z _ h1 h2 => ?_, fun x hx y hy z hz h1 h2 h3 => ?_, fun x hx y hy h1 h2 => ?_⟩
  · rw [inR_bd]; unfold cmpV
    repeat' split
    all_goals decide
  · rw [value_Compare_eq]; simp only [Option.getD_some]; rw [cmpV_neg, ltV_irr]; decide
  · rw [value_Compare_eq] at *
    simp only [Option.getD_some, cmpV_neg] at *
    exact ltV_trans h1 h2
  · rw [value_Compare_eq] at *
    simp only [Option.getD_some, cmpV_neg, Bool.not_eq_true] at *
    cases hyx : ltV y x with
    | true => have := ltV_trans hyx h3; rw [h2] at this; cases this
    | false => have := ltV_tri (h x hx) (h y hy) h1 hyx; subst this; rw [h2] at h3; cases h3
  · rw [value_Compare_eq] at *
    simp only [Option.getD_some, cmpV_neg, Bool.not_eq_true] at *
    exact ltV_tri (h x hx) (h y hy) h1 h2
abbrev Ris (l : List AV) : Prop := l.Pairwise fun a b => ltV a b = true
theorem Ris.one : ∀ {l k : List AV}, Ris l → Ris k → (∀ v, v ∈ l ↔ v ∈ k) → l = k
  | [], [], _, _, _ => rfl
  | [], b :: k, _, _, h => by have := (h b).2 (by simp); cases this
  | a :: l, [], _, _, h => by have := (h a).1 (by simp); cases this
  | a :: l, b :: k, hl, hk, h => by
    have hl' := List.pairwise_cons.1 hl
    have hk' := List.pairwise_cons.1 hk
    have e : a = b := by
      have h1 := (h a).1 (by simp)
      have h2 := (h b).2 (by simp)
      rcases List.mem_cons.1 h1 with h1 | h1
      · exact h1
      rcases List.mem_cons.1 h2 with h2 | h2
      · exact h2.symm
      have := ltV_asym (hk'.1 a h1)
      rw [hl'.1 b h2] at this; cases this
    subst e
    congr 1
    refine Ris.one hl'.2 hk'.2 fun v => ?_
    have hv := h v
    simp only [List.mem_cons] at hv
    constructor
    · intro hm
      rcases hv.1 (.inr hm) with e | e
      · subst e; have := hl'.1 v hm; rw [ltV_irr] at this; cases this
      · exact e
    · intro hm
      rcases hv.2 (.inr hm) with e | e
      · subst e; have := hk'.1 v hm; rw [ltV_irr] at this; cases this
      · exact e
theorem Ris.nodup {l : List AV} (h : Ris l) : l.Nodup := h.imp fun {a b} h e => by subst e; rw [ltV_irr] at h; cases h
def ins (v : AV) : List AV → List AV
  | [] => [v]
  | x :: r => if ltV x v then x :: ins v r else if v = x then x :: r else v :: x :: r
theorem ins_mem (v : AV) : ∀ (l : List AV) (x : AV), x ∈ ins v l ↔ x = v ∨ x ∈ l
  | [], x => by simp [ins]
  | y :: r, x => by
    simp only [ins]
    split
    · simp only [List.mem_cons, ins_mem v r x]
      constructor <;> (intro h; rcases h with h | h | h <;> simp [h])
    split
    · rename_i e; subst e; simp
    · simp
theorem ins_ris (v : AV) (hv : Rgt v) : ∀ {l : List AV}, (∀ x ∈ l, Rgt x) → Ris l → Ris (ins v l)
  | [], _, _ => by simp [ins]
  | y :: r, hr, h => by
    have h' := List.pairwise_cons.1 h
    simp only [ins]
    split
    · rename_i hlt
      refine List.pairwise_cons.2 ⟨fun x hx => ?_, ins_ris v hv (fun x hx => hr x (by simp [hx])) h'.2⟩
      rcases (ins_mem v r x).1 hx with e | e
      · subst e; exact hlt
      · exact h'.1 x e
    split
    · exact h
    · rename_i h1 h2
      have hvy : ltV v y = true := by
        cases h3 : ltV v y with
        | true => rfl
        | false => exact absurd (ltV_tri hv (hr y (by simp)) h3 (by simpa using h1)) h2
      refine List.pairwise_cons.2 ⟨fun x hx => ?_, h⟩
      rcases List.mem_cons.1 hx with e | e
      · subst e; exact hvy
      · exact ltV_trans hvy (h'.1 x e)
def words (l : List AV) : List AV := l.foldl (fun out v => ins v out) []
theorem words_snoc (l : List AV) (v : AV) : words (l ++ [v]) = ins v (words l) := by simp [words]
theorem words_take {l : List AV} {i : Nat} (h : i < l.length) : words (l.take (i + 1)) = ins l[i] (words (l.take i)) := by
  rw [List.take_succ_eq_append_getElem h, words_snoc]
theorem words_prop {l : List AV} (h : ∀ v ∈ l, Rgt v) : Ris (words l) ∧ (∀ v, v ∈ words l ↔ v ∈ l) ∧ (words l).length ≤ l.length := by
  have key : ∀ i, i ≤ l.length → Ris (words (l.take i)) ∧ (∀ v, v ∈ words (l.take i) ↔ v ∈ l.take i) ∧ (words (l.take i)).length ≤ i := by
    intro i
    induction i with
    | zero => intro _; simp [words]
    | succ i ih =>
      intro hi
      obtain ⟨h1, h2, h3⟩ := ih (by omega)
      have hlt : i < l.length := by omega
      rw [words_take hlt]
      have hr : ∀ x ∈ words (l.take i), Rgt x := fun x hx => h x (List.mem_of_mem_take ((h2 x).1 hx))
      refine ⟨ins_ris _ (h _ (List.getElem_mem hlt)) hr h1, fun v => ?_, ?_⟩
      · rw [ins_mem, h2, List.take_succ_eq_append_getElem hlt, List.mem_append, List.mem_singleton]
        exact or_comm
      · have : ∀ (v : AV) (l : List AV), (ins v l).length ≤ l.length + 1 := by
          intro v l
          induction l with
          | nil => simp [ins]
          | cons y r ih =>
            simp only [ins]
            repeat' split
            all_goals simp
            omega
        have := this l[i] (words (l.take i)); omega
  have := key l.length (Nat.le_refl _)
  rwa [List.take_length] at this
theorem foldl_take {α β : Type} {f : β → α → β} {b : β} {l : List α} {i : Nat} (h : i < l.length) : (l.take (i + 1)).foldl f b = f ((l.take i).foldl f b) l[i] := by
  rw [List.take_succ_eq_append_getElem h, List.foldl_append]; rfl
def dd (s : List AV) : List AV := s.foldl (fun out v => if out.getLast? = some v then out else out ++ [v]) []
theorem dd_snoc (s : List AV) (v : AV) : dd (s ++ [v]) = if (dd s).getLast? = some v then dd s else dd s ++ [v] := by
  unfold dd; rw [List.foldl_append]; rfl
theorem dd_last (s : List AV) {i : Nat} (h : i < s.length) : (dd (s.take (i + 1))).getLast? = some s[i] := by
  rw [List.take_succ_eq_append_getElem h, dd_snoc]
  split
  · assumption
  · simp
theorem dd_step (s : List AV) {i : Nat} (h : i + 1 < s.length) : dd (s.take (i + 2)) = if s[i + 1] = s[i] then dd (s.take (i + 1)) else dd (s.take (i + 1)) ++ [s[i + 1]] := by
  rw [List.take_succ_eq_append_getElem h, dd_snoc, dd_last s (by omega)]
  by_cases e : s[i + 1] = s[i]
  · rw [if_pos e, if_pos (by rw [e])]
  · rw [if_neg e, if_neg (fun h => e (Option.some.inj h).symm)]
theorem dd_one (s : List AV) (h : 0 < s.length) : dd (s.take 1) = s.take 1 := by
  match s, h with
  | a :: r, _ => rfl
theorem dd_prop {s : List AV} (hr : ∀ x ∈ s, Rgt x) (h : s.Pairwise fun x y => ltV y x = false) : Ris (dd s) ∧ (∀ v, v ∈ dd s ↔ v ∈ s) := by
  have key : ∀ i, i ≤ s.length → Ris (dd (s.take i)) ∧ (∀ v, v ∈ dd (s.take i) ↔ v ∈ s.take i) := by
    intro i
    induction i with
    | zero => intro _; simp [dd]
    | succ i ih =>
      intro hi
      obtain ⟨h1, h2⟩ := ih (by omega)
      have hlt : i < s.length := by omega
      rw [List.take_succ_eq_append_getElem hlt, dd_snoc]
      split
      · rename_i e
        refine ⟨h1, fun v => ?_⟩
        rw [h2, List.mem_append, List.mem_singleton]
        constructor
        · exact .inl
        · rintro (hm | rfl)
          · exact hm
          · exact (h2 _).1 (List.mem_of_getLast? e)
      · rename_i e
        refine ⟨List.pairwise_append.2 ⟨h1, by simp, fun a ha b hb => ?_⟩, fun v => by rw [List.mem_append, List.mem_append, h2]⟩
        have hb' : b = s[i] := by simpa using hb
        subst hb'
        have ha' := (h2 a).1 ha
        -- a is ahead of s[i] in s
        obtain ⟨j, hj, rfl⟩ := List.getElem_of_mem ha'
        simp only [List.length_take] at hj
        have hge : ltV s[i] s[j] = false := List.pairwise_iff_getElem.1 h j i (by omega) hlt (by omega)
        rw [List.getElem_take] at ha ⊢
        cases hlt2 : ltV s[j] s[i] with
        | true => rfl
        | false =>
          have e2 := ltV_tri (hr _ (List.getElem_mem (by omega))) (hr _ (List.getElem_mem hlt)) hlt2 hge
          exfalso
          apply e
          have hi0 : 0 < i := by omega
          obtain ⟨i', rfl⟩ : ∃ i', i = i' + 1 := ⟨i - 1, by omega⟩
          rw [dd_last s (by omega)]
          -- s[j] <= s[i'] <= s[i' + 1] = s[j]
          congr 1
          apply ltV_tri (hr _ (List.getElem_mem (by omega))) (hr _ (List.getElem_mem hlt))
          · cases h3 : ltV s[i'] s[i' + 1] with
            | false => rfl
            | true =>
              rw [← e2] at h3
              by_cases e3 : j = i'
              · subst e3; rw [ltV_irr] at h3; cases h3
              · have := List.pairwise_iff_getElem.1 h j i' (by omega) (by omega) (by omega)
                rw [this] at h3; cases h3
          · exact List.pairwise_iff_getElem.1 h i' (i' + 1) (by omega) hlt (by omega)
  have := key s.length (Nat.le_refl _)
  rwa [List.take_length] at this
theorem compact_eq (s : List AV) (hs : s.length < 1048576) : slices_Compact_Value_g s = some (dd s) := by
  unfold slices_Compact_Value_g
  by_cases h2 : s.length < 2
  · rw [if_pos (by simpa using by omega)]
    match s, h2 with
    | [], _ => rfl
    | [a], _ => rfl
  rw [if_neg (by simpa using by omega)]
  refine loopO_eqv (I := fun s' : Int => ∃ i : Nat, s' = ((i + 1 : Nat) : Int) ∧ i + 1 ≤ s.length ∧ dd (s.take (i + 1)) = s.take (i + 1)) (μ := fun x => s.length - x.toNat) ?_ ⟨0, rfl, by omega, dd_one s (by omega)⟩
  rintro _ ⟨i, rfl, hi, hd⟩
  unfold slices_Compact_Value_g_b1
  by_cases hlt : i + 1 < s.length
  · have e1 : IntKind.i64.wrap (((i + 1 : Nat) : Int) - 1) = (i : Int) := by rw [wrap64 (by omega)]; omega
    rw [if_pos (by simpa using by omega), ix_of hlt, Option.bind_some, List.getElem?_eq_getElem hlt, Option.bind_some, e1, ix_of (by omega), Option.bind_some, List.getElem?_eq_getElem (by omega), Option.bind_some]
    by_cases e : s[i + 1] = s[i]
    · right
      rw [if_pos (by simpa using e)]
      have hv : vw s ((i + 1 : Nat) : Int) (s.length : Int) = some (i + 1, s.length - (i + 1)) := by
        unfold vw; rw [if_pos (by omega)]; simp only [Int.toNat_natCast]
      rw [hv, Option.bind_some]
      refine loopO_eqv (I := fun t : Int × Int × List AV => ∃ p k2 : Nat, p = i + 1 + k2 ∧ 1 ≤ k2 ∧ p ≤ s.length ∧ t.1 = ((dd (s.take p)).length : Int) ∧ t.2.1 = (k2 : Int) ∧ t.2.2.length = s.length ∧ (dd (s.take p)).length + 1 ≤ p ∧ t.2.2.take (dd (s.take p)).length = dd (s.take p) ∧ t.2.2.drop (p - 1) = s.drop (p - 1)) (μ := fun t => s.length - t.2.1.toNat) ?_ ?_
      · rintro ⟨t1, t2, xs⟩ ⟨p, k2, hp, hk2, hps, rfl, rfl, hxl, hdl, htk, hdr⟩
        unfold slices_Compact_Value_g_b2
        have hm : Nat.ble (s.length - (i + 1)) maxSz = true := Nat.ble_eq_true_of_le (by unfold maxSz; omega)
        dsimp only at *
        rw [chk_true hm, Option.bind_some]
        by_cases hlt2 : p < s.length
        · left
          have hx1 : xs[p]? = some s[p] := by
            have : (xs.drop (p - 1))[1]? = (s.drop (p - 1))[1]? := by rw [hdr]
            rw [List.getElem?_drop, List.getElem?_drop] at this
            have e : p - 1 + 1 = p := by omega
            rw [e] at this; rw [this, List.getElem?_eq_getElem hlt2]
          have hx0 : xs[p - 1]? = some s[p - 1] := by
            have : (xs.drop (p - 1))[0]? = (s.drop (p - 1))[0]? := by rw [hdr]
            rw [List.getElem?_drop, List.getElem?_drop] at this
            rw [Nat.add_zero] at this; rw [this, List.getElem?_eq_getElem (by omega)]
          have e2 : ixv (i + 1) (s.length - (i + 1)) (k2 : Int) = some p := by unfold ixv; rw [if_pos (by omega)]; simp; omega
          have e3 : ixv (i + 1) (s.length - (i + 1)) (IntKind.i64.wrap ((k2 : Int) - 1)) = some (p - 1) := by
            rw [wrap64 (by omega)]; unfold ixv; rw [if_pos (by omega)]; simp; omega
          have hst := dd_step s (i := p - 1) (by omega)
          have e4 : p - 1 + 1 = p := by omega
          have e5 : p - 1 + 2 = p + 1 := by omega
          simp only [e4, e5] at hst
          rw [if_pos (by simpa using by omega), e2, Option.bind_some, hx1, Option.bind_some, e3, Option.bind_some, hx0, Option.bind_some]
          by_cases e6 : s[p] = s[p - 1]
          · rw [if_pos e6] at hst
            rw [if_neg (by simpa using e6)]
            unfold slices_Compact_Value_g_j4
            refine ⟨_, rfl, ⟨p + 1, k2 + 1, by omega, by omega, by omega, by rw [hst], ?_, hxl, by rw [hst]; omega, by rw [hst]; exact htk, ?_⟩, ?_⟩
            · exact succ64 (by omega)
            · have : p + 1 - 1 = p - 1 + 1 := by omega
              rw [this, ← List.drop_drop, ← List.drop_drop, hdr]
            · dsimp only; rw [succ64 (by omega)]; simp; omega
          · rw [if_neg e6] at hst
            rw [if_pos (by simpa using e6)]
            have hkl : (dd (s.take p)).length < xs.length := by omega
            rw [Option.bind_some, hx1, Option.bind_some, ix_of hkl, Option.bind_some, List.getElem?_eq_getElem hkl, Option.bind_some]
            unfold slices_Compact_Value_g_j4
            refine ⟨_, rfl, ⟨p + 1, k2 + 1, by omega, by omega, by omega, ?_, succ64 (by omega), by simp [hxl], by rw [hst]; simp; omega, ?_, ?_⟩, ?_⟩
            · rw [hst, succ64 (by omega)]; simp
            · rw [hst]
              simp only [List.length_append, List.length_singleton]
              rw [List.take_succ_eq_append_getElem (by simp; omega)]
              rw [List.take_set_of_le (Nat.le_refl _), htk]; simp
            · rw [List.drop_set_of_lt (by omega)]
              have : p + 1 - 1 = p - 1 + 1 := by omega
              rw [this, ← List.drop_drop, ← List.drop_drop, hdr]
            · dsimp only; rw [succ64 (by omega)]; simp; omega
        · right
          have hps' : p = s.length := by omega
          subst hps'
          rw [if_neg (by simpa using by omega)]
          unfold slices_Compact_Value_g_j3
          rw [List.take_length] at *
          have hv2 : vw xs ((dd s).length : Int) (xs.length : Int) = some ((dd s).length, xs.length - (dd s).length) := by
            unfold vw; rw [if_pos (by omega)]; simp only [Int.toNat_natCast]
          rw [hv2, Option.bind_some]
          unfold clr
          rw [if_pos (by dsimp only; omega), Option.bind_some]
          have hsp : (spl xs (dd s).length (List.replicate (xs.length - (dd s).length) AV.zero)).length = xs.length := by
            unfold spl; simp; omega
          have := sub_of (xs := spl xs (dd s).length (List.replicate (xs.length - (dd s).length) AV.zero)) (lo := 0) (hi := (dd s).length) (by omega) (by omega)
          rw [show ((0 : Nat) : Int) = 0 from rfl] at this
          rw [this]
          have e7 : (spl xs (dd s).length (List.replicate (xs.length - (dd s).length) AV.zero)).take (dd s).length = dd s := by
            unfold spl
            rw [List.append_assoc, List.take_left' (by simp; omega)]; exact htk
          rw [List.drop_zero, e7]; rfl
      · have hst := dd_step s (i := i) (by omega)
        rw [if_pos e, hd] at hst
        refine ⟨i + 2, 1, by omega, by omega, by omega, ?_, rfl, rfl, ?_, ?_, rfl⟩
        · rw [hst]; simp; omega
        · rw [hst]; simp; omega
        · rw [hst]; simp
    · left
      rw [if_neg (by simpa using e)]
      unfold slices_Compact_Value_g_j2
      refine ⟨_, rfl, ⟨i + 1, succ64 (by omega), by omega, ?_⟩, ?_⟩
      · rw [dd_step s (i := i) (by omega), if_neg e, hd]
        exact (List.take_succ_eq_append_getElem hlt).symm
      · rw [succ64 (by omega)]; simp; omega
  · right
    have : i + 1 = s.length := by omega
    rw [if_neg (by simpa using by omega)]
    rw [this, List.take_length] at hd
    unfold slices_Compact_Value_g_j1
    rw [hd]; rfl
theorem sort_compact_eq {l : List AV} (h : ∀ v ∈ l, Rgt v) (hl : l.length < 1048576) : ∃ r, slices_SortFunc_Value l value_Compare = some r ∧ slices_Compact_Value_g r = some (words l) := by
  obtain ⟨r, hr⟩ : ∃ r, sortM value_Compare l = some r := by
    unfold sortM; rw [if_pos (good_V h)]; exact ⟨_, rfl⟩
  obtain ⟨_, hp, hs⟩ := sortM_some hr
  refine ⟨r, hr, ?_⟩
  rw [compact_eq r (by rw [hp.length_eq]; exact hl)]
  congr 1
  have hr' : ∀ x ∈ r, Rgt x := fun x hx => h x (hp.mem_iff.1 hx)
  have hs' : r.Pairwise fun x y => ltV y x = false := hs.imp fun {x y} h => by
    rw [value_Compare_eq] at h
    simp only [Option.getD_some, cmpV_neg, Bool.not_eq_true] at h
    exact h
  obtain ⟨h1, h2⟩ := dd_prop hr' hs'
  obtain ⟨h3, h4, _⟩ := words_prop h
  exact Ris.one h1 h3 fun v => by rw [h2, h4, hp.mem_iff]
end Go.Proofs.Ytifobhaccglckaa.Hay
