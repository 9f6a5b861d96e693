import Derived.Test.YtifobhaccglckaaHdD
namespace Go.Proofs.Ytifobhaccglckaa.Hay
theorem ltB_neg {s u v : List Int} (h : ltB s v = true) : ltB s u = true ∨ ltB u v = true := by
  by_cases h1 : ltB s u = true
  · exact .inl h1
  right
  simp only [Bool.not_eq_true] at h1
  by_cases h2 : ltB u s = true
  · exact ltB_trans h2 h
  · simp only [Bool.not_eq_true] at h2
    have := ltB_tri h1 h2
    subst this; exact h
theorem ltV_neg {a b c : AV} (h : ltV a c = true) : ltV a b = true ∨ ltV b c = true := by
  obtain ⟨ka, ba, na, ta⟩ := a
  obtain ⟨kb, bb, nb, tb⟩ := b
  obtain ⟨kc, bc, nc, tc⟩ := c
  simp only [ltV] at *
  by_cases e1 : ka = kb
  · subst e1
    by_cases e2 : ka = kc
    · subst e2
      simp only [bne_self_eq_false, Bool.false_eq_true, if_false] at *
      by_cases k1 : ka = 1
      · subst k1; simp only [beq_self_eq_true, if_true] at *; revert h; cases ba <;> cases bb <;> cases bc <;> simp
      by_cases k2 : ka = 2
      · subst k2; simp at *; omega
      by_cases k3 : ka = 3
      · subst k3; simp at *; exact ltB_neg h
      simp [k1, k2, k3] at h
    · simp [e2] at *; omega
  · by_cases e2 : ka = kc
    · subst e2
      have e3 : ¬ kb = ka := fun e => e1 e.symm
      have : ka < kb ∨ kb < ka := by omega
      simpa [e1, e3] using this
    · by_cases e3 : kb = kc
      · subst e3; simp [e1] at *; omega
      · simp [e1, e2, e3] at *; omega
theorem leV_trans {a b c : AV} (h : ltV b a = false) (k : ltV c b = false) : ltV c a = false := by
  cases e : ltV c a with
  | false => rfl
  | true =>
    rcases ltV_neg (b := b) e with h' | h'
    · rw [h'] at k; cases k
    · rw [h'] at h; cases h
theorem cmpV_ge (a b : AV) : 0 ≤ cmpV a b ↔ ltV a b = false := by
  have := cmpV_neg a b
  cases e : ltV a b with
  | false => rw [e] at this; simp at this; simp [this]
  | true => rw [e] at this; simp at this; simp; omega
theorem min_fold : ∀ (l : List AV) (v : AV), ltV v (l.foldl (fun m x => if ltV x m then x else m) v) = false ∧ ∀ x ∈ l, ltV x (l.foldl (fun m x => if ltV x m then x else m) v) = false
  | [], v => ⟨ltV_irr v, by simp⟩
  | y :: l, v => by
    rw [List.foldl_cons]
    by_cases h : ltV y v = true
    · rw [if_pos h]
      obtain ⟨h1, h2⟩ := min_fold l y
      exact ⟨leV_trans h1 (ltV_asym h), fun x hx => by
        rcases List.mem_cons.1 hx with rfl | hx
        · exact h1
        · exact h2 x hx⟩
    · rw [if_neg h]
      simp only [Bool.not_eq_true] at h
      obtain ⟨h1, h2⟩ := min_fold l v
      exact ⟨h1, fun x hx => by
        rcases List.mem_cons.1 hx with rfl | hx
        · exact leV_trans h1 h
        · exact h2 x hx⟩
theorem max_fold : ∀ (l : List AV) (v : AV), ltV (l.foldl (fun m x => if ltV m x then x else m) v) v = false ∧ ∀ x ∈ l, ltV (l.foldl (fun m x => if ltV m x then x else m) v) x = false
  | [], v => ⟨ltV_irr v, by simp⟩
  | y :: l, v => by
    rw [List.foldl_cons]
    by_cases h : ltV v y = true
    · rw [if_pos h]
      obtain ⟨h1, h2⟩ := max_fold l y
      exact ⟨leV_trans (ltV_asym h) h1, fun x hx => by
        rcases List.mem_cons.1 hx with rfl | hx
        · exact h1
        · exact h2 x hx⟩
    · rw [if_neg h]
      simp only [Bool.not_eq_true] at h
      obtain ⟨h1, h2⟩ := max_fold l v
      exact ⟨h1, fun x hx => by
        rcases List.mem_cons.1 hx with rfl | hx
        · exact leV_trans h h1
        · exact h2 x hx⟩
theorem minV_le {l : List AV} {x : AV} (h : x ∈ l) : ltV x (minV l) = false := by
  cases l with
  | nil => cases h
  | cons v l =>
    rcases List.mem_cons.1 h with rfl | h
    · exact (min_fold l x).1
    · exact (min_fold l v).2 x h
theorem maxV_ge {l : List AV} {x : AV} (h : x ∈ l) : ltV (maxV l) x = false := by
  cases l with
  | nil => cases h
  | cons v l =>
    rcases List.mem_cons.1 h with rfl | h
    · exact (max_fold l x).1
    · exact (max_fold l v).2 x h
def mayB (op : Int) (z m : Int) (tk : Int) (r s : Int) : Bool :=
  if op = 6 then decide (0 < z) else if op = 7 then decide (z < m) else if m ≤ z ∨ tk = 0 then false
  else if op = 0 then decide (r ≤ 0 ∧ 0 ≤ s) else if op = 1 then decide (r ≠ 0 ∨ s ≠ 0) else if op = 2 then decide (r < 0) else if op = 3 then decide (r ≤ 0) else if op = 4 then decide (0 < s) else if op = 5 then decide (0 ≤ s) else false
theorem May_eq (k m z n : Int) (v w : AV) (t : Api_Term) : block_May ⟨k, m, v, w, z, n⟩ t = some (mayB t.fOp z m t.fValue.fKind (cmpV v t.fValue) (cmpV w t.fValue)) := by
  unfold block_May
  rw [value_Compare_eq, Option.bind_some, value_Compare_eq, Option.bind_some]
  generalize cmpV v t.fValue = r
  generalize cmpV w t.fValue = s
  obtain ⟨tc, op, tv⟩ := t
  generalize tv.fKind = tk
  simp only [block_May_j1, block_May_j2, block_May_j3, block_May_j4, block_May_j5, block_May_j6, block_May_j7, block_May_j8, mayB]
  by_cases c6 : op = 6
  · subst c6; simp
  by_cases c7 : op = 7
  · subst c7; simp
  by_cases hz : z < m
  · by_cases ht : tk = 0
    · subst ht
      simp [c6, c7, hz]
      repeat' split
      all_goals simp_all
    · have hmz : ¬ m ≤ z := by omega
      simp [c6, c7, hz, ht, hmz]
      by_cases c0 : op = 0
      · subst c0; simp; by_cases hr : r ≤ 0 <;> simp [hr]
      by_cases c1 : op = 1
      · subst c1; simp; by_cases hr : r = 0 <;> by_cases hs : s = 0 <;> simp [hr, hs]
      by_cases c2 : op = 2
      · subst c2; simp
      by_cases c3 : op = 3
      · subst c3; simp; by_cases hr : r = 0
        · simp [hr, ht]
        · simp [hr]; omega
      by_cases c4 : op = 4
      · subst c4; simp
      by_cases c5 : op = 5
      · subst c5; simp; by_cases hs : s = 0
        · simp [hs, ht]
        · simp [hs]; omega
      simp [c0, c1, c2, c3, c4, c5]
  · have hmz : m ≤ z := by omega
    simp [c6, c7, hz, hmz]
    repeat' split
    all_goals simp_all
theorem ref_May_eq (k m z n : Int) (v w : AV) (t : Api_Term) : hayloftref07_May ⟨k, m, v, w, z, n⟩ t = some (mayB t.fOp z m t.fValue.fKind (cmpV v t.fValue) (cmpV w t.fValue)) := by
  unfold hayloftref07_May hayloftref07_May_j1 hayloftref07_May_j2 hayloftref07_May_j3
  simp only [ref_Compare_eq, Option.bind_some]
  generalize cmpV v t.fValue = r
  generalize cmpV w t.fValue = s
  obtain ⟨tc, op, tv⟩ := t
  generalize tv.fKind = tk
  simp only [mayB]
  by_cases c6 : op = 6
  · subst c6; simp
  by_cases c7 : op = 7
  · subst c7; simp
  by_cases hz : m ≤ z
  · simp [c6, c7, hz]
  by_cases ht : tk = 0
  · subst ht; simp [c6, c7, hz]
  simp [c6, c7, hz, ht]
  by_cases c0 : op = 0
  · subst c0; simp; by_cases hr : r ≤ 0 <;> simp [hr]
  by_cases c1 : op = 1
  · subst c1; simp; by_cases hr : r = 0 <;> by_cases hs : s = 0 <;> simp [hr, hs]
  by_cases c2 : op = 2
  · subst c2; simp
  by_cases c3 : op = 3
  · subst c3; simp
  by_cases c4 : op = 4
  · subst c4; simp
  by_cases c5 : op = 5
  · subst c5; simp
  simp [c0, c1, c2, c3, c4, c5]
def termB (op tk vk c : Int) : Bool :=
  if op = 6 then decide (vk = 0) else if op = 7 then decide (vk ≠ 0) else if vk = 0 ∨ tk = 0 then false
  else if op = 0 then decide (c = 0) else if op = 1 then decide (c ≠ 0) else if op = 2 then decide (c < 0) else if op = 3 then decide (c ≤ 0) else if op = 4 then decide (0 < c) else if op = 5 then decide (0 ≤ c) else false
theorem term_eq (t : Api_Term) (v : AV) : hayloftlaw07_term t v = some (termB t.fOp t.fValue.fKind v.fKind (cmpV v t.fValue)) := by
  unfold hayloftlaw07_term hayloftlaw07_term_j1 hayloftlaw07_term_j2
  simp only [ref_Compare_eq, Option.bind_some]
  generalize cmpV v t.fValue = c
  obtain ⟨tc, op, tv⟩ := t
  generalize tv.fKind = tk
  generalize v.fKind = vk
  simp only [termB]
  by_cases c6 : op = 6
  · subst c6; by_cases hv : vk = 0 <;> simp [hv]
  by_cases c7 : op = 7
  · subst c7; by_cases hv : vk = 0 <;> simp [hv]
  by_cases hv : vk = 0
  · subst hv; simp [c6, c7]
  by_cases ht : tk = 0
  · subst ht; simp [c6, c7, hv]
  simp [c6, c7, hv, ht]
  by_cases c0 : op = 0
  · subst c0; by_cases hc : c = 0 <;> simp [hc]
  by_cases c1 : op = 1
  · subst c1; by_cases hc : c = 0 <;> simp [hc]
  by_cases c2 : op = 2
  · subst c2; simp
  by_cases c3 : op = 3
  · subst c3; simp
  by_cases c4 : op = 4
  · subst c4; simp
  by_cases c5 : op = 5
  · subst c5; simp
  simp [c0, c1, c2, c3, c4, c5]
theorem may_term {l : List AV} {x : AV} (hx : x ∈ l) (op : Int) (t : AV) (h : termB op t.fKind x.fKind (cmpV x t) = true) : mayB op (nulls l : Int) (l.length : Int) t.fKind (cmpV (minV l) t) (cmpV (maxV l) t) = true := by
  have n0 : x.fKind = 0 → 0 < nulls l := fun e => List.length_pos_iff.2 (fun e' => by
    have : x ∈ l.filter fun v => v.fKind == 0 := List.mem_filter.2 ⟨hx, by simp [e]⟩
    rw [e'] at this; cases this)
  have n1 : x.fKind ≠ 0 → nulls l < l.length := fun e => by
    unfold nulls
    refine Nat.lt_of_le_of_ne (List.length_filter_le _ _) fun e' => ?_
    have := (List.filter_eq_self.1 (List.length_filter_eq_length_iff.1 e' |> fun h => List.filter_eq_self.2 h)) x hx
    simp at this; exact e this
  have hmin := minV_le hx
  have hmax := maxV_ge hx
  unfold termB at h
  unfold mayB
  split
  · rename_i c; rw [if_pos c] at h; have := n0 (by simpa using h); simpa using this
  rename_i c6
  rw [if_neg c6] at h
  split
  · rename_i c; rw [if_pos c] at h; have := n1 (by simpa using h); simpa using this
  rename_i c7
  rw [if_neg c7] at h
  by_cases hk : x.fKind = 0 ∨ t.fKind = 0
  · rw [if_pos hk] at h; cases h
  rw [if_neg hk] at h
  have hk1 : x.fKind ≠ 0 := fun e => hk (.inl e)
  have hk2 : t.fKind ≠ 0 := fun e => hk (.inr e)
  have := n1 hk1
  rw [if_neg (by omega)]
  -- least ≤ x ≤ greatest
  have a1 : cmpV x t ≤ 0 → cmpV (minV l) t ≤ 0 := fun h => by
    rw [cmpV_le] at h ⊢; exact leV_trans hmin h
  have a2 : 0 ≤ cmpV x t → 0 ≤ cmpV (maxV l) t := fun h => by
    rw [cmpV_ge] at h ⊢; exact leV_trans h hmax
  have a3 : cmpV x t < 0 → cmpV (minV l) t < 0 := fun h => by
    rw [cmpV_neg] at h ⊢
    rcases ltV_neg (b := minV l) h with h' | h'
    · rw [hmin] at h'; cases h'
    · exact h'
  have a4 : 0 < cmpV x t → 0 < cmpV (maxV l) t := fun h => by
    rw [cmpV_pos] at h ⊢
    rcases ltV_neg (b := maxV l) h with h' | h'
    · exact h'
    · rw [hmax] at h'; cases h'
  repeat' split at h
  all_goals (try simp only [decide_eq_true_eq, Bool.false_eq_true] at h)
  all_goals (repeat' split)
  all_goals (simp only [decide_eq_true_eq])
  all_goals first | omega | exact absurd ‹_› (by omega) | (simp_all; omega)
end Go.Proofs.Ytifobhaccglckaa.Hay
