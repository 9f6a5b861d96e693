import Derived.Test.YtifobhaccglckaaHbkM
namespace Go.Proofs.Ytifobhaccglckaa.Hay
theorem foldY_app {σ α : Type} {step : σ → α → Option (σ × Bool)} : ∀ (xs ys : List α) (s : σ), foldY step s (xs ++ ys) = (foldY step s xs).bind fun r => if r.2 then foldY step r.1 ys else some r
  | [], ys, s => by simp [foldY]
  | x :: xs, ys, s => by
    simp only [List.cons_append, foldY]
    cases h : step s x with
    | none => rfl
    | some r =>
      simp only [Option.bind_some]
      cases hr : r.2 with
      | true => simp only [if_true]; exact foldY_app xs ys r.1
      | false => simp
theorem iterN_some {σ β : Type} {f : σ → Option (σ ⊕ β)} {n : Nat} {s : σ} {b : β} (h : iterN f n s = some b) : ∃ k, n = k + 1 ∧ ((f s = some (.inr b)) ∨ ∃ s', f s = some (.inl s') ∧ iterN f k s' = some b) := by
  cases n with
  | zero => cases h
  | succ k =>
    rw [iterN] at h
    cases hf : f s with
    | none => rw [hf] at h; cases h
    | some r =>
      rw [hf] at h
      cases r with
      | inl s' => exact ⟨k, rfl, .inr ⟨s', rfl, h⟩⟩
      | inr b' => injection h with h; subst h; exact ⟨k, rfl, .inl rfl⟩
abbrev coll {α : Type} : List α → α → Option (List α × Bool) := fun s x => some (s ++ [x], true)
theorem inner_All {σ : Type} {step : σ → Int × AV → Option (σ × Bool)} (rest : List Int) (rr : List AV × Int × Int) : ∀ (k : Nat) (n i : Int) (acc : List (Int × AV)) (out : (Int × List Int × List (Int × AV)) ⊕ List (Int × AV)),
    iterN (fun s : Int × Int × List (Int × AV) => block_All_1_b2 coll rest rr s.1 s.2.1 s.2.2) k (n, i, acc) = some out →
    ∃ n' rest' ys, out = .inl (n', rest', acc ++ ys) ∧ ∀ (s : σ) r, foldY step s ys = some r → loopO (fun s : Int × Int × σ => block_All_1_b2 step rest rr s.1 s.2.1 s.2.2) (n, i, s) = some (if r.2 then .inl (n', rest', r.1) else .inr r.1) := by
  intro k
  induction k with
  | zero => intro n i acc out h; cases h
  | succ k ih =>
    intro n i acc out h
    obtain ⟨k', hk, g⟩ := iterN_some h
    obtain rfl : k' = k := by omega
    clear h
    have h := g
    clear g
    unfold block_All_1_b2 at h
    dsimp only at h
    by_cases hlt : decide (i < (rr.1.length : Int)) = true
    · rw [if_pos hlt] at h
      cases hx : idx rr.1 i with
      | none => rw [hx] at h; rcases h with h | ⟨_, h, _⟩ <;> cases h
      | some x =>
        rw [hx] at h
        simp only [Option.bind_some, Bool.not_true, Bool.false_eq_true, if_false] at h
        rcases h with h | ⟨s', h1, h2⟩
        · cases h
        · simp only [Option.some.injEq, Sum.inl.injEq] at h1
          subst h1
          obtain ⟨n', rest', ys, e, hall⟩ := ih _ _ _ _ h2
          refine ⟨n', rest', (n, x) :: ys, by rw [e]; simp, fun s r hf => ?_⟩
          simp only [foldY] at hf
          cases hst : step s (n, x) with
          | none => rw [hst] at hf; cases hf
          | some q =>
            rw [hst] at hf
            simp only [Option.bind_some] at hf
            cases hq : q.2 with
            | true =>
              rw [hq] at hf
              simp only [if_true] at hf
              rw [loopO_go (s' := (IntKind.i64.wrap (n + 1), IntKind.i64.wrap (i + 1), q.1))]
              · exact hall _ _ hf
              · unfold block_All_1_b2
                simp only
                rw [if_pos hlt, hx, Option.bind_some, hst, Option.bind_some, hq]
                rfl
            | false =>
              rw [hq] at hf
              simp only [Bool.false_eq_true, if_false, Option.some.injEq] at hf
              subst hf
              refine loopO_end ?_
              unfold block_All_1_b2
              simp only
              rw [if_pos hlt, hx, Option.bind_some, hst, Option.bind_some, hq]
              rfl
    · rw [if_neg hlt] at h
      unfold block_All_1_j1 at h
      cases hx : sub rest rr.2.1 rest.length with
      | none => rw [hx] at h; rcases h with h | ⟨_, h, _⟩ <;> cases h
      | some x =>
        rw [hx] at h
        simp only [Option.bind_some, Option.map_some, Option.some.injEq, Sum.inr.injEq] at h
        rcases h with h | ⟨s', h, _⟩
        · subst h
          refine ⟨n, x, [], by simp, fun s r hf => ?_⟩
          simp only [foldY, Option.some.injEq] at hf
          subst hf
          refine loopO_end ?_
          unfold block_All_1_b2 block_All_1_j1
          simp only
          rw [if_neg hlt, hx]
          rfl
        · cases h
theorem fold_block_All_1 {σ : Type} {step : σ → Int × AV → Option (σ × Bool)} {s : σ} {xs : List (Int × AV)} {p : List Int} {r : σ × Bool} (h : block_All_1_list p = some xs) (hf : foldY step s xs = some r) : block_All_1 step s p = some r.1 := by
  have key : ∀ (k : Nat) (n : Int) (rest : List Int) (acc : List (Int × AV)) (xs : List (Int × AV)),
      iterN (fun s : Int × List Int × List (Int × AV) => block_All_1_b1 coll s.1 s.2.1 s.2.2) k (n, rest, acc) = some xs →
      ∃ ys, xs = acc ++ ys ∧ ∀ (s : σ) r, foldY step s ys = some r → loopO (fun s : Int × List Int × σ => block_All_1_b1 step s.1 s.2.1 s.2.2) (n, rest, s) = some r.1 := by
    intro k
    induction k with
    | zero => intro n rest acc xs h; cases h
    | succ k ih =>
      intro n rest acc xs h
      obtain ⟨k', hk, g⟩ := iterN_some h
      obtain rfl : k' = k := by omega
      clear h
      have h := g
      clear g
      unfold block_All_1_b1 at h
      dsimp only at h
      by_cases hlt : decide (0 < (rest.length : Int)) = true
      · rw [if_pos hlt] at h
        cases hx : block_Read rest with
        | none => rw [hx] at h; rcases h with h | ⟨_, h, _⟩ <;> cases h
        | some rr =>
          rw [hx] at h
          simp only [Option.bind_some] at h
          by_cases he : (rr.2.2 != 0) = true
          · rw [if_pos he] at h
            rcases h with h | ⟨s', h, _⟩
            · simp only [Option.map_some, Option.some.injEq, Sum.inr.injEq] at h
              subst h
              refine ⟨[], by simp, fun s r hf => ?_⟩
              simp only [foldY, Option.some.injEq] at hf
              subst hf
              refine loopO_end ?_
              unfold block_All_1_b1
              simp only
              rw [if_pos hlt, hx, Option.bind_some, if_pos he]
              rfl
            · cases h
          · rw [if_neg he] at h
            rcases h with h | ⟨s', h, h2⟩
            · obtain ⟨k2, hk2⟩ := loopO_iff.1 h
              obtain ⟨n', rest', ys, e, _⟩ := inner_All (step := step) rest rr k2 _ _ _ _ hk2
              cases e
            · obtain ⟨k2, hk2⟩ := loopO_iff.1 h
              obtain ⟨n', rest', ys, e, hall⟩ := inner_All (step := step) rest rr k2 _ _ _ _ hk2
              simp only [Sum.inl.injEq] at e
              subst e
              obtain ⟨zs, e2, hz⟩ := ih _ _ _ _ h2
              refine ⟨ys ++ zs, by rw [e2]; simp, fun s r hf => ?_⟩
              rw [foldY_app] at hf
              cases hy : foldY step s ys with
              | none => rw [hy] at hf; cases hf
              | some q =>
                rw [hy] at hf
                simp only [Option.bind_some] at hf
                have hin := hall s q hy
                have hb : block_All_1_b1 step n rest s = some (if q.2 then .inl (n', rest', q.1) else .inr q.1) := by
                  unfold block_All_1_b1
                  rw [if_pos hlt, hx, Option.bind_some, if_neg he]
                  exact hin
                cases hq : q.2 with
                | true =>
                  rw [hq] at hf hb
                  simp only [if_true] at hf hb
                  rw [loopO_go (s' := (n', rest', q.1)) hb]
                  exact hz _ _ hf
                | false =>
                  rw [hq] at hf hb
                  simp only [Bool.false_eq_true, if_false, Option.some.injEq] at hf hb
                  subst hf
                  exact loopO_end hb
      · rw [if_neg hlt] at h
        rcases h with h | ⟨s', h, _⟩
        · simp only [Option.map_some, Option.some.injEq, Sum.inr.injEq] at h
          subst h
          refine ⟨[], by simp, fun s r hf => ?_⟩
          simp only [foldY, Option.some.injEq] at hf
          subst hf
          refine loopO_end ?_
          unfold block_All_1_b1
          simp only
          rw [if_neg hlt]
          rfl
        · cases h
  obtain ⟨k, hk⟩ := loopO_iff.1 h
  obtain ⟨ys, e, hall⟩ := key k _ _ _ _ hk
  simp only [List.nil_append] at e
  subst e
  exact hall _ _ hf
end Go.Proofs.Ytifobhaccglckaa.Hay
