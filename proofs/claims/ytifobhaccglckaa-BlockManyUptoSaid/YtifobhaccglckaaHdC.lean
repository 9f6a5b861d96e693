import Derived.Test.YtifobhaccglckaaHdB
namespace Go.Proofs.Ytifobhaccglckaa.Hay
abbrev noInfo : Block_Info := ⟨0, 0, AV.zero, AV.zero, 0, 0⟩
theorem read_ok {b : List Int} (hb : Byt b) (hl : b.length ≤ 1000000000000) :
    (∃ k m z v w d r, Blk b k m z v w d r ∧ block_read b = some (infoB k m z v w d, d, true)) ∨ (block_read b = some (noInfo, [], false) ∧ ∀ k m z v w d r, ¬ Blk b k m z v w d r) := by
  have short : ∀ {b : List Int}, b.length < 3 → ∀ k m z v w d r, ¬ Blk b k m z v w d r := by
    intro b hs k m z v w d r h
    have := h.eq
    rw [this] at hs
    simp [bodyB_len] at hs
    omega
  have bad : ∀ b, block_read_j1 b true = some (noInfo, [], false) := fun b => rfl
  match b, hb, hl with
  | [], _, _ => exact .inr ⟨rfl, short (by simp)⟩
  | [_], _, _ => exact .inr ⟨rfl, short (by simp)⟩
  | [_, _], _, _ => exact .inr ⟨rfl, short (by simp)⟩
  | k :: m :: z :: t, hb, hl =>
    have b0 := hb.head
    have b1 := hb.tail.head
    have b2 := hb.tail.tail.head
    have bt : Byt t := hb.tail.tail.tail
    simp only [List.length_cons] at hl
    have i0 : idx (k :: m :: z :: t) 0 = some k := idx_cons0 _ _
    have i1 : idx (k :: m :: z :: t) 1 = some m := idx_cons1 _ _ _
    have i2 : idx (k :: m :: z :: t) 2 = some z := idx_of (xs := k :: m :: z :: t) (i := 2) (by simp)
    have e3 : sub (k :: m :: z :: t) 3 ((k :: m :: z :: t).length : Int) = some t := sub_from (xs := k :: m :: z :: t) (k := 3) (by simp)
    have hr0 : block_read (k :: m :: z :: t) = if 4 < k ∨ m = 0 ∨ 64 < m ∨ m < z then some (noInfo, [], false) else block_read_j1 (k :: m :: z :: t) false := by
      unfold block_read
      rw [if_neg (by simp; omega), i0, Option.bind_some, i1, Option.bind_some, Option.bind_some, i2, Option.bind_some, Option.bind_some]
      by_cases c1 : 4 < k
      · rw [if_pos (by simpa using c1), if_pos (.inl c1)]; rfl
      rw [if_neg (by simpa using c1)]
      by_cases c2 : m = 0
      · rw [if_pos (by simpa using c2), if_pos (.inr (.inl c2))]; rfl
      rw [if_neg (by simpa using c2)]
      by_cases c3 : 64 < m
      · rw [if_pos (by simpa using c3), if_pos (.inr (.inr (.inl c3)))]; rfl
      rw [if_neg (by simpa using c3)]
      by_cases c4 : m < z
      · rw [if_pos (.inr (.inr (.inr c4))), decide_eq_true c4]; rfl
      rw [if_neg (by omega), decide_eq_false c4]
    rw [hr0]
    by_cases c : 4 < k ∨ m = 0 ∨ 64 < m ∨ m < z
    · rw [if_pos c]
      refine .inr ⟨rfl, fun k' m' z' v w d r h => ?_⟩
      obtain ⟨rfl, rfl, rfl, _⟩ := h.parts
      have := h.hk; have := h.hm; have := h.hz
      omega
    rw [if_neg c]
    unfold block_read_j1
    rw [if_neg (by decide), i0, Option.bind_some, i1, Option.bind_some, i2, Option.bind_some, e3, Option.bind_some, front_eq bt (by omega), Option.bind_some]
    cases hp : parse t with
    | none =>
      have hf : ∃ x, block_front ([] : List Int) = some x := ⟨_, front_eq (b := []) .nil (by simp)⟩
      obtain ⟨x, hx⟩ := hf
      simp only
      rw [hx, Option.bind_some]
      refine .inr ⟨rfl, fun k' m' z' v w d r h => ?_⟩
      have := h.parts.2.2.2.1
      rw [hp] at this; cases this
    | some q =>
      obtain ⟨v, n1⟩ := q
      have hbd1 := parse_bd bt hp
      simp only
      rw [front_eq (bt.drop _) (by simp; omega), Option.bind_some]
      cases hp2 : parse (t.drop n1) with
      | none =>
        refine .inr ⟨rfl, fun k' m' z' v' w d r h => ?_⟩
        obtain ⟨_, _, _, h1, h2, _⟩ := h.parts
        rw [hp] at h1
        simp only [Option.some.injEq, Prod.mk.injEq] at h1
        rw [← h1.2, hp2] at h2; cases h2
      | some q2 =>
        obtain ⟨w, n2⟩ := q2
        have hbd2 := parse_bd (bt.drop _) hp2
        simp only [Bool.not_true, Bool.false_eq_true, if_false]
        obtain ⟨hRv, t1, ht1, hn1⟩ := parse_some bt hp
        obtain ⟨hRw, t2, ht2, hn2⟩ := parse_some (bt.drop _) hp2
        have htt : (t.drop n1).drop n2 = t2 := by rw [ht2, hn2, List.drop_left]
        have hbt2 : Byt t2 := by rw [← htt]; exact (bt.drop _).drop _
        have hd1 : t.drop n1 = t1 := by rw [ht1, hn1, List.drop_left]
        have hteq : t = oneB v ++ (oneB w ++ t2) := by rw [ht1, ← ht2, hd1]
        have hno : t2.length < 2 → ∀ k' m' z' v' w' d r, ¬ Blk (k :: m :: z :: t) k' m' z' v' w' d r := by
          intro h2 k' m' z' v' w' d r h
          obtain ⟨_, _, _, p1, p2, p3⟩ := h.parts
          rw [hp] at p1
          simp only [Option.some.injEq, Prod.mk.injEq] at p1
          rw [← p1.2, hp2] at p2
          simp only [Option.some.injEq, Prod.mk.injEq] at p2
          rw [← p1.2, ← p2.2, htt] at p3
          rw [p3] at h2
          simp [be2] at h2
          omega
        unfold block_read_j2
        simp only [htt]
        match t2, hteq, htt, hbt2, hno, ht2 with
        | [], _, _, _, hno, _ => exact .inr ⟨by rw [if_pos (by decide)], hno (by simp)⟩
        | [_], _, _, _, hno, _ => exact .inr ⟨by rw [if_pos (by simp)], hno (by simp)⟩
        | x :: y :: rest, hteq, htt, hbt2, hno, ht2 =>
          have bx := hbt2.head
          have by_ := hbt2.tail.head
          obtain ⟨n, hn⟩ : ∃ n, n = x.toNat * 256 + y.toNat := ⟨_, rfl⟩
          have e2 : sub (x :: y :: rest) 2 ((x :: y :: rest).length : Int) = some rest := sub_from (xs := x :: y :: rest) (k := 2) (by simp)
          have hlr : rest.length ≤ t.length := by rw [hteq]; simp; omega
          rw [if_neg (by simp; omega), idx_cons0, Option.bind_some, idx_cons1, Option.bind_some, e2, Option.bind_some, two_bytes bx by_, ← hn, wrap64 (by omega)]
          have hsmall : n < 65536 := by omega
          by_cases hrl : rest.length < n + 4
          · rw [if_pos (by simpa using by omega)]
            refine .inr ⟨rfl, fun k' m' z' v' w' d r h => ?_⟩
            obtain ⟨_, _, _, p1, p2, p3⟩ := h.parts
            rw [hp] at p1
            simp only [Option.some.injEq, Prod.mk.injEq] at p1
            rw [← p1.2, hp2] at p2
            simp only [Option.some.injEq, Prod.mk.injEq] at p2
            rw [← p1.2, ← p2.2, htt] at p3
            unfold be2 at p3
            simp only [List.cons_append, List.nil_append, List.cons.injEq] at p3
            have h4 := h.hr
            have h5 : rest.length = d.length + r.length := by rw [p3.2.2]; simp
            omega
          · have e4 := sub_of (xs := rest) (lo := 0) (hi := n) (by omega) (by omega)
            rw [show ((0 : Nat) : Int) = 0 from rfl, List.drop_zero] at e4
            rw [if_neg (by simpa using by omega), e4, Option.bind_some]
            have hdl : (rest.take n).length = n := by simp; omega
            have hB : Blk (k :: m :: z :: t) k m z v w (rest.take n) (rest.drop n) := by
              refine ⟨?_, by omega, by omega, by omega, hRv, hRw, by omega, by simp; omega⟩
              rw [hteq]
              unfold bodyB be2
              rw [hdl]
              have q1 : ((n / 256 : Nat) : Int) = x := by omega
              have q2 : ((n % 256 : Nat) : Int) = y := by omega
              rw [q1, q2]
              simp
            refine .inl ⟨k, m, z, v, w, rest.take n, rest.drop n, hB, ?_⟩
            have hlen : (k :: m :: z :: t).length = 3 + (oneB v).length + (oneB w).length + 2 + rest.length := by
              rw [hteq]; simp; omega
            rw [hlen]
            unfold infoB
            rw [bodyB_len, hdl, wrap64 (show -9223372036854775808 ≤ k ∧ _ by omega), wrap64 (show -9223372036854775808 ≤ m ∧ _ by omega), wrap64 (show -9223372036854775808 ≤ z ∧ _ by omega)]
            have q3 : IntKind.i64.wrap (((3 + (oneB v).length + (oneB w).length + 2 + rest.length : Nat) : Int) - (rest.length : Int)) = ((5 + (oneB v).length + (oneB w).length : Nat) : Int) := by
              rw [wrap64 (by simp only [List.length_cons] at hlen; omega)]; omega
            have q4 : IntKind.i64.wrap (((5 + (oneB v).length + (oneB w).length : Nat) : Int) + (n : Int)) = ((5 + (oneB v).length + (oneB w).length + n : Nat) : Int) := by
              rw [wrap64 (by simp only [List.length_cons] at hlen; omega)]; omega
            have q5 : IntKind.i64.wrap (((5 + (oneB v).length + (oneB w).length + n : Nat) : Int) + 4) = ((5 + (oneB v).length + (oneB w).length + n + 4 : Nat) : Int) := by
              rw [wrap64 (by simp only [List.length_cons] at hlen; omega)]; omega
            rw [q3, q4, q5]
theorem read_blk {b : List Int} (hb : Byt b) (hl : b.length ≤ 1000000000000) {k m z : Int} {v w : AV} {d r : List Int} (h : Blk b k m z v w d r) : block_read b = some (infoB k m z v w d, d, true) := by
  rcases read_ok hb hl with ⟨k', m', z', v', w', d', r', h1, h2⟩ | ⟨_, h2⟩
  · obtain ⟨rfl, rfl, rfl, rfl, rfl, rfl, _⟩ := h.one h1
    exact h2
  · exact absurd h (h2 _ _ _ _ _ _ _)
end Go.Proofs.Ytifobhaccglckaa.Hay
