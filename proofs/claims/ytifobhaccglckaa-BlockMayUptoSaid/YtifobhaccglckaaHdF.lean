import Derived.Test.YtifobhaccglckaaHdE
namespace Go.Proofs.Ytifobhaccglckaa.Hay
theorem RHead_blk {b : List Int} (hb : Byt b) (hl : b.length ≤ 100000000) {k m z : Int} {v w : AV} {d r : List Int} (h : Blk b k m z v w d r) :
    hayloftref07_Head b = some (⟨k, m, v, w, z, (((bodyB k m z v w d).length + 4 : Nat) : Int)⟩, ((5 + (oneB v).length + (oneB w).length : Nat) : Int), 0) := by
  obtain ⟨t, ht⟩ : ∃ t, b = k :: m :: z :: t := ⟨_, by rw [h.eq]; unfold bodyB; simp only [List.cons_append]; rfl⟩
  subst ht
  obtain ⟨_, _, _, p1, p2, p3⟩ := h.parts
  obtain ⟨n1, hn1⟩ : ∃ n1, n1 = (oneB v).length := ⟨_, rfl⟩
  obtain ⟨n2, hn2⟩ : ∃ n2, n2 = (oneB w).length := ⟨_, rfl⟩
  rw [← hn1] at p1 p2 p3
  rw [← hn2] at p2 p3
  have hk := h.hk
  have hm := h.hm
  have hz := h.hz
  have hd := h.hd
  have hr := h.hr
  have b1 := oneB_len h.hv
  have b2 := oneB_len h.hw
  have bt : Byt t := hb.tail.tail.tail
  simp only [List.length_cons] at hl
  have hlen : t.length = n1 + n2 + 2 + d.length + r.length := by
    have := congrArg List.length h.eq
    simp only [List.length_append, bodyB_len, List.length_cons] at this
    omega
  have i0 : idx (k :: m :: z :: t) 0 = some k := idx_cons0 _ _
  have i1 : idx (k :: m :: z :: t) 1 = some m := idx_cons1 _ _ _
  have i2 : idx (k :: m :: z :: t) 2 = some z := idx_of (xs := k :: m :: z :: t) (i := 2) (by simp)
  have e3 : sub (k :: m :: z :: t) 3 ((k :: m :: z :: t).length : Int) = some t := sub_from (xs := k :: m :: z :: t) (k := 3) (by simp)
  have e4 : sub (k :: m :: z :: t) ((3 + n1 : Nat) : Int) ((k :: m :: z :: t).length : Int) = some (t.drop n1) := by
    rw [sub_from (by simp; omega), Nat.add_comm]; rfl
  have w1 : IntKind.i64.wrap (3 + (n1 : Int)) = ((3 + n1 : Nat) : Int) := by rw [wrap64 (by omega)]; omega
  have w2 : IntKind.i64.wrap (((3 + n1 : Nat) : Int) + (n2 : Int)) = ((3 + n1 + n2 : Nat) : Int) := by rw [wrap64 (by omega)]; omega
  have w3 : IntKind.i64.wrap (((3 + n1 + n2 : Nat) : Int) + 2) = ((3 + n1 + n2 + 2 : Nat) : Int) := by rw [wrap64 (by omega)]; omega
  have e5 : sub (k :: m :: z :: t) ((3 + n1 + n2 : Nat) : Int) ((3 + n1 + n2 + 2 : Nat) : Int) = some (be2 d.length) := by
    rw [sub_of (by omega) (by simp; omega), List.drop_take, show 3 + n1 + n2 + 2 - (3 + n1 + n2) = 2 by omega]
    have : (k :: m :: z :: t).drop (3 + n1 + n2) = (t.drop n1).drop n2 := by
      rw [List.drop_drop, show 3 + n1 + n2 = (n1 + n2) + 3 by omega]; rfl
    rw [this, p3]
    rfl
  have hbe : Byt (be2 d.length) := .cons (by omega) (.cons (by omega) .nil)
  have hsaid : said (be2 d.length) = (d.length : Int) := by
    unfold be2 said
    simp only [List.foldl_cons, List.foldl_nil]
    omega
  have w4 : IntKind.i64.wrap (d.length : Int) = (d.length : Int) := by rw [wrap64 (by omega)]
  have w5 : IntKind.i64.wrap (((3 + n1 + n2 + 2 : Nat) : Int) + (d.length : Int)) = ((3 + n1 + n2 + 2 + d.length : Nat) : Int) := by rw [wrap64 (by omega)]; omega
  have w6 : IntKind.i64.wrap (((3 + n1 + n2 + 2 + d.length : Nat) : Int) + 4) = ((3 + n1 + n2 + 2 + d.length + 4 : Nat) : Int) := by rw [wrap64 (by omega)]; omega
  unfold hayloftref07_Head
  rw [if_neg (by simp; omega), i0, Option.bind_some, if_neg (by simpa using by omega), i1, Option.bind_some, if_neg (by simpa using by omega), Option.bind_some, if_neg (by simpa using by omega), i2, Option.bind_some, Option.bind_some, decide_eq_false (by omega)]
  unfold hayloftref07_Head_j1
  rw [if_neg (by decide), i0, Option.bind_some, i1, Option.bind_some, i2, Option.bind_some, e3, Option.bind_some, Front_eq bt, p1, Option.bind_some]
  simp only
  rw [if_neg (by simp; omega), w1, e4, Option.bind_some, Front_eq (bt.drop _), p2, Option.bind_some]
  simp only
  rw [if_neg (by simp; omega), w2, w3, decide_eq_false (by simp; omega)]
  unfold hayloftref07_Head_j2
  simp only
  rw [if_neg (by decide), w1, w2, w3, e5, Option.bind_some, Said_eq _ hbe (by unfold be2; simp), hsaid, Option.bind_some, w4, w5, w6, if_neg (by simp; omega), wrap64 (show -9223372036854775808 ≤ k ∧ _ by omega), wrap64 (show -9223372036854775808 ≤ m ∧ _ by omega), wrap64 (show -9223372036854775808 ≤ z ∧ _ by omega), bodyB_len, ← hn1, ← hn2]
  have q1 : 3 + n1 + n2 + 2 + d.length + 4 = 5 + n1 + n2 + d.length + 4 := by omega
  have q2 : 3 + n1 + n2 + 2 = 5 + n1 + n2 := by omega
  rw [q1, q2]
theorem law_BMay {l : List AV} (kind : Int) (t : Api_Term) (h : ∀ v ∈ l, VOK v) (hl : l.length ≤ 1048576) : hayloftlaw07_BlockMay kind l t = some true := by
  unfold hayloftlaw07_BlockMay
  rw [Write_eq kind h hl, Option.bind_some]
  by_cases e : (wr kind l).2 = 0
  · obtain ⟨hby, hle⟩ := wr_byt h e
    obtain ⟨k, hne, hR, he, _, hw, hB⟩ := wr_blk h e
    have hB := hB []
    rw [List.append_nil] at hB
    rw [hw] at hby hle ⊢
    simp only at hby hle ⊢
    rw [if_neg (by decide), Head_blk hby (by omega) hB, Option.bind_some, RHead_blk hby (by omega) hB, Option.bind_some]
    simp only [infoB]
    rw [May_eq, Option.bind_some, blk_alive, Option.bind_some, if_neg (by decide), if_neg (by decide), if_neg (by decide), ref_May_eq, Option.bind_some]
    obtain ⟨x, hx⟩ : ∃ x, x = mayB t.fOp (nulls l : Int) (l.length : Int) t.fValue.fKind (cmpV (minV l) t.fValue) (cmpV (maxV l) t.fValue) := ⟨_, rfl⟩
    rw [← hx, beq_self_eq_true]
    unfold hayloftlaw07_BlockMay_j1
    rw [if_neg (by decide)]
    refine loop_seq (fun i => (i : Int)) l.length rfl (fun i hi => ?_) ?_
    · unfold hayloftlaw07_BlockMay_b1 hayloftlaw07_BlockMay_j3
      rw [if_pos (by simpa using hi), idx_of hi, Option.bind_some, term_eq, Option.bind_some, succ64 (by omega)]
      by_cases ht : termB t.fOp t.fValue.fKind l[i].fKind (cmpV l[i] t.fValue) = true
      · have := may_term (List.getElem_mem hi) t.fOp t.fValue ht
        rw [if_pos ht, hx, this]; rfl
      · rw [if_neg ht]; rfl
    · unfold hayloftlaw07_BlockMay_b1 hayloftlaw07_BlockMay_j2
      rw [if_neg (by simp)]; rfl
  · rw [if_pos (by simpa using e), blk_alive]; rfl
end Go.Proofs.Ytifobhaccglckaa.Hay
