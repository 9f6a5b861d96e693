import Derived.Test.YtifobhaccglckaaHcZc
namespace Go.Proofs.Ytifobhaccglckaa.Hay
theorem encK_byt {kind : Int} {l : List AV} (h : ∀ v ∈ l, Rgt v) (hl : l.length ≤ 64) : Byt (encK kind l) := by
  obtain ⟨w1, w2, w3⟩ := words_prop h
  have fl : ∀ {α : Type} (xs : List α) (f : α → List Int), (∀ x ∈ xs, Byt (f x)) → Byt (xs.flatMap f) := fun xs f hf c hc => by
    obtain ⟨x, hx, hc⟩ := List.mem_flatMap.1 hc
    exact hf x hx c hc
  unfold encK
  split
  · obtain ⟨h1, h2, _⟩ := runsL_all (l := l)
    exact fl _ _ fun x hx => .cons (by have := h1 x hx; omega) (oneB_byt (h _ (h1 x hx).2.2))
  split
  · exact Byt.app (be8_bytes _) (fl _ _ fun x _ => short_byt _)
  split
  · exact .cons (by omega) (.app (fl _ _ fun v hv => oneB_byt (h v ((w2 v).1 hv))) (packed_byt _ _))
  split
  · have hi : ∀ x ∈ l.map (·.fInt), i64r x := fun x hx => by
      obtain ⟨v, hv, rfl⟩ := List.mem_map.1 hx
      exact (h v hv).ok.int
    have := (widMax_prop (above_u64 hi)).1
    exact .app (.app (be8_bytes _) (.cons (by omega) .nil)) (packed_byt _ _)
  · exact fl _ _ fun v hv => oneB_byt (h v hv)
theorem enc_byt (kind : Int) {l : List AV} (h : ∀ v ∈ l, VOK v) : Byt (enc kind l).1 := by
  unfold enc
  repeat' split
  all_goals first | exact .nil | skip
  rename_i h2 h3 _ _
  exact encK_byt (rgt_all h (by simpa using h3)) (by omega)
theorem enc_rgt {kind : Int} {l : List AV} {b : List Int} (h : ∀ v ∈ l, VOK v) (he : enc kind l = (b, 0)) : ∀ v ∈ l, Rgt v := rgt_all h (enc_some he).2.2.1
theorem enc_inj {kind : Int} {l l' : List AV} {b : List Int} (h : ∀ v ∈ l, Rgt v) (h' : ∀ v ∈ l', Rgt v) (hl : l'.length = l.length) (he : enc kind l = (b, 0)) (he' : enc kind l' = (b, 0)) : l' = l := by
  by_cases h0 : l.length = 0
  · rw [List.eq_nil_of_length_eq_zero h0, List.eq_nil_of_length_eq_zero (hl.trans h0)]
  have hb : Byt b := by have := enc_byt kind fun v hv => (h v hv).ok; rw [he] at this; exact this
  have hbl : b.length ≤ 100000 := by have := enc_len kind fun v hv => (h v hv).ok; rw [he] at this; exact this
  obtain ⟨x, _, _, _, hx⟩ := guess_all (b := b) (many := l.length) kind hb (by omega) ⟨by omega, (enc_some he).2.1⟩
  rw [← (hx l h rfl he).1, ← (hx l' h' hl he').1]
theorem dec_enc {kind : Int} {l : List AV} {b : List Int} (h : ∀ v ∈ l, VOK v) (he : enc kind l = (b, 0)) : dec kind b (l.length : Int) = (l, 0) := by
  have hR := enc_rgt h he
  obtain ⟨k1, k2, _⟩ := enc_some he
  unfold dec
  rw [if_neg (show ¬ (kind < 0 ∨ 4 < kind) by omega), if_neg (show ¬ ((l.length : Int) < 0 ∨ 64 < (l.length : Int)) by omega)]
  have hx : ∃ l' : List AV, (∀ v ∈ l', Rgt v) ∧ (l'.length : Int) = (l.length : Int) ∧ enc kind l' = (b, 0) := ⟨l, hR, rfl, he⟩
  rw [dif_pos hx]
  obtain ⟨c1, c2, c3⟩ := hx.choose_spec
  rw [enc_inj hR c1 (by omega) he c3]
theorem dec_cases (kind : Int) (b : List Int) (many : Int) : (∃ l : List AV, dec kind b many = (l, 0) ∧ (∀ v ∈ l, Rgt v) ∧ (l.length : Int) = many ∧ enc kind l = (b, 0)) ∨ (∃ e, dec kind b many = ([], e) ∧ e ≠ 0) := by
  unfold dec
  split
  · right; exact ⟨62, rfl, by decide⟩
  split
  · right; exact ⟨61, rfl, by decide⟩
  split
  · rename_i h
    left
    exact ⟨_, rfl, h.choose_spec⟩
  · right; exact ⟨60, rfl, by decide⟩
def bstep (l : List AV) (s : Int × Int) (k : Nat) : Int × Int := if (enc (k : Int) l).2 = 0 ∧ (s.2 < 0 ∨ ((enc (k : Int) l).1.length : Int) < s.2) then ((k : Int), ((enc (k : Int) l).1.length : Int)) else s
def bests (l : List AV) (n : Nat) : Int × Int := (List.range n).foldl (bstep l) (0, -1)
def best (l : List AV) : Int := (bests l 5).1
theorem bests_succ (l : List AV) (n : Nat) : bests l (n + 1) = bstep l (bests l n) n := by simp [bests, List.range_succ]
theorem Best_eq {l : List AV} (h : ∀ v ∈ l, VOK v) (hl : l.length ≤ 1048576) : encode_Best l = some (best l) := by
  unfold encode_Best
  refine loop_seq (fun i => ((bests l i).1, (bests l i).2, (i : Int))) 5 rfl (fun i hi => ?_) ?_
  · dsimp only
    rw [bests_succ]
    generalize bests l i = s
    unfold encode_Best_b1 encode_Best_j2 encode_Best_j3 bstep
    rw [if_pos (decide_eq_true (by omega)), Encode_eq _ h hl, Option.bind_some, succ64 (by omega)]
    by_cases e : (enc (i : Int) l).2 = 0
    · rw [if_pos (by simpa using e)]
      by_cases e2 : s.2 < 0
      · rw [if_pos (decide_eq_true e2), if_pos rfl, if_pos ⟨e, .inl e2⟩]
      · rw [if_neg (by simpa using e2)]
        by_cases e3 : ((enc (i : Int) l).1.length : Int) < s.2
        · rw [if_pos (decide_eq_true e3), if_pos ⟨e, .inr e3⟩]
        · rw [if_neg (by simpa using e3), if_neg (fun h => by rcases h.2 with h | h <;> contradiction)]
    · rw [if_neg (by simpa using e), if_neg (by decide), if_neg (fun h => e h.1)]
  · rfl
end Go.Proofs.Ytifobhaccglckaa.Hay
