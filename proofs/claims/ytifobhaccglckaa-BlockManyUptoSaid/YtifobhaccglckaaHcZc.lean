import Derived.Test.YtifobhaccglckaaHcZb
namespace Go.Proofs.Ytifobhaccglckaa.Hay
open Classical in
noncomputable def dec (kind : Int) (b : List Int) (many : Int) : List AV × Int :=
  if kind < 0 ∨ 4 < kind then ([], 62) else if many < 0 ∨ 64 < many then ([], 61) else
  if h : ∃ l : List AV, (∀ v ∈ l, Rgt v) ∧ (l.length : Int) = many ∧ enc kind l = (b, 0) then (h.choose, 0) else ([], 60)
theorem bytes_eq {a b : List Int} (ha : a.length ≤ 4611686018427387903) : slices_Equal_byte a b = some (decide (a = b)) := by
  unfold slices_Equal_byte
  by_cases h : a.length = b.length
  · rw [if_neg (by simp; omega)]
    have := loop_all (f := fun s : Int => slices_Equal_byte_b1 a b s) (a.zip b) (fun p => p.1 == p.2) false true (fun i hi hp => ?_) (fun i hi hp => ?_) ?_
    · rw [this]
      have e : (a.zip b).all (fun p => p.1 == p.2) = decide (a = b) := by
        clear this ha
        induction a generalizing b with
        | nil => cases b with
          | nil => rfl
          | cons _ _ => simp at h
        | cons x a ih => cases b with
          | nil => simp at h
          | cons y b =>
            rw [List.zip_cons_cons, List.all_cons, ih (by simpa using h)]
            by_cases e : x = y
            · simp [e]
            · simp [e]
      rw [e]
      cases decide (a = b) <;> rfl
    · simp only [List.length_zip] at hi
      simp only [List.getElem_zip, beq_iff_eq] at hp
      unfold slices_Equal_byte_b1
      rw [if_pos (decide_eq_true (by omega)), idx_of (by omega), Option.bind_some, idx_of (by omega), Option.bind_some, if_neg (by simpa using hp), succ64 (by omega)]
    · simp only [List.length_zip] at hi
      simp only [List.getElem_zip, beq_eq_false_iff_ne] at hp
      unfold slices_Equal_byte_b1
      rw [if_pos (decide_eq_true (by omega)), idx_of (by omega), Option.bind_some, idx_of (by omega), Option.bind_some, if_pos (by simpa using hp)]; rfl
    · unfold slices_Equal_byte_b1 slices_Equal_byte_j1
      rw [if_neg (by simp; omega)]; rfl
  · rw [if_pos (by simp; omega)]
    have : a ≠ b := fun e => h (by rw [e])
    simp [this]
theorem enc_bytes_len {kind : Int} {l : List AV} : (enc kind l).2 = 0 → l.all right = true ∧ l.length ≤ 64 := fun h => by
  have : enc kind l = ((enc kind l).1, 0) := Prod.ext rfl h
  obtain ⟨_, h1, h2, _⟩ := enc_some this
  exact ⟨h2, h1⟩
theorem packed_len (l : List Int) (w : Nat) : (packed l w).length = (l.length * w + 7) / 8 := packB_len _ _ _
theorem encK_len {kind : Int} {l : List AV} (h : ∀ v ∈ l, Rgt v) (hl : l.length ≤ 64) : (encK kind l).length ≤ 100000 := by
  obtain ⟨w1, w2, w3⟩ := words_prop h
  unfold encK
  split
  · obtain ⟨h1, h2, _⟩ := runsL_all (l := l)
    have := flat_le (runsL l) (fun r => r.fMany :: oneB r.fValue) 67 fun x hx => by
      have := (oneB_len (h _ (h1 x hx).2.2)).2
      simp; omega
    unfold runsB; omega
  split
  · have := flat_le (List.range ((l.map (·.fInt)).length - 1)) (dstep (l.map (·.fInt))) 10 fun x _ => short_len10 (zig_lt (wrap_r _))
    unfold deltaB
    simp only [List.length_append, be8_length, List.length_range, List.length_map] at *
    omega
  split
  · have h1 := flat_len (l := words l) fun v hv => h v ((w2 v).1 hv)
    have hwid : wid ((words l).length - 1) ≤ 64 := wid_le (Nat.lt_of_lt_of_le (show (words l).length - 1 < 64 by omega) (by decide))
    have := Nat.mul_le_mul hl hwid
    unfold dictB
    simp only [List.length_cons, List.length_append, packed_len, List.length_map]
    omega
  split
  · by_cases hi : ∀ x ∈ l.map (·.fInt), i64r x
    · have hu := above_u64 hi
      have := Nat.mul_le_mul hl (widMax_prop hu).1
      have hal : (aboveL (l.map (·.fInt))).length = l.length := by simp [aboveL]
      unfold smallB
      simp only [List.length_append, be8_length, List.length_singleton, packed_len, hal]
      omega
    · exfalso
      apply hi
      intro x hx
      obtain ⟨v, hv, rfl⟩ := List.mem_map.1 hx
      exact (h v hv).ok.int
  · have := flat_len h
    unfold plainB; omega
theorem enc_len (kind : Int) {l : List AV} (h : ∀ v ∈ l, VOK v) : (enc kind l).1.length ≤ 100000 := by
  unfold enc
  repeat' split
  all_goals first | exact Nat.zero_le _ | skip
  rename_i h2 h3 _ _
  exact encK_len (rgt_all h (by simpa using h3)) (by omega)
theorem dec_of {kind : Int} {b : List Int} {many : Nat} {g : List AV} {ok : Bool} (hk : 0 ≤ kind ∧ kind ≤ 4) (hm : many ≤ 64) (hg : ∀ v ∈ g, VOK v) (hx : ∀ l : List AV, (∀ v ∈ l, Rgt v) → l.length = many → enc kind l = (b, 0) → g = l ∧ ok = true) :
    (if (!ok) = true ∨ (enc kind g).2 ≠ 0 ∨ g.length ≠ many ∨ (enc kind g).1 ≠ b then ([], 60) else (g, 0)) = dec kind b (many : Int) := by
  unfold dec
  rw [if_neg (show ¬ (kind < 0 ∨ 4 < kind) by omega), if_neg (show ¬ ((many : Int) < 0 ∨ 64 < (many : Int)) by omega)]
  by_cases h : ∃ l : List AV, (∀ v ∈ l, Rgt v) ∧ (l.length : Int) = (many : Int) ∧ enc kind l = (b, 0)
  · rw [dif_pos h]
    obtain ⟨c1, c2, c3⟩ := h.choose_spec
    obtain ⟨e1, e2⟩ := hx _ c1 (by omega) c3
    rw [← e1] at c2 c3
    rw [if_neg, e1]
    rintro (h1 | h1 | h1 | h1)
    · rw [e2] at h1; cases h1
    · rw [c3] at h1; exact h1 rfl
    · omega
    · rw [c3] at h1; exact h1 rfl
  · rw [dif_neg h, if_pos]
    apply Classical.byContradiction
    intro hn
    apply h
    have n2 : (enc kind g).2 = 0 := Classical.byContradiction fun h => hn (.inr (.inl h))
    have n3 : g.length = many := Classical.byContradiction fun h => hn (.inr (.inr (.inl h)))
    have n4 : (enc kind g).1 = b := Classical.byContradiction fun h => hn (.inr (.inr (.inr h)))
    exact ⟨g, rgt_all hg (enc_bytes_len n2).1, by omega, Prod.ext n4 n2⟩
theorem dec_bad_kind {kind many : Int} {b : List Int} (h : kind < 0 ∨ 4 < kind) : dec kind b many = ([], 62) := by unfold dec; rw [if_pos h]
theorem dec_bad_many {kind many : Int} {b : List Int} (hk : ¬ (kind < 0 ∨ 4 < kind)) (h : many < 0 ∨ 64 < many) : dec kind b many = ([], 61) := by unfold dec; rw [if_neg hk, if_pos h]
theorem Decode_eq {b : List Int} (kind many : Int) (hb : Byt b) (hl : b.length ≤ 1048576) : encode_Decode kind b many = some (dec kind b many) := by
  have jt1 : encode_Decode_j1 kind b many true = some ([], 62) := rfl
  have jt2 : encode_Decode_j2 kind b many true = some ([], 61) := rfl
  unfold encode_Decode
  by_cases h0 : kind < 0
  · rw [if_pos (by simpa using h0), jt1, dec_bad_kind (.inl h0)]
  by_cases h4 : 4 < kind
  · rw [if_neg (by simpa using h0), decide_eq_true h4, jt1, dec_bad_kind (.inr h4)]
  have hk : ¬ (kind < 0 ∨ 4 < kind) := by omega
  rw [if_neg (by simpa using h0), decide_eq_false h4]
  unfold encode_Decode_j1
  rw [if_neg (by decide)]
  by_cases m0 : many < 0
  · rw [if_pos (by simpa using m0), jt2, dec_bad_many hk (.inl m0)]
  by_cases m64 : 64 < many
  · rw [if_neg (by simpa using m0), decide_eq_true m64, jt2, dec_bad_many hk (.inr m64)]
  rw [if_neg (by simpa using m0), decide_eq_false m64]
  unfold encode_Decode_j2
  rw [if_neg (by decide)]
  obtain ⟨n, rfl⟩ := Int.eq_ofNat_of_zero_le (show 0 ≤ many by omega)
  have j4 : ∀ g x, encode_Decode_j4 g x = some (if x = true then ([], 60) else (g, 0)) := fun g x => by cases x <;> rfl
  have key : ∀ (g : List AV) (r : Encode_reader), (∀ v ∈ g, VOK v) → g.length ≤ 1048576 → encode_Decode_j3 kind b (n : Int) g r = some (if (!r.fOk) = true ∨ (enc kind g).2 ≠ 0 ∨ g.length ≠ n ∨ (enc kind g).1 ≠ b then ([], 60) else (g, 0)) := by
    intro g r hg hgl
    unfold encode_Decode_j3
    rw [Encode_eq kind hg hgl, Option.bind_some]
    by_cases e1 : (!r.fOk) = true
    · rw [if_pos e1, j4, if_pos rfl, if_pos (.inl e1)]
    by_cases e2 : (enc kind g).2 = 0
    · by_cases e3 : g.length = n
      · rw [if_neg e1, if_neg (by simpa using e2), if_neg (by simpa using by omega), bytes_eq (by have := enc_len kind hg; omega), Option.bind_some, j4]
        by_cases e4 : (enc kind g).1 = b
        · rw [if_neg (by simpa using e4), if_neg]
          rintro (h | h | h | h)
          · exact e1 h
          · exact h e2
          · exact h e3
          · exact h e4
        · rw [if_pos (by simpa using e4), if_pos (.inr (.inr (.inr e4)))]
      · rw [if_neg e1, if_neg (by simpa using e2), if_pos (by simp; omega), j4, if_pos rfl, if_pos (.inr (.inr (.inl e3)))]
    · rw [if_neg e1, if_pos (by simpa using e2), j4, if_pos rfl, if_pos (.inr (.inl e2))]
  by_cases n0 : n = 0
  · subst n0
    rw [if_neg (by decide), key _ _ (by simp) (by simp), dec_of (by omega) (by omega) (by simp) fun l _ h2 _ => ⟨(List.eq_nil_of_length_eq_zero h2).symm, rfl⟩]
  · obtain ⟨x, hx1, hx2, hx3, hx4⟩ := guess_all (b := b) (many := n) kind hb (by omega) (by omega)
    rw [if_pos (by simp; omega), hx1, Option.bind_some, key _ _ hx2 hx3, dec_of (by omega) (by omega) hx2 hx4]
end Go.Proofs.Ytifobhaccglckaa.Hay
