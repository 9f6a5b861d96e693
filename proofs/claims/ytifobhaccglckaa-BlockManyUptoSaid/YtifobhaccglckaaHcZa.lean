import Derived.Test.YtifobhaccglckaaHcZ
namespace Go.Proofs.Ytifobhaccglckaa.Hay
theorem unpR_prop (r : Encode_reader) (many w : Nat) : (unpR r many w).1.length = many ∧ (∀ x ∈ (unpR r many w).1, ∃ n : Nat, x = (n : Int) ∧ n < 18446744073709551616) := by
  unfold unpR
  split
  · exact ⟨by simp, fun x hx => ⟨0, (List.mem_replicate.1 hx).2, by decide⟩⟩
  split
  · exact ⟨by simp, fun x hx => ⟨0, (List.mem_replicate.1 hx).2, by decide⟩⟩
  · rename_i h _
    refine ⟨by simp, fun x hx => ?_⟩
    obtain ⟨i, _, rfl⟩ := List.mem_map.1 hx
    refine ⟨_, rfl, ?_⟩
    have h1 := bnum_lt (fun k => byteBit r.fB (i * w + k)) w
    have h2 : (2 : Nat) ^ w ≤ 2 ^ 64 := Nat.pow_le_pow_right (by decide) (by omega)
    have h3 : (2 : Nat) ^ 64 = 18446744073709551616 := by decide
    unfold unp; omega
theorem unpR_packed {pl : List Int} {w : Nat} (hw : w ≤ 64) (h : ∀ x ∈ pl, 0 ≤ x ∧ x < 2 ^ w) : unpR ⟨packed pl w, true⟩ pl.length w = (pl, ⟨[], true⟩) := by
  have hl : (packed pl w).length = (pl.length * w + 7) / 8 := packB_len _ _ _
  unfold unpR
  rw [if_neg (by omega), if_neg (by dsimp only; omega)]
  dsimp only
  congr 1
  · apply List.ext_getElem
    · simp
    · intro i h1 h2
      have := unp_packed pl w i [] h2 (h _ (List.getElem_mem h2))
      rw [List.append_nil] at this
      simp [this]
  · rw [← hl, List.drop_length]
theorem guess_dict {b : List Int} {many : Nat} (hb : Byt b) (hl : b.length < 140737488355328) (hm : 1 ≤ many ∧ many ≤ 64) : ∃ x, encode_reader_guess ⟨b, true⟩ 3 (many : Int) = some x ∧ Guess 3 b many x := by
  unfold encode_reader_guess
  rw [if_neg (by decide), if_neg (by decide), if_neg (by decide), if_pos (by decide), take_one, Option.bind_some]
  obtain ⟨c, r1, e1, hc, hr1, hr2, hr3⟩ := tk1_any ⟨b, true⟩ hb
  rw [e1]
  dsimp only at *
  rw [idx_cons0, Option.bind_some]
  obtain ⟨cn, rfl⟩ := Int.eq_ofNat_of_zero_le hc.1
  refine loopO_inv (I := fun s : List AV × Int × Encode_reader => Byt s.2.2.fB ∧ s.2.2.fB.length < 140737488355328 ∧ (∀ v ∈ s.1, Rgt v) ∧ s.1.length ≤ cn ∧ s.2.1 = (s.1.length : Int) ∧ ∀ l : List AV, (∀ v ∈ l, Rgt v) → l.length = many → b = dictB l → s.1 = (words l).take s.1.length ∧ cn = (words l).length ∧ s.2.2 = ⟨((words l).drop s.1.length).flatMap oneB ++ packed (l.map fun v => (place (words l) v : Int)) (wid ((words l).length - 1)), true⟩) (μ := fun s => cn - s.1.length) (Q := Guess 3 b many) ?_ ⟨hr1, by dsimp only; omega, by simp, by simp, rfl, fun l hr hlen he => ?_⟩
  · rintro ⟨W, wn, r⟩ ⟨h1, h2, h3, h4, hwn, h5⟩
    dsimp only at *
    subst hwn
    unfold encode_reader_guess_b5
    by_cases hlt : W.length < cn
    · left
      rw [if_pos (decide_eq_true (by omega))]
      obtain ⟨v, r', f1, f2, f3, f4, f5⟩ := value_any h1 h2
      rw [f1, Option.bind_some, app_of (by simp; omega), Option.bind_some]
      refine ⟨_, rfl, ⟨f3, by dsimp only; omega, fun x hx => ?_, by simp; omega, ?_, fun l hr hlen he => ?_⟩, by simp; omega⟩
      · rcases List.mem_append.1 hx with hx | hx
        · exact h3 x hx
        · have : x = v := by simpa using hx
          subst this; exact f2
      · dsimp only; rw [wrapu8]; simp; omega
      · obtain ⟨g1, g2, g3⟩ := h5 l hr hlen he
        have hk : W.length < (words l).length := by omega
        obtain ⟨w1, w2, w3⟩ := words_prop hr
        rw [List.drop_eq_getElem_cons hk, List.flatMap_cons, List.append_assoc] at g3
        subst g3
        have hv := value_one (hr _ ((w2 _).1 (List.getElem_mem hk))) (ok := true) rfl h1 h2
        rw [hv] at f1
        obtain ⟨rfl, rfl⟩ := Prod.mk.inj (Option.some.inj f1)
        refine ⟨?_, g2, by simp⟩
        simp only [List.length_append, List.length_singleton]
        rw [List.take_succ_eq_append_getElem hk, ← g1]
    · right
      rw [if_neg (by simp; omega)]
      unfold encode_reader_guess_j5
      have hmx : IntKind.u64.wrap (IntKind.i64.wrap ((if (W.length : Int) < 1 then 1 else (W.length : Int)) - 1)) = ((W.length - 1 : Nat) : Int) := by
        rw [wrap64 (by split <;> omega), wrapu64]; split <;> omega
      have hwid : wid (W.length - 1) ≤ 64 := wid_le (Nat.lt_of_lt_of_le (show W.length - 1 < 256 by omega) (by decide))
      rw [hmx, len_eq (by omega), Option.bind_some, unpacked_eq h1 (by omega), Option.bind_some]
      obtain ⟨u1, u2⟩ := unpR_prop r many (wid (W.length - 1))
      have hex : ∀ l : List AV, (∀ v ∈ l, Rgt v) → l.length = many → b = dictB l → W = words l ∧ unpR r many (wid (W.length - 1)) = (l.map (fun v => (place (words l) v : Int)), ⟨[], true⟩) := fun l hr hlen he => by
        obtain ⟨g1, g2, g3⟩ := h5 l hr hlen he
        obtain ⟨w1, w2, w3⟩ := words_prop hr
        have e2 : W.length = (words l).length := by omega
        rw [e2, List.take_length] at g1
        refine ⟨g1, ?_⟩
        rw [e2, List.drop_length] at g3
        simp only [List.flatMap_nil, List.nil_append] at g3
        rw [g3, e2, ← hlen]
        have := unpR_packed (pl := l.map fun v => (place (words l) v : Int)) (w := wid ((words l).length - 1)) (by rw [← e2]; exact hwid) (fun x hx => by
          obtain ⟨v, hv, rfl⟩ := List.mem_map.1 hx
          have hp := place_lt ((w2 v).2 hv)
          have hw2 := wid_lt ((words l).length - 1)
          refine ⟨by omega, ?_⟩
          have : ((place (words l) v : Nat) : Int) < ((2 ^ wid ((words l).length - 1) : Nat) : Int) := Int.ofNat_lt.2 (by omega)
          rwa [Int.natCast_pow] at this)
        rw [List.length_map] at this
        exact this
      generalize unpR r many (wid (W.length - 1)) = U at *
      obtain ⟨pl, r2⟩ := U
      dsimp only at *
      have hin : ∃ x, loopO (fun s : ((List AV) × Int) => encode_reader_guess_b4 W (pl, r2) s.1 s.2) ([], 0) = some x ∧ Guess 3 b many x := by
        refine loopO_inv (I := fun s : List AV × Int => (∀ v ∈ s.1, Rgt v) ∧ s.1.length ≤ many ∧ s.2 = (s.1.length : Int) ∧ ∀ l : List AV, (∀ v ∈ l, Rgt v) → l.length = many → b = dictB l → s.1 = l.take s.1.length) (μ := fun s => many - s.1.length) (Q := Guess 3 b many) ?_ ⟨by simp, by simp, rfl, fun l _ _ _ => by simp⟩
        rintro ⟨acc, an⟩ ⟨k1, k2, han, k3⟩
        dsimp only at *
        subst han
        unfold encode_reader_guess_b4 encode_reader_guess_j1
        dsimp only
        by_cases hlt2 : acc.length < many
        · have hi : acc.length < pl.length := by omega
          obtain ⟨n, hn1, hn2⟩ := u2 _ (List.getElem_mem hi)
          have e3 : IntKind.u64.wrap (W.length : Int) = (W.length : Int) := by rw [wrapu64]; omega
          rw [if_pos (decide_eq_true (by omega)), idx_of hi, Option.bind_some, e3, hn1]
          by_cases hge : W.length ≤ n
          · right
            rw [if_pos (decide_eq_true (by omega))]
            refine ⟨_, rfl, by simp, by simp, fun l hr hlen he => ?_⟩
            exfalso
            obtain ⟨_, _, _, _, he⟩ := enc_some he
            have he' : b = dictB l := by
              rcases he with ⟨e, _⟩ | ⟨_, e⟩
              · subst e; simp at hlen; omega
              · exact e
            obtain ⟨g1, g2⟩ := hex l hr hlen he'
            obtain ⟨rfl, _⟩ := Prod.mk.inj g2
            have hp := place_lt (((words_prop hr).2.1 _).2 (List.getElem_mem (show acc.length < l.length by omega)))
            simp only [List.getElem_map] at hn1
            rw [g1] at hge
            omega
          · left
            rw [if_neg (by simp; omega), idx_of (by omega), Option.bind_some, app_of (by simp; omega), Option.bind_some]
            refine ⟨_, rfl, ⟨fun x hx => ?_, by simp; omega, ?_, fun l hr hlen he => ?_⟩, by simp; omega⟩
            · rcases List.mem_append.1 hx with hx | hx
              · exact k1 x hx
              · have : x = W[n] := by simpa using hx
                subst this; exact h3 _ (List.getElem_mem _)
            · dsimp only; rw [succ64 (by omega)]; simp
            · have q := k3 l hr hlen he
              obtain ⟨g1, g2⟩ := hex l hr hlen he
              obtain ⟨rfl, _⟩ := Prod.mk.inj g2
              have hk : acc.length < l.length := by omega
              have hmem := ((words_prop hr).2.1 _).2 (List.getElem_mem hk)
              simp only [List.getElem_map] at hn1
              have hnp : n = place (words l) l[acc.length] := by omega
              subst g1
              subst hnp
              dsimp only
              simp only [List.length_append, List.length_singleton]
              rw [List.take_succ_eq_append_getElem hk, ← q, place_at hmem]
        · right
          rw [if_neg (by simp; omega)]
          refine ⟨_, rfl, fun v hv => (k1 v hv).ok, by dsimp only; omega, fun l hr hlen he => ?_⟩
          obtain ⟨_, _, _, _, he⟩ := enc_some he
          have he' : b = dictB l := by
            rcases he with ⟨e, _⟩ | ⟨_, e⟩
            · subst e; simp at hlen; omega
            · exact e
          have q := k3 l hr hlen he'
          obtain ⟨g1, g2⟩ := hex l hr hlen he'
          obtain ⟨_, rfl⟩ := Prod.mk.inj g2
          have : acc.length = l.length := by omega
          rw [this, List.take_length] at q
          exact ⟨q, rfl⟩
      obtain ⟨x, hx1, hx2⟩ := hin
      rw [hx1]
      exact ⟨x, rfl, hx2⟩
  · obtain ⟨w1, w2, w3⟩ := words_prop hr
    have hcons : b = (((words l).length : Nat) : Int) :: ((words l).flatMap oneB ++ packed (l.map fun v => (place (words l) v : Int)) (wid ((words l).length - 1))) := he
    subst hcons
    rw [tk1_cons] at e1
    obtain ⟨e2, e3⟩ := Prod.mk.inj e1
    refine ⟨by simp, ?_, ?_⟩
    · have := (List.cons.inj e2).1; omega
    · rw [← e3]; rfl
theorem guess_bits {b : List Int} {many : Nat} {kind : Int} (hk : kind ≠ 0 ∧ kind ≠ 1 ∧ kind ≠ 2 ∧ kind ≠ 3) (hb : Byt b) (hm : 1 ≤ many ∧ many ≤ 64) : ∃ x, encode_reader_guess ⟨b, true⟩ kind (many : Int) = some x ∧ Guess kind b many x := by
  unfold encode_reader_guess
  rw [if_neg (by simpa using hk.1), if_neg (by simpa using hk.2.1), if_neg (by simpa using hk.2.2.1), if_neg (by simpa using hk.2.2.2), rnumber_eq hb, Option.bind_some]
  dsimp only
  generalize hx : (if b.length < 8 then ((0 : Int), ({ fB := [], fOk := false } : Encode_reader)) else (said (b.take 8), ⟨b.drop 8, true⟩)) = x0
  have hx1 : Byt x0.2.fB := by
    rw [← hx]
    split
    · exact .nil
    · exact hb.drop _
  rw [take_one, Option.bind_some]
  obtain ⟨c, r1, e1, hc, hr1, hr2, hr3⟩ := tk1_any x0.2 hx1
  rw [e1]
  dsimp only
  obtain ⟨cn, rfl⟩ := Int.eq_ofNat_of_zero_le hc.1
  rw [idx_cons0, Option.bind_some, wrap64 (by omega), unpacked_eq hr1 (by omega), Option.bind_some]
  obtain ⟨u1, u2⟩ := unpR_prop r1 many cn
  have hex : ∀ l : List AV, (∀ v ∈ l, Rgt v) → l.length = many → isInts l = true → b = smallB (l.map (·.fInt)) → x0.1 = minI (l.map (·.fInt)) % 18446744073709551616 ∧ unpR r1 many cn = (aboveL (l.map (·.fInt)), ⟨[], true⟩) := fun l hr hlen hi he => by
    have hin := isInts_at hi hr
    have h' : ∀ x ∈ l.map (·.fInt), i64r x := fun x hx => by obtain ⟨v, hv, rfl⟩ := List.mem_map.1 hx; exact (hin v hv).2
    have hu := above_u64 h'
    obtain ⟨hw, hw2⟩ := widMax_prop hu
    have he2 : b = be8 (minI (l.map (·.fInt)) % 18446744073709551616) ++ ((widMax (aboveL (l.map (·.fInt))) : Nat) : Int) :: packed (aboveL (l.map (·.fInt))) (widMax (aboveL (l.map (·.fInt)))) := by
      rw [he]; unfold smallB; simp
    have h8 : ¬ b.length < 8 := by rw [he2]; simp [be8_length]
    rw [if_neg h8] at hx
    have h1 : b.take 8 = be8 (minI (l.map (·.fInt)) % 18446744073709551616) := by rw [he2]; exact List.take_left' (be8_length _)
    have h2 : b.drop 8 = ((widMax (aboveL (l.map (·.fInt))) : Nat) : Int) :: packed (aboveL (l.map (·.fInt))) (widMax (aboveL (l.map (·.fInt)))) := by rw [he2]; exact List.drop_left' (be8_length _)
    rw [h1, h2, said_be8 (by omega) (by omega)] at hx
    subst hx
    dsimp only at e1
    rw [tk1_cons] at e1
    obtain ⟨e3, e4⟩ := Prod.mk.inj e1
    have e5 : cn = widMax (aboveL (l.map (·.fInt))) := by have := (List.cons.inj e3).1; omega
    subst e4
    refine ⟨rfl, ?_⟩
    have := unpR_packed (pl := aboveL (l.map (·.fInt))) (w := widMax (aboveL (l.map (·.fInt)))) hw (fun x hx => by
      have h3 := hu x hx
      have h4 := wid_lt x.toNat
      have h5 := hw2 x hx
      have h6 : (2 : Nat) ^ wid x.toNat ≤ 2 ^ widMax (aboveL (l.map (·.fInt))) := Nat.pow_le_pow_right (by decide) h5
      refine ⟨h3.1, ?_⟩
      have : ((x.toNat : Nat) : Int) < ((2 ^ widMax (aboveL (l.map (·.fInt))) : Nat) : Int) := Int.ofNat_lt.2 (by omega)
      rw [Int.natCast_pow] at this
      have e : ((x.toNat : Nat) : Int) = x := by omega
      rw [e] at this
      exact this)
    have hal : (aboveL (l.map (·.fInt))).length = many := by simp [aboveL, hlen]
    rw [hal] at this
    rw [e5]; exact this
  generalize unpR r1 many cn = U at *
  obtain ⟨pl, r2⟩ := U
  obtain ⟨n0, rn⟩ := x0
  dsimp only at *
  refine loopO_inv (I := fun s : List AV × Int => (∀ v ∈ s.1, Rgt v) ∧ s.1.length ≤ many ∧ s.2 = (s.1.length : Int) ∧ ∀ l : List AV, (∀ v ∈ l, Rgt v) → l.length = many → isInts l = true → b = smallB (l.map (·.fInt)) → s.1 = l.take s.1.length) (μ := fun s => many - s.1.length) (Q := Guess kind b many) ?_ ⟨by simp, by simp, rfl, fun l _ _ _ _ => by simp⟩
  rintro ⟨acc, an⟩ ⟨k1, k2, han, k3⟩
  dsimp only at *
  subst han
  unfold encode_reader_guess_b6 encode_reader_guess_j1
  dsimp only
  by_cases hlt2 : acc.length < many
  · have hi : acc.length < pl.length := by omega
    left
    unfold value_Int
    rw [if_pos (decide_eq_true (by omega)), idx_of hi, Option.bind_some, Option.bind_some, app_of (by simp; omega), Option.bind_some]
    refine ⟨_, rfl, ⟨fun x hx => ?_, by simp; omega, ?_, fun l hr hlen hi2 he => ?_⟩, by simp; omega⟩
    · rcases List.mem_append.1 hx with hx | hx
      · exact k1 x hx
      · have : x = vInt (IntKind.i64.wrap (IntKind.u64.wrap (n0 + pl[acc.length]))) := by simpa using hx
        subst this; exact .int _ (wrap_r _)
    · dsimp only; rw [succ64 (by omega)]; simp
    · have q := k3 l hr hlen hi2 he
      obtain ⟨g1, g2⟩ := hex l hr hlen hi2 he
      obtain ⟨rfl, _⟩ := Prod.mk.inj g2
      have hin := isInts_at hi2 hr
      have hk : acc.length < l.length := by omega
      have h1 := hin _ (List.getElem_mem hk)
      dsimp only
      simp only [List.length_append, List.length_singleton]
      rw [List.take_succ_eq_append_getElem hk, ← q]
      congr 1
      have e9 : IntKind.i64.wrap (IntKind.u64.wrap (n0 + (aboveL (l.map (·.fInt)))[acc.length])) = l[acc.length].fInt := by
        have : (aboveL (l.map (·.fInt)))[acc.length] = l[acc.length].fInt - minI (l.map (·.fInt)) := by simp [aboveL]
        rw [this, g1, wrapu64, wrap_i64]
        have := h1.2
        unfold i64r at this
        omega
      rw [e9]
      congr 1
      exact h1.1.symm
  · right
    rw [if_neg (by simp; omega)]
    refine ⟨_, rfl, fun v hv => (k1 v hv).ok, by dsimp only; omega, fun l hr hlen he => ?_⟩
    obtain ⟨hk5, _, _, hi2, he⟩ := enc_some he
    have hk4 : kind = 4 := by omega
    subst hk4
    have he' : b = smallB (l.map (·.fInt)) := by
      rcases he with ⟨e, _⟩ | ⟨_, e⟩
      · subst e; simp at hlen; omega
      · exact e
    have q := k3 l hr hlen (hi2 (.inr rfl)) he'
    obtain ⟨g1, g2⟩ := hex l hr hlen (hi2 (.inr rfl)) he'
    obtain ⟨_, rfl⟩ := Prod.mk.inj g2
    have : acc.length = l.length := by omega
    rw [this, List.take_length] at q
    exact ⟨q, rfl⟩
theorem guess_all {b : List Int} {many : Nat} (kind : Int) (hb : Byt b) (hl : b.length < 140737488355328) (hm : 1 ≤ many ∧ many ≤ 64) : ∃ x, encode_reader_guess ⟨b, true⟩ kind (many : Int) = some x ∧ Guess kind b many x := by
  by_cases h0 : kind = 0
  · subst h0; exact guess_plain hb hl hm
  by_cases h1 : kind = 1
  · subst h1; exact guess_runs hb hl hm
  by_cases h2 : kind = 2
  · subst h2; exact guess_delta hb hl hm
  by_cases h3 : kind = 3
  · subst h3; exact guess_dict hb hl hm
  · exact guess_bits ⟨h0, h1, h2, h3⟩ hb hm
end Go.Proofs.Ytifobhaccglckaa.Hay
