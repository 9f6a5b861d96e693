import Derived.Test.YtifobhaccglckaaHayZa
/- Plain laws: what bytes may say: the reference's. -/
namespace Go.Proofs.Ytifobhaccglckaa.Hay
/-- A guess: what it may be, and what it is of an encoding. -/
def RGuess (kind : Int) (b : List Int) (many : Nat) (g : List Api_Value) : Prop := (∀ v ∈ g, VOK v) ∧ g.length ≤ 1048576 ∧ ∀ l : List Api_Value, (∀ v ∈ l, Rgt v) → l.length = many → enc kind l = (b, 0) → g = l
theorem enc_is {kind : Int} {l : List Api_Value} {b : List Int} {many : Nat} (he : enc kind l = (b, 0)) (hlen : l.length = many) (hm : 1 ≤ many) : b = encK kind l := by
  obtain ⟨_, _, _, _, he⟩ := enc_some he
  rcases he with ⟨e, _⟩ | ⟨_, e⟩
  · subst e; simp at hlen; omega
  · exact e
theorem ref_plain_ok {b : List Int} {many : Nat} (hb : Byt b) (hl : b.length ≤ 1048576) (hm : 1 ≤ many ∧ many ≤ 64) : ∃ g, hayloftref06_plain b (many : Int) = some g ∧ RGuess 0 b many g := by
  unfold hayloftref06_plain
  refine loopO_inv (I := fun s : List Api_Value × Int × Int => ∃ at_ : Nat, s.2.1 = (at_ : Int) ∧ at_ ≤ b.length ∧ s.2.2 = (s.1.length : Int) ∧ (∀ v ∈ s.1, Rgt v) ∧ s.1.length ≤ many ∧ ∀ l : List Api_Value, (∀ v ∈ l, Rgt v) → l.length = many → b = plainB l → s.1 = l.take s.1.length ∧ b.drop at_ = plainB (l.drop s.1.length)) (μ := fun s => many - s.1.length) (Q := RGuess 0 b many) ?_ ⟨0, rfl, by omega, rfl, by simp, by simp, fun l _ _ h => ⟨rfl, h⟩⟩
  rintro ⟨acc, x, y⟩ ⟨at_, hx, h1, hy, h3, h4, h5⟩
  dsimp only at *
  subst hx; subst hy
  unfold hayloftref06_plain_b1 hayloftref06_plain_j1
  by_cases hlt : acc.length < many
  · rw [if_pos (decide_eq_true (by omega)), sub_from h1, Option.bind_some, Front_eq (hb.drop _), Option.bind_some]
    cases hp : parse (b.drop at_) with
    | none =>
      right
      dsimp only
      rw [if_pos (by decide)]
      refine ⟨_, rfl, by simp, by simp, fun l hr hlen he => ?_⟩
      exfalso
      obtain ⟨g1, g2⟩ := h5 l hr hlen (enc_is he hlen hm.1)
      have hk : acc.length < l.length := by omega
      rw [plainB_drop hk] at g2
      rw [g2, parse_one (hr _ (List.getElem_mem hk))] at hp
      cases hp
    | some p =>
      obtain ⟨v, n⟩ := p
      have hn := parse_bd (hb.drop _) hp
      simp only [List.length_drop] at hn
      left
      dsimp only
      rw [if_neg (by simp; omega), app_of (by simp; omega), Option.bind_some, succ64 (by omega), wrap64 (by omega)]
      refine ⟨_, rfl, ⟨at_ + n, by dsimp only; omega, by omega, by simp, fun x hx => ?_, by simp; omega, fun l hr hlen he => ?_⟩, by simp; omega⟩
      · rcases List.mem_append.1 hx with hx | hx
        · exact h3 x hx
        · have : x = v := by simpa using hx
          subst this; exact (parse_some (hb.drop _) hp).1
      · obtain ⟨g1, g2⟩ := h5 l hr hlen he
        have hk : acc.length < l.length := by omega
        rw [plainB_drop hk] at g2
        rw [g2, parse_one (hr _ (List.getElem_mem hk))] at hp
        obtain ⟨rfl, rfl⟩ := Prod.mk.inj (Option.some.inj hp)
        dsimp only
        simp only [List.length_append, List.length_singleton]
        refine ⟨?_, ?_⟩
        · rw [List.take_succ_eq_append_getElem hk, ← g1]
        · rw [← List.drop_drop, g2, List.drop_left]
  · right
    rw [if_neg (by simp; omega)]
    refine ⟨_, rfl, fun v hv => (h3 v hv).ok, by omega, fun l hr hlen he => ?_⟩
    obtain ⟨g1, g2⟩ := h5 l hr hlen (enc_is he hlen hm.1)
    have : acc.length = l.length := by omega
    rw [this, List.take_length] at g1
    exact g1
theorem ref_runs_ok {b : List Int} {many : Nat} (hb : Byt b) (hl : b.length ≤ 1048576) (hm : 1 ≤ many ∧ many ≤ 64) : ∃ g, hayloftref06_runs b (many : Int) = some g ∧ RGuess 1 b many g := by
  unfold hayloftref06_runs
  refine loopO_inv (I := fun s : List Api_Value × Int => ∃ at_ : Nat, s.2 = (at_ : Int) ∧ at_ ≤ b.length ∧ (∀ v ∈ s.1, Rgt v) ∧ s.1.length ≤ many + 255 ∧ ∀ l : List Api_Value, (∀ v ∈ l, Rgt v) → l.length = many → b = runsB l → ∃ j, j ≤ (runsL l).length ∧ s.1 = expand ((runsL l).take j) ∧ b.drop at_ = runsD ((runsL l).drop j)) (μ := fun s => b.length - s.2.toNat) (Q := RGuess 1 b many) ?_ ⟨0, rfl, by omega, by simp, by simp, fun l _ _ h => ⟨0, by omega, rfl, h⟩⟩
  rintro ⟨acc, x⟩ ⟨at_, hx, h1, h3, h4, h5⟩
  dsimp only at *
  subst hx
  have hend : (at_ = b.length ∨ many ≤ acc.length) → RGuess 1 b many acc := fun h => ⟨fun v hv => (h3 v hv).ok, by omega, fun l hr hlen he => by
    obtain ⟨j, g0, g1, g2⟩ := h5 l hr hlen (enc_is he hlen hm.1)
    obtain ⟨q1, q2, q3⟩ := runsL_all (l := l)
    have hsp := expand_split (runsL l) j
    rw [q3, ← g1] at hsp
    have : expand ((runsL l).drop j) = [] := by
      rcases h with h | h
      · rw [h, List.drop_length] at g2
        cases hd : (runsL l).drop j with
        | nil => rfl
        | cons a t => rw [hd] at g2; simp [runsD] at g2
      · have := congrArg List.length hsp
        simp only [List.length_append] at this
        exact List.eq_nil_of_length_eq_zero (by omega)
    rw [this, List.append_nil] at hsp
    exact hsp.symm⟩
  unfold hayloftref06_runs_b1 hayloftref06_runs_j2 hayloftref06_runs_j1
  by_cases hlt : at_ < b.length
  · rw [if_pos (decide_eq_true (by omega))]
    by_cases hlt2 : acc.length < many
    · have hc := hb b[at_] (List.getElem_mem hlt)
      rw [if_pos (decide_eq_true (by omega)), succ64 (by omega), sub_from (by omega), Option.bind_some, Front_eq (hb.drop _), Option.bind_some]
      cases hp : parse (b.drop (at_ + 1)) with
      | none =>
        right
        dsimp only
        rw [if_pos (by decide)]
        refine ⟨_, rfl, by simp, by simp, fun l hr hlen he => ?_⟩
        exfalso
        obtain ⟨j, g0, g1, g2⟩ := h5 l hr hlen (enc_is he hlen hm.1)
        obtain ⟨q1, q2, q3⟩ := runsL_all (l := l)
        have hj : j < (runsL l).length := by
          rcases Nat.lt_or_ge j (runsL l).length with h | h
          · exact h
          · rw [List.take_of_length_le h, q3] at g1
            rw [g1] at hlt2; omega
        have hd : runsD ((runsL l).drop j) = (runsL l)[j].fMany :: (oneB (runsL l)[j].fValue ++ runsD ((runsL l).drop (j + 1))) := by
          unfold runsD; rw [List.drop_eq_getElem_cons hj, List.flatMap_cons]; rfl
        rw [hd, List.drop_eq_getElem_cons hlt] at g2
        rw [(List.cons.inj g2).2, parse_one (hr _ (q1 _ (List.getElem_mem hj)).2.2)] at hp
        cases hp
      | some p =>
        obtain ⟨v, n⟩ := p
        have hn := parse_bd (hb.drop _) hp
        have hv := (parse_some (hb.drop _) hp).1
        simp only [List.length_drop] at hn
        left
        dsimp only
        rw [if_neg (by simp; omega)]
        obtain ⟨cn, hcn⟩ := Int.eq_ofNat_of_zero_le hc.1
        have hin : loopO (fun s : ((List Api_Value) × Int) => hayloftref06_runs_b2 b (at_ : Int) (v, (n : Int)) s.1 s.2) (acc, 0) = some (.inl (acc ++ List.replicate cn v, ((at_ + 1 + n : Nat) : Int))) := by
          refine loop_seq (fun i => (acc ++ List.replicate i v, (i : Int))) cn (by simp) (fun i hi => ?_) ?_
          · dsimp only
            unfold hayloftref06_runs_b2
            rw [idx_of hlt, Option.bind_some, hcn, wrap64 (by omega), if_pos (decide_eq_true (by omega)), app_of (by simp; omega), Option.bind_some, succ64 (by omega), List.append_assoc, List.replicate_succ']
          · dsimp only
            unfold hayloftref06_runs_b2 hayloftref06_runs_j3
            rw [idx_of hlt, Option.bind_some, hcn, wrap64 (by omega), if_neg (by simp), succ64 (by omega), wrap64 (by omega)]
            rfl
        rw [hin]
        refine ⟨_, rfl, ⟨at_ + 1 + n, rfl, by omega, fun x hx => ?_, by simp; omega, fun l hr hlen he => ?_⟩, by dsimp only; omega⟩
        · rcases List.mem_append.1 hx with hx | hx
          · exact h3 x hx
          · have := (List.mem_replicate.1 hx).2
            subst this; exact hv
        · obtain ⟨j, g0, g1, g2⟩ := h5 l hr hlen he
          obtain ⟨q1, q2, q3⟩ := runsL_all (l := l)
          have hj : j < (runsL l).length := by
            rcases Nat.lt_or_ge j (runsL l).length with h | h
            · exact h
            · rw [List.take_of_length_le h, q3] at g1
              rw [g1] at hlt2; omega
          have hd : runsD ((runsL l).drop j) = (runsL l)[j].fMany :: (oneB (runsL l)[j].fValue ++ runsD ((runsL l).drop (j + 1))) := by
            unfold runsD; rw [List.drop_eq_getElem_cons hj, List.flatMap_cons]; rfl
          rw [hd, List.drop_eq_getElem_cons hlt] at g2
          obtain ⟨g3, g4⟩ := List.cons.inj g2
          rw [g4, parse_one (hr _ (q1 _ (List.getElem_mem hj)).2.2)] at hp
          obtain ⟨rfl, rfl⟩ := Prod.mk.inj (Option.some.inj hp)
          refine ⟨j + 1, by omega, ?_, ?_⟩
          · dsimp only
            rw [expand_len_take hj, ← g1]
            congr 2
            omega
          · rw [← List.drop_drop, g4, List.drop_left]
    · right
      have : decide ((acc.length : Int) < (many : Int)) = false := by simp; omega
      rw [this, if_neg (by decide)]
      exact ⟨_, rfl, hend (.inr (by omega))⟩
  · right
    rw [if_neg (by simp; omega), if_neg (by decide)]
    exact ⟨_, rfl, hend (.inl (by omega))⟩
/-- What is left of a delta's bytes behind k steps. -/
def dtail (ns : List Int) (many k : Nat) : List Int := ((List.range (many - 1)).drop k).flatMap (dstep ns)
theorem dtail_cons (ns : List Int) {many k : Nat} (h : k + 1 < many) : dtail ns many k = dstep ns k ++ dtail ns many (k + 1) := by
  unfold dtail
  rw [List.drop_eq_getElem_cons (by simp; omega), List.flatMap_cons]; simp
theorem dtail_nil (ns : List Int) {many k : Nat} (h : many ≤ k + 1) : dtail ns many k = [] := by
  unfold dtail
  rw [List.drop_of_length_le (by simp; omega)]; rfl
theorem ref_deltas_ok {b : List Int} {many : Nat} (hb : Byt b) (hl : b.length ≤ 1048576) (hm : 1 ≤ many ∧ many ≤ 64) : ∃ g, hayloftref06_deltas b (many : Int) = some g ∧ RGuess 2 b many g := by
  unfold hayloftref06_deltas
  have h64 : (2 : Nat) ^ 64 = 18446744073709551616 := by decide
  by_cases h8 : b.length < 8
  · rw [if_pos (decide_eq_true (by omega))]
    refine ⟨_, rfl, by simp, by simp, fun l hr hlen he => ?_⟩
    exfalso
    have he' : b = deltaB (l.map (·.fInt)) := enc_is he hlen hm.1
    rw [he'] at h8
    simp [deltaB, be8_length] at h8
    omega
  have hs8 := sub_of (xs := b) (lo := 0) (hi := 8) (by omega) (by omega)
  rw [show ((0 : Nat) : Int) = 0 from rfl, show ((8 : Nat) : Int) = 8 from rfl, List.drop_zero] at hs8
  rw [if_neg (by simp; omega), hs8, Option.bind_some, Said_eq _ (hb.take 8) (by simp; omega), Option.bind_some]
  refine loopO_inv (I := fun s : Int × List Api_Value × Int × Int × Int => ∃ pos m : Nat, s.2.2.2.2 = (pos : Int) ∧ 8 ≤ pos ∧ pos ≤ b.length ∧ s.2.2.2.1 = ((7 * m : Nat) : Int) ∧ m ≤ pos ∧ (0 ≤ s.2.2.1 ∧ s.2.2.1 < 18446744073709551616) ∧ (∀ v ∈ s.2.1, VOK v) ∧ s.2.1.length ≤ many ∧ ∀ l : List Api_Value, (∀ v ∈ l, Rgt v) → l.length = many → isInts l = true → b = deltaB (l.map (·.fInt)) → ∃ k, s.2.1.length = k + 1 ∧ s.2.1 = l.take (k + 1) ∧ s.1 = (l.map (·.fInt)).getD k 0 ∧ ((many ≤ k + 1 ∧ b.drop pos = []) ∨ (k + 1 < many ∧ m ≤ 9 ∧ ∃ z : Nat, z < 18446744073709551616 ∧ dstep (l.map (·.fInt)) k = short z ∧ z = zig (IntKind.i64.wrap ((l.map (·.fInt)).getD (k + 1) 0 - (l.map (·.fInt)).getD k 0)) ∧ s.2.2.1 = ((z % 2 ^ (7 * m) : Nat) : Int) ∧ b.drop pos = short (z / 2 ^ (7 * m)) ++ dtail (l.map (·.fInt)) many (k + 1)))) (μ := fun s => b.length - s.2.2.2.2.toNat) (Q := RGuess 2 b many) ?_ ⟨8, 0, rfl, by omega, by omega, rfl, by omega, by simp, fun v hv => ?_, by simp; omega, fun l hr hlen hi he => ?_⟩
  · rintro ⟨n, acc, z, s, x⟩ ⟨pos, m, hx, hp8, hpl, hs, hmp, hz, h3, h4, h5⟩
    dsimp only at *
    subst hx; subst hs
    have hend : (pos = b.length ∨ acc.length = many) → RGuess 2 b many acc := fun h => ⟨h3, by omega, fun l hr hlen he => by
      have hi := (enc_some he).2.2.2.1 (.inl rfl)
      obtain ⟨k, g1, g2, g3, g4⟩ := h5 l hr hlen hi (enc_is he hlen hm.1)
      have hk : l.length ≤ k + 1 := by
        rcases g4 with ⟨g4, _⟩ | ⟨g4, _, z', _, _, _, _, g5⟩
        · omega
        · rcases h with h | h
          · rw [h, List.drop_length] at g5
            obtain ⟨c, t, e, _⟩ := short_head (z' / 2 ^ (7 * m))
            rw [e] at g5; cases g5
          · omega
      rw [List.take_of_length_le hk] at g2
      exact g2⟩
    unfold hayloftref06_deltas_b1 hayloftref06_deltas_j2 hayloftref06_deltas_j1
    by_cases hlt : pos < b.length
    · rw [if_pos (decide_eq_true (by omega))]
      by_cases hlt2 : acc.length < many
      · left
        have hc := hb b[pos] (List.getElem_mem hlt)
        obtain ⟨cn, hcn⟩ := Int.eq_ofNat_of_zero_le hc.1
        rw [if_pos (decide_eq_true (by omega)), idx_of hlt, Option.bind_some, chk_nat, Option.bind_some, Option.bind_some, hcn]
        have hz2 : ∀ y : Int, 0 ≤ IntKind.u64.wrap y ∧ IntKind.u64.wrap y < 18446744073709551616 := fun y => by rw [wrapu64]; omega
        -- the sum, exactly
        have hsum : ∀ z' : Nat, z' < 18446744073709551616 → m ≤ 9 → z = ((z' % 2 ^ (7 * m) : Nat) : Int) → cn % 128 = (z' / 2 ^ (7 * m)) % 128 → IntKind.u64.wrap (z + (iShl .u64 (IntKind.u64.wrap ((cn : Int).tmod 128)) ((7 * m : Nat) : Int))) = ((z' % 2 ^ (7 * (m + 1)) : Nat) : Int) := by
          intro z' hz' hm9 e1 e2
          have hqz : 2 ^ (7 * m) * (z' / 2 ^ (7 * m) % 128) + z' % 2 ^ (7 * m) ≤ z' := by
            have h1 := Nat.div_add_mod z' (2 ^ (7 * m))
            have h2 : 2 ^ (7 * m) * (z' / 2 ^ (7 * m) % 128) ≤ 2 ^ (7 * m) * (z' / 2 ^ (7 * m)) := Nat.mul_le_mul_left _ (Nat.mod_le _ _)
            omega
          have hnext : z' % 2 ^ (7 * (m + 1)) = 2 ^ (7 * m) * (z' / 2 ^ (7 * m) % 128) + z' % 2 ^ (7 * m) := by
            rw [show 7 * (m + 1) = 7 * m + 7 by omega, Nat.pow_add, Nat.mod_mul, show (2 : Nat) ^ 7 = 128 from rfl]; omega
          rw [Int.tmod_eq_emod_of_nonneg (Int.natCast_nonneg _), show ((cn : Int) % 128) = ((cn % 128 : Nat) : Int) by omega, e2]
          have h2 : IntKind.u64.wrap (((z' / 2 ^ (7 * m) % 128 : Nat) : Int)) = ((z' / 2 ^ (7 * m) % 128 : Nat) : Int) := by
            rw [wrapu64]; generalize z' / 2 ^ (7 * m) = q; omega
          have h3 : (((z' / 2 ^ (7 * m) % 128 : Nat) : Int)) * 2 ^ (7 * m) = ((2 ^ (7 * m) * (z' / 2 ^ (7 * m) % 128) : Nat) : Int) := by
            rw [Int.natCast_mul, Int.natCast_pow, Int.mul_comm]; rfl
          rw [h2, shl64 (by omega), h3, e1, wrapu64, hnext]
          generalize 2 ^ (7 * m) * (z' / 2 ^ (7 * m) % 128) = u at *
          generalize z' % 2 ^ (7 * m) = w at *
          omega
        generalize hZ : IntKind.u64.wrap (z + (iShl .u64 (IntKind.u64.wrap ((cn : Int).tmod 128)) ((7 * m : Nat) : Int))) = Z at *
        have hZb : 0 ≤ Z ∧ Z < 18446744073709551616 := by rw [← hZ]; exact hz2 _
        by_cases h128 : 128 ≤ cn
        · rw [if_pos (decide_eq_true (by omega))]
          unfold hayloftref06_deltas_j3
          refine ⟨_, rfl, ⟨pos + 1, m + 1, ?_, by omega, by omega, ?_, by omega, hZb, h3, h4, fun l hr hlen hi he => ?_⟩, ?_⟩
          · dsimp only; rw [succ64 (by omega)]
          · dsimp only; rw [wrap64 (by omega)]; omega
          · obtain ⟨k, g1, g2, g3, g4⟩ := h5 l hr hlen hi he
            refine ⟨k, g1, g2, g3, ?_⟩
            rcases g4 with ⟨g4, g5⟩ | ⟨g4, g5, z', g6, g7, g8, g9, g10⟩
            · exfalso
              have := List.drop_eq_nil_iff.1 g5
              omega
            · right
              obtain ⟨c, t, e, c1, c2, c3⟩ := short_head (z' / 2 ^ (7 * m))
              rw [e, List.cons_append, List.drop_eq_getElem_cons hlt] at g10
              obtain ⟨e3, e4⟩ := List.cons.inj g10
              have ec : cn = c := by omega
              subst ec
              have hS := hsum z' g6 g5 g9 c2
              rcases c3 with ⟨c4, _⟩ | ⟨_, c4, rfl⟩
              · omega
              · have hdiv : z' / 2 ^ (7 * (m + 1)) = z' / 2 ^ (7 * m) / 128 := by
                  rw [show 7 * (m + 1) = 7 * m + 7 by omega, Nat.pow_add, Nat.div_div_eq_div_mul]
                refine ⟨g4, ?_, z', g6, g7, g8, hS, by rw [hdiv]; exact e4⟩
                have h1 : 128 * 2 ^ (7 * m) ≤ z' := (Nat.le_div_iff_mul_le (Nat.pow_pos (by decide))).1 c4
                rcases Nat.lt_or_ge m 9 with h | h
                · omega
                · have : m = 9 := by omega
                  subst this
                  have : (128 : Nat) * 2 ^ (7 * 9) = 1180591620717411303424 := by decide
                  omega
          · dsimp only; rw [succ64 (by omega)]; omega
        · rw [if_neg (by simp; omega)]
          -- a number is whole
          have hv : (if (Z.tmod 2 == 0) = true then hayloftref06_deltas_j4 acc (pos : Int) (IntKind.i64.wrap (n + (IntKind.i64.wrap (IntKind.u64.wrap (Z.tdiv 2))))) else hayloftref06_deltas_j4 acc (pos : Int) (IntKind.i64.wrap ((IntKind.i64.wrap (n - (IntKind.i64.wrap (IntKind.u64.wrap (Z.tdiv 2))))) - 1))) = hayloftref06_deltas_j4 acc (pos : Int) (IntKind.i64.wrap (n + (if Z % 2 = 0 then Z / 2 else - (Z / 2) - 1))) := by
            rw [Int.tmod_eq_emod_of_nonneg hZb.1, Int.tdiv_eq_ediv_of_nonneg hZb.1, wrapu64]
            by_cases he : Z % 2 = 0
            · rw [if_pos (by simpa using he), if_pos he]
              congr 1
              rw [wrap_i64, wrap_i64, wrap_i64]; omega
            · rw [if_neg (by simpa using he), if_neg he]
              congr 1
              rw [wrap_i64, wrap_i64, wrap_i64, wrap_i64]; omega
          rw [hv]
          unfold hayloftref06_deltas_j4 hayloftref06_deltas_j3
          rw [app_of (by simp; omega), Option.bind_some]
          refine ⟨_, rfl, ⟨pos + 1, 0, ?_, by omega, by omega, rfl, by omega, by simp, fun v hv => ?_, by simp; omega, fun l hr hlen hi he => ?_⟩, ?_⟩
          · dsimp only; rw [succ64 (by omega)]
          · rcases List.mem_append.1 hv with hv | hv
            · exact h3 v hv
            · have : v = vInt (IntKind.i64.wrap (n + (if Z % 2 = 0 then Z / 2 else - (Z / 2) - 1))) := by simpa using hv
              subst this
              exact (Rgt.int _ (wrap_r _)).ok
          · obtain ⟨k, g1, g2, g3, g4⟩ := h5 l hr hlen hi he
            rcases g4 with ⟨g4, g5⟩ | ⟨g4, g5, z', g6, g7, g8, g9, g10⟩
            · exfalso
              have := List.drop_eq_nil_iff.1 g5
              omega
            · obtain ⟨c, t, e, c1, c2, c3⟩ := short_head (z' / 2 ^ (7 * m))
              rw [e, List.cons_append, List.drop_eq_getElem_cons hlt] at g10
              obtain ⟨e3, e4⟩ := List.cons.inj g10
              have ec : cn = c := by omega
              subst ec
              have hS := hsum z' g6 g5 g9 c2
              rcases c3 with ⟨_, c4, rfl⟩ | ⟨c4, _⟩
              · have hzz : z' % 2 ^ (7 * (m + 1)) = z' := by
                  apply Nat.mod_eq_of_lt
                  rw [show 7 * (m + 1) = 7 * m + 7 by omega, Nat.pow_add, Nat.mul_comm]
                  exact (Nat.div_lt_iff_lt_mul (Nat.pow_pos (n := 7 * m) (show 0 < 2 by decide))).1 c4
                rw [hzz] at hS
                have hin := isInts_at hi hr
                have hns : ∀ i (h : i < l.length), (l.map (·.fInt)).getD i 0 = l[i].fInt := fun i h => by rw [getD_at (by simpa using h)]; simp
                have hk1 : k + 1 < l.length := by omega
                have hval : IntKind.i64.wrap (n + (if Z % 2 = 0 then Z / 2 else - (Z / 2) - 1)) = l[k + 1].fInt := by
                  have hw := wrap_r ((l.map (·.fInt)).getD (k + 1) 0 - (l.map (·.fInt)).getD k 0)
                  have hu : (if Z % 2 = 0 then Z / 2 else - (Z / 2) - 1) = IntKind.i64.wrap ((l.map (·.fInt)).getD (k + 1) 0 - (l.map (·.fInt)).getD k 0) := by
                    rw [hS, g8]
                    generalize IntKind.i64.wrap ((l.map (·.fInt)).getD (k + 1) 0 - (l.map (·.fInt)).getD k 0) = d at *
                    unfold zig
                    unfold i64r at hw
                    by_cases hd : d < 0
                    · rw [if_pos hd, if_neg (by omega)]; omega
                    · rw [if_neg hd, if_pos (by omega)]; omega
                  rw [hu, g3, wrap_back (by rw [hns _ hk1]; exact (hin _ (List.getElem_mem hk1)).2), hns _ hk1]
                rw [hval]
                refine ⟨k + 1, by simp; omega, ?_, (hns _ hk1).symm, ?_⟩
                · dsimp only
                  rw [List.take_succ_eq_append_getElem hk1, ← g2]
                  congr 2
                  exact (hin _ (List.getElem_mem hk1)).1.symm
                · rw [List.nil_append] at e4
                  rcases Nat.lt_or_ge (k + 1 + 1) many with h | h
                  · right
                    refine ⟨h, by omega, _, zig_lt (wrap_r _), rfl, rfl, by simp [Nat.mod_one], ?_⟩
                    rw [e4, dtail_cons _ h]
                    simp [dstep]
                  · left
                    exact ⟨h, by rw [e4, dtail_nil _ h]⟩
              · omega
          · dsimp only; rw [succ64 (by omega)]; omega
      · right
        have : decide ((acc.length : Int) < (many : Int)) = false := by simp; omega
        rw [this, if_neg (by decide)]
        exact ⟨_, rfl, hend (.inr (by omega))⟩
    · right
      rw [if_neg (by simp; omega), if_neg (by decide)]
      exact ⟨_, rfl, hend (.inl (by omega))⟩
  · have : v = vInt (IntKind.i64.wrap (said (b.take 8))) := by simpa using hv
    subst this
    exact (Rgt.int _ (wrap_r _)).ok
  · have h0 : 0 < l.length := by omega
    have hin := isInts_at hi hr
    have hns : ∀ i (h : i < l.length), (l.map (·.fInt)).getD i 0 = l[i].fInt := fun i h => by rw [getD_at (by simpa using h)]; simp
    have hi0 := (hin _ (List.getElem_mem h0)).2
    have hb8 : b = be8 (l[0].fInt % 18446744073709551616) ++ dtail (l.map (·.fInt)) many 0 := by
      rw [he]; unfold deltaB dtail; rw [hns 0 h0, List.length_map, hlen, List.drop_zero]
    have h1 : b.take 8 = be8 (l[0].fInt % 18446744073709551616) := by rw [hb8]; exact List.take_left' (be8_length _)
    have h2 : b.drop 8 = dtail (l.map (·.fInt)) many 0 := by rw [hb8]; exact List.drop_left' (be8_length _)
    rw [h1, h2, said_be8 (by omega) (by omega), mod_wrap hi0]
    refine ⟨0, rfl, ?_, (hns 0 h0).symm, ?_⟩
    · dsimp only
      rw [List.take_succ_eq_append_getElem h0]
      simp only [List.take_zero, List.nil_append]
      congr 1
      exact (hin _ (List.getElem_mem h0)).1.symm
    · rcases Nat.lt_or_ge 1 many with h | h
      · right
        refine ⟨by omega, by omega, _, zig_lt (wrap_r _), rfl, rfl, by simp [Nat.mod_one], ?_⟩
        rw [dtail_cons _ (by omega)]
        simp [dstep]
      · left
        exact ⟨by omega, dtail_nil _ (by omega)⟩
end Go.Proofs.Ytifobhaccglckaa.Hay
