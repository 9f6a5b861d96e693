import Derived.Test.YtifobhaccglckaaHayZb
/- Plain laws: what bytes may say: the reference's words and bits; Decode. -/
namespace Go.Proofs.Ytifobhaccglckaa.Hay
theorem ref_dicts_ok {b : List Int} {many : Nat} (hb : Byt b) (hl : b.length ≤ 1048576) (hm : 1 ≤ many ∧ many ≤ 64) : ∃ g, hayloftref06_dicts b (many : Int) = some g ∧ RGuess 3 b many g := by
  have bad : (∀ l : List Api_Value, (∀ v ∈ l, Rgt v) → l.length = many → b = dictB l → False) → RGuess 3 b many [] := fun h => ⟨by simp, by simp, fun l hr hlen he => (h l hr hlen (enc_is he hlen hm.1)).elim⟩
  unfold hayloftref06_dicts
  cases hbc : b with
  | nil =>
    rw [if_pos (by decide)]
    refine ⟨_, rfl, ?_⟩
    rw [← hbc]
    refine bad fun l hr hlen he => ?_
    rw [hbc] at he; cases he
  | cons c t =>
    rw [← hbc, if_neg (by rw [hbc]; simp; omega)]
    have hc := hb c (by rw [hbc]; simp)
    obtain ⟨cn, rfl⟩ := Int.eq_ofNat_of_zero_le hc.1
    have h0 : idx b 0 = some (cn : Int) := by rw [hbc, idx_cons0]
    have hlb : 1 ≤ b.length := by rw [hbc]; simp
    refine loopO_inv (I := fun s : List Api_Value × Int × Int => ∃ at_ : Nat, s.2.1 = (at_ : Int) ∧ at_ ≤ b.length ∧ s.2.2 = (s.1.length : Int) ∧ (∀ v ∈ s.1, Rgt v) ∧ s.1.length ≤ cn ∧ ∀ l : List Api_Value, (∀ v ∈ l, Rgt v) → l.length = many → b = dictB l → s.1 = (words l).take s.1.length ∧ cn = (words l).length ∧ b.drop at_ = ((words l).drop s.1.length).flatMap oneB ++ packed (l.map fun v => (place (words l) v : Int)) (wid ((words l).length - 1))) (μ := fun s => cn - s.1.length) (Q := RGuess 3 b many) ?_ ⟨1, rfl, hlb, rfl, by simp, by simp, fun l hr hlen he => ?_⟩
    · rintro ⟨W, x, y⟩ ⟨at_, hx, h1, hy, h3, h4, h5⟩
      dsimp only at *
      subst hx; subst hy
      unfold hayloftref06_dicts_b2
      rw [h0, Option.bind_some, wrap64 (by omega)]
      by_cases hlt : W.length < cn
      · rw [if_pos (decide_eq_true (by omega)), sub_from h1, Option.bind_some, Front_eq (hb.drop _), Option.bind_some]
        cases hp : parse (b.drop at_) with
        | none =>
          right
          dsimp only
          rw [if_pos (by decide)]
          refine ⟨_, rfl, bad fun l hr hlen he => ?_⟩
          obtain ⟨g1, g2, g3⟩ := h5 l hr hlen he
          have hk : W.length < (words l).length := by omega
          rw [List.drop_eq_getElem_cons hk, List.flatMap_cons, List.append_assoc] at g3
          rw [g3, parse_one (hr _ (((words_prop hr).2.1 _).1 (List.getElem_mem hk)))] at hp
          cases hp
        | some p =>
          obtain ⟨v, n⟩ := p
          have hn := parse_bd (hb.drop _) hp
          simp only [List.length_drop] at hn
          left
          dsimp only
          rw [if_neg (by simp; omega), app_of (by simp; omega), Option.bind_some, succ64 (by omega), wrap64 (by omega)]
          refine ⟨_, rfl, ⟨at_ + n, by dsimp only; omega, by omega, by simp, fun x hx => ?_, by simp; omega, fun l hr hlen he => ?_⟩, by simp; omega⟩
          · rcases List.mem_append.1 hx with hx | hx
            · exact h3 x hx
            · have : x = v := by simpa using hx
              subst this; exact (parse_some (hb.drop _) hp).1
          · obtain ⟨g1, g2, g3⟩ := h5 l hr hlen he
            have hk : W.length < (words l).length := by omega
            rw [List.drop_eq_getElem_cons hk, List.flatMap_cons, List.append_assoc] at g3
            rw [g3, parse_one (hr _ (((words_prop hr).2.1 _).1 (List.getElem_mem hk)))] at hp
            obtain ⟨rfl, rfl⟩ := Prod.mk.inj (Option.some.inj hp)
            dsimp only
            simp only [List.length_append, List.length_singleton]
            refine ⟨?_, g2, ?_⟩
            · rw [List.take_succ_eq_append_getElem hk, ← g1]
            · rw [← List.drop_drop, g3, List.drop_left]
      · right
        rw [if_neg (by simp; omega)]
        unfold hayloftref06_dicts_j1
        have hWc : W.length = cn := by omega
        by_cases hW0 : W.length = 0
        · rw [if_pos (by simpa using hW0)]
          refine ⟨_, rfl, bad fun l hr hlen he => ?_⟩
          obtain ⟨g1, g2, g3⟩ := h5 l hr hlen he
          have hw0 : words l = [] := List.eq_nil_of_length_eq_zero (by omega)
          cases l with
          | nil => simp at hlen; omega
          | cons a r => have := ((words_prop hr).2.1 a).2 (by simp); rw [hw0] at this; cases this
        have hmx : IntKind.u64.wrap (IntKind.i64.wrap ((W.length : Int) - 1)) = ((W.length - 1 : Nat) : Int) := by
          rw [wrap64 (by omega), wrapu64]; omega
        have hwid : wid (W.length - 1) ≤ 8 := wid_le (Nat.lt_of_lt_of_le (show W.length - 1 < 256 by omega) (by decide))
        have hmw : many * wid (W.length - 1) ≤ 64 * 8 := Nat.mul_le_mul hm.2 hwid
        rw [if_neg (by simpa using hW0), hmx, width_eq (by omega), Option.bind_some, ceil8 (by omega) (by omega), wrap64 (by omega)]
        have hex : ∀ l : List Api_Value, (∀ v ∈ l, Rgt v) → l.length = many → b = dictB l → W = words l ∧ b.drop at_ = packed (l.map fun v => (place (words l) v : Int)) (wid (W.length - 1)) := fun l hr hlen he => by
          obtain ⟨g1, g2, g3⟩ := h5 l hr hlen he
          have e2 : W.length = (words l).length := by omega
          rw [e2, List.take_length] at g1
          rw [e2, List.drop_length] at g3
          simp only [List.flatMap_nil, List.nil_append] at g3
          exact ⟨g1, by rw [e2]; exact g3⟩
        by_cases hsz : b.length = at_ + (many * wid (W.length - 1) + 7) / 8
        · rw [if_neg (by simp; omega)]
          have hin : ∃ g, loopO (fun s : ((List Api_Value) × Int) => hayloftref06_dicts_b1 b (many : Int) W (at_ : Int) ((wid (W.length - 1) : Nat) : Int) s.1 s.2) ([], 0) = some g ∧ RGuess 3 b many g := by
            refine loopO_inv (I := fun s : List Api_Value × Int => (∀ v ∈ s.1, Rgt v) ∧ s.1.length ≤ many ∧ s.2 = (s.1.length : Int) ∧ ∀ l : List Api_Value, (∀ v ∈ l, Rgt v) → l.length = many → b = dictB l → s.1 = l.take s.1.length) (μ := fun s => many - s.1.length) (Q := RGuess 3 b many) ?_ ⟨by simp, by simp, rfl, fun l _ _ _ => by simp⟩
            rintro ⟨acc, an⟩ ⟨k1, k2, han, k3⟩
            dsimp only at *
            subst han
            unfold hayloftref06_dicts_b1 hayloftref06_dicts_j2
            by_cases hlt2 : acc.length < many
            · have hlen2 : (acc.length + 1) * wid (W.length - 1) ≤ 8 * (b.drop at_).length := by
                have : (acc.length + 1) * wid (W.length - 1) ≤ many * wid (W.length - 1) := Nat.mul_le_mul_right _ hlt2
                simp only [List.length_drop]; omega
              have e3 : IntKind.u64.wrap (W.length : Int) = (W.length : Int) := by rw [wrapu64]; omega
              rw [if_pos (decide_eq_true (by omega)), sub_from h1, Option.bind_some, ref_unpacked_eq (hb.drop _) (by omega) (by omega) hlen2, Option.bind_some, e3]
              have hpl : ∀ l : List Api_Value, (∀ v ∈ l, Rgt v) → l.length = many → b = dictB l → ∃ h : acc.length < l.length, unp (b.drop at_) (wid (W.length - 1)) acc.length = place (words l) l[acc.length] ∧ W = words l := fun l hr hlen he => by
                obtain ⟨g1, g2⟩ := hex l hr hlen he
                have hk : acc.length < l.length := by omega
                refine ⟨hk, ?_, g1⟩
                have hp := place_lt (((words_prop hr).2.1 _).2 (List.getElem_mem hk))
                have hw2 := wid_lt (W.length - 1)
                have := unp_packed (l.map fun v => (place (words l) v : Int)) (wid (W.length - 1)) acc.length [] (by simpa using hk) (by
                  simp only [List.getElem_map]
                  refine ⟨by omega, ?_⟩
                  have : ((place (words l) l[acc.length] : Nat) : Int) < ((2 ^ wid (W.length - 1) : Nat) : Int) := Int.ofNat_lt.2 (by rw [g1] at hw2 ⊢; omega)
                  rwa [Int.natCast_pow] at this)
                rw [List.append_nil, ← g2] at this
                simp only [List.getElem_map] at this
                omega
              by_cases hge : W.length ≤ unp (b.drop at_) (wid (W.length - 1)) acc.length
              · right
                rw [if_pos (decide_eq_true (by omega))]
                refine ⟨_, rfl, bad fun l hr hlen he => ?_⟩
                obtain ⟨hk, g1, g2⟩ := hpl l hr hlen he
                have hp := place_lt (((words_prop hr).2.1 _).2 (List.getElem_mem hk))
                rw [g1, g2] at hge; omega
              · left
                rw [if_neg (by simp; omega), idx_of (by omega), Option.bind_some, app_of (by simp; omega), Option.bind_some]
                refine ⟨_, rfl, ⟨fun x hx => ?_, by simp; omega, ?_, fun l hr hlen he => ?_⟩, by simp; omega⟩
                · rcases List.mem_append.1 hx with hx | hx
                  · exact k1 x hx
                  · have : x = W[unp (b.drop at_) (wid (W.length - 1)) acc.length] := by simpa using hx
                    subst this; exact h3 _ (List.getElem_mem _)
                · dsimp only; rw [succ64 (by omega)]; simp
                · have q := k3 l hr hlen he
                  obtain ⟨hk, g1, g2⟩ := hpl l hr hlen he
                  have hmem := ((words_prop hr).2.1 _).2 (List.getElem_mem hk)
                  have hat : W[unp (b.drop at_) (wid (W.length - 1)) acc.length]'(by omega) = l[acc.length] := by
                    have := place_at hmem
                    simp only [g1]
                    subst g2
                    exact this
                  dsimp only
                  simp only [List.length_append, List.length_singleton]
                  rw [List.take_succ_eq_append_getElem hk, ← q, hat]
            · right
              rw [if_neg (by simp; omega)]
              refine ⟨_, rfl, fun v hv => (k1 v hv).ok, by omega, fun l hr hlen he => ?_⟩
              have q := k3 l hr hlen (enc_is he hlen hm.1)
              have : acc.length = l.length := by omega
              rw [this, List.take_length] at q
              exact q
          obtain ⟨g, hg1, hg2⟩ := hin
          rw [hg1]
          exact ⟨g, rfl, hg2⟩
        · rw [if_pos (by simp; omega)]
          refine ⟨_, rfl, bad fun l hr hlen he => ?_⟩
          obtain ⟨g1, g2⟩ := hex l hr hlen he
          have := congrArg List.length g2
          simp only [List.length_drop, packed, packB_len, List.length_map, hlen] at this
          omega
    · have hcons : b = (((words l).length : Nat) : Int) :: ((words l).flatMap oneB ++ packed (l.map fun v => (place (words l) v : Int)) (wid ((words l).length - 1))) := he
      refine ⟨by simp, ?_, ?_⟩
      · have := (List.cons.inj (hbc.symm.trans hcons)).1; omega
      · rw [hcons]; simp
theorem ref_smalls_ok {b : List Int} {many : Nat} {kind : Int} (hk : kind ≠ 0 ∧ kind ≠ 1 ∧ kind ≠ 2 ∧ kind ≠ 3) (hb : Byt b) (hl : b.length ≤ 1048576) (hm : 1 ≤ many ∧ many ≤ 64) : ∃ g, hayloftref06_smalls b (many : Int) = some g ∧ RGuess kind b many g := by
  have hex : ∀ l : List Api_Value, (∀ v ∈ l, Rgt v) → l.length = many → enc kind l = (b, 0) → isInts l = true ∧ b = be8 (minI (l.map (·.fInt)) % 18446744073709551616) ++ ((widMax (aboveL (l.map (·.fInt))) : Nat) : Int) :: packed (aboveL (l.map (·.fInt))) (widMax (aboveL (l.map (·.fInt)))) := fun l hr hlen he => by
    have hk5 := (enc_some he).1
    have hk4 : kind = 4 := by omega
    subst hk4
    refine ⟨(enc_some he).2.2.2.1 (.inr rfl), ?_⟩
    have : b = smallB (l.map (·.fInt)) := enc_is he hlen hm.1
    rw [this]; unfold smallB; simp
  have bad : (∀ l : List Api_Value, (∀ v ∈ l, Rgt v) → l.length = many → isInts l = true → b = be8 (minI (l.map (·.fInt)) % 18446744073709551616) ++ ((widMax (aboveL (l.map (·.fInt))) : Nat) : Int) :: packed (aboveL (l.map (·.fInt))) (widMax (aboveL (l.map (·.fInt)))) → False) → RGuess kind b many [] := fun h => ⟨by simp, by simp, fun l hr hlen he => (h l hr hlen (hex l hr hlen he).1 (hex l hr hlen he).2).elim⟩
  have hwm : ∀ l : List Api_Value, (∀ v ∈ l, Rgt v) → isInts l = true → U64 (aboveL (l.map (·.fInt))) ∧ widMax (aboveL (l.map (·.fInt))) ≤ 64 ∧ ∀ x ∈ aboveL (l.map (·.fInt)), wid x.toNat ≤ widMax (aboveL (l.map (·.fInt))) := fun l hr hi => by
    have hin := isInts_at hi hr
    have h' : ∀ x ∈ l.map (·.fInt), i64r x := fun x hx => by obtain ⟨v, hv, rfl⟩ := List.mem_map.1 hx; exact (hin v hv).2
    have hu := above_u64 h'
    exact ⟨hu, widMax_prop hu⟩
  have hal : ∀ l : List Api_Value, l.length = many → (aboveL (l.map (·.fInt))).length = many := fun l hlen => by simp [aboveL, hlen]
  unfold hayloftref06_smalls
  have jt : hayloftref06_smalls_j1 b (many : Int) true = some [] := rfl
  by_cases h9 : b.length < 9
  · rw [if_pos (decide_eq_true (by omega)), jt]
    refine ⟨_, rfl, bad fun l hr hlen hi he => ?_⟩
    rw [he] at h9
    simp [be8_length] at h9
    omega
  have h8l : 8 < b.length := by omega
  have hc := hb b[8] (List.getElem_mem h8l)
  obtain ⟨cn, hcn⟩ := Int.eq_ofNat_of_zero_le hc.1
  have i8 : idx b 8 = some (cn : Int) := by
    have := idx_of (xs := b) (i := 8) h8l
    rw [show ((8 : Nat) : Int) = 8 from rfl, hcn] at this; exact this
  have hcw : ∀ l : List Api_Value, b = be8 (minI (l.map (·.fInt)) % 18446744073709551616) ++ ((widMax (aboveL (l.map (·.fInt))) : Nat) : Int) :: packed (aboveL (l.map (·.fInt))) (widMax (aboveL (l.map (·.fInt)))) → cn = widMax (aboveL (l.map (·.fInt))) ∧ b.take 8 = be8 (minI (l.map (·.fInt)) % 18446744073709551616) ∧ b.drop 9 = packed (aboveL (l.map (·.fInt))) (widMax (aboveL (l.map (·.fInt)))) := fun l he => by
    have e1 : b.take 8 = be8 (minI (l.map (·.fInt)) % 18446744073709551616) := by rw [he]; exact List.take_left' (be8_length _)
    have e2 : b.drop 8 = ((widMax (aboveL (l.map (·.fInt))) : Nat) : Int) :: packed (aboveL (l.map (·.fInt))) (widMax (aboveL (l.map (·.fInt)))) := by rw [he]; exact List.drop_left' (be8_length _)
    rw [List.drop_eq_getElem_cons h8l, hcn] at e2
    obtain ⟨e3, e4⟩ := List.cons.inj e2
    exact ⟨by omega, e1, e4⟩
  rw [if_neg (by simp; omega), i8, Option.bind_some]
  by_cases h64 : 64 < cn
  · rw [if_pos (decide_eq_true (by omega)), jt]
    refine ⟨_, rfl, bad fun l hr hlen hi he => ?_⟩
    have := (hwm l hr hi).2.1
    have := (hcw l he).1
    omega
  have hmw : many * cn ≤ 64 * 64 := Nat.mul_le_mul hm.2 (by omega)
  rw [if_neg (by simp; omega), Option.bind_some, wrap64 (n := (cn : Int)) (by omega), ceil8 (by omega) (by omega), wrap64 (by omega)]
  by_cases hsz : b.length = 9 + (many * cn + 7) / 8
  · have e : ((b.length : Int) != 9 + (((many * cn + 7) / 8 : Nat) : Int)) = false := by simp; omega
    have hs8 := sub_of (xs := b) (lo := 0) (hi := 8) (by omega) (by omega)
    rw [show ((0 : Nat) : Int) = 0 from rfl, show ((8 : Nat) : Int) = 8 from rfl, List.drop_zero] at hs8
    have hs9 := sub_from (xs := b) (k := 9) (by omega)
    rw [show ((9 : Nat) : Int) = 9 from rfl] at hs9
    rw [e]
    unfold hayloftref06_smalls_j1
    rw [if_neg (by decide), hs8, Option.bind_some, Said_eq _ (hb.take 8) (by simp; omega), Option.bind_some]
    refine loopO_inv (I := fun s : List Api_Value × Int => (∀ v ∈ s.1, Rgt v) ∧ s.1.length ≤ many ∧ s.2 = (s.1.length : Int) ∧ ∀ l : List Api_Value, (∀ v ∈ l, Rgt v) → l.length = many → enc kind l = (b, 0) → s.1 = l.take s.1.length) (μ := fun s => many - s.1.length) (Q := RGuess kind b many) ?_ ⟨by simp, by simp, rfl, fun l _ _ _ => by simp⟩
    rintro ⟨acc, an⟩ ⟨k1, k2, han, k3⟩
    dsimp only at *
    subst han
    unfold hayloftref06_smalls_b1 hayloftref06_smalls_j2
    by_cases hlt2 : acc.length < many
    · have hlen2 : (acc.length + 1) * cn ≤ 8 * (b.drop 9).length := by
        have : (acc.length + 1) * cn ≤ many * cn := Nat.mul_le_mul_right _ hlt2
        simp only [List.length_drop]; omega
      left
      rw [if_pos (decide_eq_true (by omega)), hs9, Option.bind_some, i8, Option.bind_some, wrap64 (n := (cn : Int)) (by omega), ref_unpacked_eq (hb.drop _) (by omega) (by omega) hlen2, Option.bind_some, app_of (by simp; omega), Option.bind_some]
      refine ⟨_, rfl, ⟨fun x hx => ?_, by simp; omega, ?_, fun l hr hlen he => ?_⟩, by simp; omega⟩
      · rcases List.mem_append.1 hx with hx | hx
        · exact k1 x hx
        · have : x = vInt (IntKind.i64.wrap (IntKind.u64.wrap (said (b.take 8) + ((unp (b.drop 9) cn acc.length : Nat) : Int)))) := by simpa using hx
          subst this; exact .int _ (wrap_r _)
      · dsimp only; rw [succ64 (by omega)]; simp
      · have q := k3 l hr hlen he
        obtain ⟨hi, he2⟩ := hex l hr hlen he
        obtain ⟨g1, g2, g3⟩ := hcw l he2
        obtain ⟨hu, hw1, hw2⟩ := hwm l hr hi
        have hin := isInts_at hi hr
        have hkl : acc.length < l.length := by omega
        have h1 := hin _ (List.getElem_mem hkl)
        have hka : acc.length < (aboveL (l.map (·.fInt))).length := by rw [hal l hlen]; omega
        have hunp := unp_packed (aboveL (l.map (·.fInt))) cn acc.length [] hka (by
          have hx := List.getElem_mem hka
          have h3 := hu _ hx
          have h4 := wid_lt ((aboveL (l.map (·.fInt)))[acc.length]).toNat
          have h5 := hw2 _ hx
          have h6 : (2 : Nat) ^ wid ((aboveL (l.map (·.fInt)))[acc.length]).toNat ≤ 2 ^ cn := Nat.pow_le_pow_right (by decide) (by omega)
          refine ⟨h3.1, ?_⟩
          have : ((((aboveL (l.map (·.fInt)))[acc.length]).toNat : Nat) : Int) < ((2 ^ cn : Nat) : Int) := Int.ofNat_lt.2 (by omega)
          rw [Int.natCast_pow] at this
          have e : ((((aboveL (l.map (·.fInt)))[acc.length]).toNat : Nat) : Int) = (aboveL (l.map (·.fInt)))[acc.length] := by omega
          rw [e] at this
          exact this)
        rw [List.append_nil, g1, ← g3, ← g1] at hunp
        have hab : (aboveL (l.map (·.fInt)))[acc.length] = l[acc.length].fInt - minI (l.map (·.fInt)) := by simp [aboveL]
        dsimp only
        simp only [List.length_append, List.length_singleton]
        rw [List.take_succ_eq_append_getElem hkl, ← q]
        congr 1
        have e9 : IntKind.i64.wrap (IntKind.u64.wrap (said (b.take 8) + ((unp (b.drop 9) cn acc.length : Nat) : Int))) = l[acc.length].fInt := by
          rw [hunp, hab, g2, said_be8 (by omega) (by omega), wrapu64, wrap_i64]
          have := h1.2
          unfold i64r at this
          omega
        rw [e9]
        congr 1
        exact h1.1.symm
    · right
      rw [if_neg (by simp; omega)]
      refine ⟨_, rfl, fun v hv => (k1 v hv).ok, by omega, fun l hr hlen he => ?_⟩
      have q := k3 l hr hlen he
      have : acc.length = l.length := by omega
      rw [this, List.take_length] at q
      exact q
  · have e : ((b.length : Int) != 9 + (((many * cn + 7) / 8 : Nat) : Int)) = true := by simp; omega
    rw [e, jt]
    refine ⟨_, rfl, bad fun l hr hlen hi he => ?_⟩
    obtain ⟨g1, _, g3⟩ := hcw l he
    have := congrArg List.length g3
    simp only [List.length_drop, packed, packB_len, hal l hlen] at this
    rw [← g1] at this
    omega
/-! Decode -/
open Classical in
/-- P6.2. -/
noncomputable def dec (kind : Int) (b : List Int) (many : Int) : List Api_Value × Int :=
  if kind < 0 ∨ 4 < kind then ([], 62) else if many < 0 ∨ 64 < many then ([], 61) else
  if h : ∃ l : List Api_Value, (∀ v ∈ l, Rgt v) ∧ (l.length : Int) = many ∧ enc kind l = (b, 0) then (h.choose, 0) else ([], 60)
theorem bytes_eq {a b : List Int} (ha : a.length ≤ 4611686018427387903) : slices_Equal_byte a b = some (decide (a = b)) := by
  unfold slices_Equal_byte
  by_cases h : a.length = b.length
  · rw [if_neg (by simp; omega)]
    have := loop_all (f := fun s : Int => slices_Equal_byte_b1 a b s) (a.zip b) (fun p => p.1 == p.2) false true (fun i hi hp => ?_) (fun i hi hp => ?_) ?_
    · rw [this]
      have e : (a.zip b).all (fun p => p.1 == p.2) = decide (a = b) := by
        clear this ha
        induction a generalizing b with
        | nil => cases b with
          | nil => rfl
          | cons _ _ => simp at h
        | cons x a ih => cases b with
          | nil => simp at h
          | cons y b =>
            rw [List.zip_cons_cons, List.all_cons, ih (by simpa using h)]
            by_cases e : x = y
            · simp [e]
            · simp [e]
      rw [e]
      cases decide (a = b) <;> rfl
    · simp only [List.length_zip] at hi
      simp only [List.getElem_zip, beq_iff_eq] at hp
      unfold slices_Equal_byte_b1
      rw [if_pos (decide_eq_true (by omega)), idx_of (by omega), Option.bind_some, idx_of (by omega), Option.bind_some, if_neg (by simpa using hp), succ64 (by omega)]
    · simp only [List.length_zip] at hi
      simp only [List.getElem_zip, beq_eq_false_iff_ne] at hp
      unfold slices_Equal_byte_b1
      rw [if_pos (decide_eq_true (by omega)), idx_of (by omega), Option.bind_some, idx_of (by omega), Option.bind_some, if_pos (by simpa using hp)]; rfl
    · unfold slices_Equal_byte_b1 slices_Equal_byte_j1
      rw [if_neg (by simp; omega)]; rfl
  · rw [if_pos (by simp; omega)]
    have : a ≠ b := fun e => h (by rw [e])
    simp [this]
theorem enc_bytes_len {kind : Int} {l : List Api_Value} : (enc kind l).2 = 0 → l.all right = true ∧ l.length ≤ 64 := fun h => by
  have : enc kind l = ((enc kind l).1, 0) := Prod.ext rfl h
  obtain ⟨_, h1, h2, _⟩ := enc_some this
  exact ⟨h2, h1⟩
theorem packed_len (l : List Int) (w : Nat) : (packed l w).length = (l.length * w + 7) / 8 := packB_len _ _ _
/-- An encoding is short. -/
theorem encK_len {kind : Int} {l : List Api_Value} (h : ∀ v ∈ l, Rgt v) (hl : l.length ≤ 64) : (encK kind l).length ≤ 100000 := by
  obtain ⟨w1, w2, w3⟩ := words_prop h
  unfold encK
  split
  · obtain ⟨h1, h2, _⟩ := runsL_all (l := l)
    have := flat_le (runsL l) (fun r => r.fMany :: oneB r.fValue) 67 fun x hx => by
      have := (oneB_len (h _ (h1 x hx).2.2)).2
      simp; omega
    unfold runsB; omega
  split
  · have := flat_le (List.range ((l.map (·.fInt)).length - 1)) (dstep (l.map (·.fInt))) 10 fun x _ => short_len10 (zig_lt (wrap_r _))
    unfold deltaB
    simp only [List.length_append, be8_length, List.length_range, List.length_map] at *
    omega
  split
  · have h1 := flat_len (l := words l) fun v hv => h v ((w2 v).1 hv)
    have hwid : wid ((words l).length - 1) ≤ 64 := wid_le (Nat.lt_of_lt_of_le (show (words l).length - 1 < 64 by omega) (by decide))
    have := Nat.mul_le_mul hl hwid
    unfold dictB
    simp only [List.length_cons, List.length_append, packed_len, List.length_map]
    omega
  split
  · by_cases hi : ∀ x ∈ l.map (·.fInt), i64r x
    · have hu := above_u64 hi
      have := Nat.mul_le_mul hl (widMax_prop hu).1
      have hal : (aboveL (l.map (·.fInt))).length = l.length := by simp [aboveL]
      unfold smallB
      simp only [List.length_append, be8_length, List.length_singleton, packed_len, hal]
      omega
    · exfalso
      apply hi
      intro x hx
      obtain ⟨v, hv, rfl⟩ := List.mem_map.1 hx
      exact (h v hv).ok.int
  · have := flat_len h
    unfold plainB; omega
theorem enc_len (kind : Int) {l : List Api_Value} (h : ∀ v ∈ l, VOK v) : (enc kind l).1.length ≤ 100000 := by
  unfold enc
  repeat' split
  all_goals first | exact Nat.zero_le _ | skip
  rename_i h2 h3 _ _
  exact encK_len (rgt_all h (by simpa using h3)) (by omega)
/-- What decides. -/
theorem dec_of {kind : Int} {b : List Int} {many : Nat} {g : List Api_Value} {ok : Bool} (hk : 0 ≤ kind ∧ kind ≤ 4) (hm : many ≤ 64) (hg : ∀ v ∈ g, VOK v) (hx : ∀ l : List Api_Value, (∀ v ∈ l, Rgt v) → l.length = many → enc kind l = (b, 0) → g = l ∧ ok = true) :
    (if (!ok) = true ∨ (enc kind g).2 ≠ 0 ∨ g.length ≠ many ∨ (enc kind g).1 ≠ b then ([], 60) else (g, 0)) = dec kind b (many : Int) := by
  unfold dec
  rw [if_neg (show ¬ (kind < 0 ∨ 4 < kind) by omega), if_neg (show ¬ ((many : Int) < 0 ∨ 64 < (many : Int)) by omega)]
  by_cases h : ∃ l : List Api_Value, (∀ v ∈ l, Rgt v) ∧ (l.length : Int) = (many : Int) ∧ enc kind l = (b, 0)
  · rw [dif_pos h]
    obtain ⟨c1, c2, c3⟩ := h.choose_spec
    obtain ⟨e1, e2⟩ := hx _ c1 (by omega) c3
    rw [← e1] at c2 c3
    rw [if_neg, e1]
    rintro (h1 | h1 | h1 | h1)
    · rw [e2] at h1; cases h1
    · rw [c3] at h1; exact h1 rfl
    · omega
    · rw [c3] at h1; exact h1 rfl
  · rw [dif_neg h, if_pos]
    apply Classical.byContradiction
    intro hn
    apply h
    have n2 : (enc kind g).2 = 0 := Classical.byContradiction fun h => hn (.inr (.inl h))
    have n3 : g.length = many := Classical.byContradiction fun h => hn (.inr (.inr (.inl h)))
    have n4 : (enc kind g).1 = b := Classical.byContradiction fun h => hn (.inr (.inr (.inr h)))
    exact ⟨g, rgt_all hg (enc_bytes_len n2).1, by omega, Prod.ext n4 n2⟩
theorem dec_bad_kind {kind many : Int} {b : List Int} (h : kind < 0 ∨ 4 < kind) : dec kind b many = ([], 62) := by unfold dec; rw [if_pos h]
theorem dec_bad_many {kind many : Int} {b : List Int} (hk : ¬ (kind < 0 ∨ 4 < kind)) (h : many < 0 ∨ 64 < many) : dec kind b many = ([], 61) := by unfold dec; rw [if_neg hk, if_pos h]
theorem Decode_eq {b : List Int} (kind many : Int) (hb : Byt b) (hl : b.length ≤ 1048576) : encode_Decode kind b many = some (dec kind b many) := by
  have jt1 : encode_Decode_j1 kind b many true = some ([], 62) := rfl
  have jt2 : encode_Decode_j2 kind b many true = some ([], 61) := rfl
  unfold encode_Decode
  by_cases h0 : kind < 0
  · rw [if_pos (by simpa using h0), jt1, dec_bad_kind (.inl h0)]
  by_cases h4 : 4 < kind
  · rw [if_neg (by simpa using h0), decide_eq_true h4, jt1, dec_bad_kind (.inr h4)]
  have hk : ¬ (kind < 0 ∨ 4 < kind) := by omega
  rw [if_neg (by simpa using h0), decide_eq_false h4]
  unfold encode_Decode_j1
  rw [if_neg (by decide)]
  by_cases m0 : many < 0
  · rw [if_pos (by simpa using m0), jt2, dec_bad_many hk (.inl m0)]
  by_cases m64 : 64 < many
  · rw [if_neg (by simpa using m0), decide_eq_true m64, jt2, dec_bad_many hk (.inr m64)]
  rw [if_neg (by simpa using m0), decide_eq_false m64]
  unfold encode_Decode_j2
  rw [if_neg (by decide)]
  obtain ⟨n, rfl⟩ := Int.eq_ofNat_of_zero_le (show 0 ≤ many by omega)
  have j4 : ∀ g x, encode_Decode_j4 g x = some (if x = true then ([], 60) else (g, 0)) := fun g x => by cases x <;> rfl
  have key : ∀ (g : List Api_Value) (r : Encode_reader), (∀ v ∈ g, VOK v) → g.length ≤ 1048576 → encode_Decode_j3 kind b (n : Int) g r = some (if (!r.fOk) = true ∨ (enc kind g).2 ≠ 0 ∨ g.length ≠ n ∨ (enc kind g).1 ≠ b then ([], 60) else (g, 0)) := by
    intro g r hg hgl
    unfold encode_Decode_j3
    rw [Encode_eq kind hg hgl, Option.bind_some]
    by_cases e1 : (!r.fOk) = true
    · rw [if_pos e1, j4, if_pos rfl, if_pos (.inl e1)]
    by_cases e2 : (enc kind g).2 = 0
    · by_cases e3 : g.length = n
      · rw [if_neg e1, if_neg (by simpa using e2), if_neg (by simpa using by omega), bytes_eq (by have := enc_len kind hg; omega), Option.bind_some, j4]
        by_cases e4 : (enc kind g).1 = b
        · rw [if_neg (by simpa using e4), if_neg]
          rintro (h | h | h | h)
          · exact e1 h
          · exact h e2
          · exact h e3
          · exact h e4
        · rw [if_pos (by simpa using e4), if_pos (.inr (.inr (.inr e4)))]
      · rw [if_neg e1, if_neg (by simpa using e2), if_pos (by simp; omega), j4, if_pos rfl, if_pos (.inr (.inr (.inl e3)))]
    · rw [if_neg e1, if_pos (by simpa using e2), j4, if_pos rfl, if_pos (.inr (.inl e2))]
  by_cases n0 : n = 0
  · subst n0
    rw [if_neg (by decide), key _ _ (by simp) (by simp), dec_of (by omega) (by omega) (by simp) fun l _ h2 _ => ⟨(List.eq_nil_of_length_eq_zero h2).symm, rfl⟩]
  · obtain ⟨x, hx1, hx2, hx3, hx4⟩ := guess_all (b := b) (many := n) kind hb (by omega) (by omega)
    rw [if_pos (by simp; omega), hx1, Option.bind_some, key _ _ hx2 hx3, dec_of (by omega) (by omega) hx2 hx4]
theorem ref_Decode_eq {b : List Int} (kind many : Int) (hb : Byt b) (hl : b.length ≤ 1048576) : hayloftref06_Decode kind b many = some (dec kind b many) := by
  have jt1 : hayloftref06_Decode_j1 kind b many true = some ([], 62) := rfl
  have jt2 : hayloftref06_Decode_j2 kind b many true = some ([], 61) := rfl
  unfold hayloftref06_Decode
  by_cases h0 : kind < 0
  · rw [if_pos (by simpa using h0), jt1, dec_bad_kind (.inl h0)]
  by_cases h4 : 4 < kind
  · rw [if_neg (by simpa using h0), decide_eq_true h4, jt1, dec_bad_kind (.inr h4)]
  have hk : ¬ (kind < 0 ∨ 4 < kind) := by omega
  rw [if_neg (by simpa using h0), decide_eq_false h4]
  unfold hayloftref06_Decode_j1
  rw [if_neg (by decide)]
  by_cases m0 : many < 0
  · rw [if_pos (by simpa using m0), jt2, dec_bad_many hk (.inl m0)]
  by_cases m64 : 64 < many
  · rw [if_neg (by simpa using m0), decide_eq_true m64, jt2, dec_bad_many hk (.inr m64)]
  rw [if_neg (by simpa using m0), decide_eq_false m64]
  unfold hayloftref06_Decode_j2
  rw [if_neg (by decide)]
  obtain ⟨n, rfl⟩ := Int.eq_ofNat_of_zero_le (show 0 ≤ many by omega)
  have j4 : ∀ g x, hayloftref06_Decode_j4 g x = some (if x = true then ([], 60) else (g, 0)) := fun g x => by cases x <;> rfl
  have key : ∀ (g : List Api_Value), (∀ v ∈ g, VOK v) → g.length ≤ 1048576 → hayloftref06_Decode_j3 kind b (n : Int) g = some (if (!true) = true ∨ (enc kind g).2 ≠ 0 ∨ g.length ≠ n ∨ (enc kind g).1 ≠ b then ([], 60) else (g, 0)) := by
    intro g hg hgl
    unfold hayloftref06_Decode_j3
    rw [ref_Encode_eq kind hg hgl, Option.bind_some]
    by_cases e2 : (enc kind g).2 = 0
    · by_cases e3 : g.length = n
      · rw [if_neg (by simpa using e2), if_neg (by simpa using by omega), j4]
        by_cases e4 : (enc kind g).1 = b
        · rw [if_neg (by simpa using e4), if_neg]
          rintro (h | h | h | h)
          · cases h
          · exact h e2
          · exact h e3
          · exact h e4
        · rw [if_pos (by simpa using e4), if_pos (.inr (.inr (.inr e4)))]
      · rw [if_neg (by simpa using e2), if_pos (by simp; omega), j4, if_pos rfl, if_pos (.inr (.inr (.inl e3)))]
    · rw [if_pos (by simpa using e2), j4, if_pos rfl, if_pos (.inr (.inl e2))]
  by_cases n0 : n = 0
  · subst n0
    rw [if_neg (by decide), key _ (by simp) (by simp), dec_of (by omega) (by omega) (by simp) fun l _ h2 _ => ⟨(List.eq_nil_of_length_eq_zero h2).symm, rfl⟩]
  · rw [if_pos (by simp; omega)]
    have fin : ∀ {o : Option (List Api_Value)}, (∃ g, o = some g ∧ RGuess kind b n g) → (o.bind fun r => hayloftref06_Decode_j3 kind b (n : Int) r) = some (dec kind b (n : Int)) := by
      rintro o ⟨g, rfl, g1, g2, g3⟩
      rw [Option.bind_some, key _ g1 g2, dec_of (by omega) (by omega) g1 fun l h1 h2 h3 => ⟨g3 l h1 h2 h3, rfl⟩]
    have hm : 1 ≤ n ∧ n ≤ 64 := by omega
    by_cases k0 : kind = 0
    · subst k0; rw [if_pos (by decide)]; exact fin (ref_plain_ok hb hl hm)
    by_cases k1 : kind = 1
    · subst k1; rw [if_neg (by decide), if_pos (by decide)]; exact fin (ref_runs_ok hb hl hm)
    by_cases k2 : kind = 2
    · subst k2; rw [if_neg (by decide), if_neg (by decide), if_pos (by decide)]; exact fin (ref_deltas_ok hb hl hm)
    by_cases k3 : kind = 3
    · subst k3; rw [if_neg (by decide), if_neg (by decide), if_neg (by decide), if_pos (by decide)]; exact fin (ref_dicts_ok hb hl hm)
    · rw [if_neg (by simpa using k0), if_neg (by simpa using k1), if_neg (by simpa using k2), if_neg (by simpa using k3)]
      exact fin (ref_smalls_ok ⟨k0, k1, k2, k3⟩ hb hl hm)
end Go.Proofs.Ytifobhaccglckaa.Hay
