import Derived.Test.YtifobhaccglckaaHcS
namespace Go.Proofs.Ytifobhaccglckaa.Hay
def parse : List Int → Option (AV × Nat)
  | [] => none
  | k :: b =>
    if k = 0 then some (vNull, 1) else
    if k = 1 then (match b with | c :: _ => if c ≤ 1 then some (vBool (c == 1), 2) else none | [] => none) else
    if k = 2 then (if 8 ≤ b.length then some (vInt (IntKind.i64.wrap (said (b.take 8))), 9) else none) else
    if k = 3 then (match b with | c :: r => if c ≤ 64 ∧ c ≤ (r.length : Int) then some (vText (r.take c.toNat), 2 + c.toNat) else none | [] => none) else none
theorem be8_said {l : List Int} (h : Byt l) (hl : l.length = 8) : be8 (said l) = l := by
  match l, hl with
  | [a, b, c, d, e, f, g, i], _ =>
    have ha := h a (by simp); have hb := h b (by simp); have hc := h c (by simp); have hd := h d (by simp)
    have he := h e (by simp); have hf := h f (by simp); have hg := h g (by simp); have hi := h i (by simp)
    simp only [be8, said, List.foldl_cons, List.foldl_nil, List.cons.injEq, and_true]
    refine ⟨?_, ?_, ?_, ?_, ?_, ?_, ?_, ?_⟩ <;> omega
theorem wrap_i64 (n : Int) : IntKind.i64.wrap n = (n + 9223372036854775808) % 18446744073709551616 - 9223372036854775808 := by
  simp only [IntKind.wrap, IntKind.bits, IntKind.signed]; simp; omega
theorem wrap_mod {n : Int} (h : 0 ≤ n ∧ n < 18446744073709551616) : IntKind.i64.wrap n % 18446744073709551616 = n := by
  rw [wrap_i64]; omega
theorem mod_wrap {n : Int} (h : i64r n) : IntKind.i64.wrap (n % 18446744073709551616) = n := by
  rw [wrap_i64]; unfold i64r at h; omega
theorem wrap_r (n : Int) : i64r (IntKind.i64.wrap n) := by rw [wrap_i64]; unfold i64r; omega
theorem parse_one {v : AV} (h : Rgt v) (r : List Int) : parse (oneB v ++ r) = some (v, (oneB v).length) := by
  cases h with
  | null => simp [oneB_null, parse]
  | bool b => cases b <;> simp [oneB_bool, parse]
  | int n h =>
    rw [oneB_int]
    have h1 : ¬ ((2 : Int) = 0) := by decide
    have h2 : ¬ ((2 : Int) = 1) := by decide
    have h3 : 8 ≤ (be8 (n % 18446744073709551616) ++ r).length := by simp [be8_length]
    have h4 : (be8 (n % 18446744073709551616) ++ r).take 8 = be8 (n % 18446744073709551616) := List.take_left' (be8_length _)
    simp only [List.cons_append, parse]
    rw [if_neg h1, if_neg h2, if_pos trivial, if_pos h3, h4, said_be8 (by omega) (by omega), mod_wrap h]
    simp [be8_length]
  | text t h hl =>
    rw [oneB_text]
    simp only [List.cons_append, parse]
    rw [if_neg (by decide), if_neg (by decide), if_neg (by decide), if_pos trivial, if_pos (by simp; omega)]
    simp
    omega
theorem parse_some {b : List Int} {v : AV} {n : Nat} (hb : Byt b) (h : parse b = some (v, n)) : Rgt v ∧ ∃ r, b = oneB v ++ r ∧ n = (oneB v).length := by
  cases b with
  | nil => cases h
  | cons k b =>
    simp only [parse] at h
    split at h
    · rename_i hk; subst hk
      simp only [Option.some.injEq, Prod.mk.injEq] at h
      obtain ⟨rfl, rfl⟩ := h
      exact ⟨.null, b, rfl, rfl⟩
    split at h
    · rename_i hk; subst hk
      cases b with
      | nil => cases h
      | cons c r =>
        simp only at h
        split at h
        · rename_i hc
          simp only [Option.some.injEq, Prod.mk.injEq] at h
          obtain ⟨rfl, rfl⟩ := h
          have h0 := hb.tail.head
          have : c = 0 ∨ c = 1 := by omega
          rcases this with rfl | rfl
          · exact ⟨.bool _, r, rfl, rfl⟩
          · exact ⟨.bool _, r, rfl, rfl⟩
        · cases h
    split at h
    · rename_i hk; subst hk
      split at h
      · rename_i hl
        simp only [Option.some.injEq, Prod.mk.injEq] at h
        obtain ⟨rfl, rfl⟩ := h
        have h8 : (b.take 8).length = 8 := by simp; omega
        have hbd := said_bd (b.take 8) (hb.tail.take 8)
        rw [h8] at hbd
        refine ⟨.int _ (wrap_r _), b.drop 8, ?_, ?_⟩
        · rw [oneB_int, wrap_mod (by omega), be8_said (hb.tail.take 8) h8]
          simp
        · rw [oneB_int]; simp [be8_length]
      · cases h
    split at h
    · rename_i hk; subst hk
      cases b with
      | nil => cases h
      | cons c r =>
        simp only at h
        split at h
        · rename_i hc
          simp only [Option.some.injEq, Prod.mk.injEq] at h
          obtain ⟨rfl, rfl⟩ := h
          have h0 := hb.tail.head
          refine ⟨.text _ (hb.tail.tail.take _) (by simp; omega), r.drop c.toNat, ?_, ?_⟩
          · rw [oneB_text]
            have : ((r.take c.toNat).length : Int) = c := by simp; omega
            rw [this]; simp
          · rw [oneB_text]; simp; omega
        · cases h
    · cases h
theorem parse_bd {b : List Int} {v : AV} {n : Nat} (hb : Byt b) (h : parse b = some (v, n)) : 1 ≤ n ∧ n ≤ 66 ∧ n ≤ b.length := by
  obtain ⟨h1, r, rfl, rfl⟩ := parse_some hb h
  have := oneB_len h1
  simp; omega
theorem parse_take {b : List Int} {v : AV} {n k : Nat} (hb : Byt b) (h : parse (b.take k) = some (v, n)) : parse b = some (v, n) ∧ n ≤ k := by
  obtain ⟨h1, r, h2, rfl⟩ := parse_some (hb.take k) h
  have h3 : b = oneB v ++ (r ++ b.drop k) := by rw [← List.append_assoc, ← h2]; simp
  refine ⟨by rw [h3]; exact parse_one h1 _, ?_⟩
  have := congrArg List.length h2
  simp at this; omega
theorem parse_take_ge {b : List Int} {v : AV} {n k : Nat} (hb : Byt b) (h : parse b = some (v, n)) (hk : n ≤ k) : parse (b.take k) = some (v, n) := by
  obtain ⟨h1, r, rfl, rfl⟩ := parse_some hb h
  rw [List.take_append, List.take_of_length_le hk]
  exact parse_one h1 _
theorem or_add {x y : Int} (k : Nat) (hx : 0 ≤ x) (h0 : 0 ≤ y) (hy : y < 2 ^ k) (hs : x * 2 ^ k + y < 18446744073709551616) : bOr .u64 (x * 2 ^ k) y = x * 2 ^ k + y := by
  obtain ⟨a, rfl⟩ := Int.eq_ofNat_of_zero_le hx
  obtain ⟨b, rfl⟩ := Int.eq_ofNat_of_zero_le h0
  have e : (a : Int) * 2 ^ k = ((2 ^ k * a : Nat) : Int) := by rw [Int.natCast_mul, Int.natCast_pow, Int.mul_comm]; rfl
  have e2 : ((2 : Int) ^ k) = ((2 ^ k : Nat) : Int) := by rw [Int.natCast_pow]; rfl
  rw [e2] at hy
  rw [e] at hs ⊢
  have hb : b < 2 ^ k := by omega
  rw [or64 (by omega) (by omega), ← Nat.two_pow_add_eq_or_of_lt hb]
  omega
theorem rows_number_eq {b : List Int} (hb : Byt b) (hl : 8 ≤ b.length) : rows_number b = some (said (b.take 8)) := by
  unfold rows_number
  refine loop_seq (fun i => (said (b.take i), (i : Int))) 8 (by simp [said]) (fun i hi => ?_) ?_
  · dsimp only
    unfold rows_number_b1
    have hi' : i < b.length := by omega
    have hbd := said_bd (b.take i) (hb.take i)
    have hci := hb b[i] (List.getElem_mem hi')
    have hp : (256 : Int) ^ (b.take i).length ≤ 256 ^ 7 := by
      have : (b.take i).length ≤ 7 := by simp; omega
      have h9 := Nat.pow_le_pow_right (show 0 < 256 by omega) this
      have h8 := Int.ofNat_le.2 h9
      simpa [Int.natCast_pow] using h8
    have hsh := shl64 (x := said (b.take i)) (k := 8) (by omega)
    rw [show ((8 : Nat) : Int) = 8 from rfl] at hsh
    have e : said (b.take (i + 1)) = said (b.take i) * 256 + b[i] := by
      rw [List.take_succ_eq_append_getElem hi', said_append]
    have e1 : said (b.take i) * 2 ^ 8 % 18446744073709551616 = said (b.take i) * 2 ^ 8 := by omega
    have e2 : b[i] % 18446744073709551616 = b[i] := by omega
    rw [if_pos (by simpa using by omega), idx_of hi', Option.bind_some, succ64 (by omega), hsh, wrapu64, e, e1, e2, or_add 8 (by omega) (by omega) (by omega) (by omega)]
    rfl
  · unfold rows_number_b1 rows_number_j1
    dsimp only
    rw [if_neg (by simp)]; rfl
theorem idx_cons0 {α : Type} (a : α) (l : List α) : idx (a :: l) 0 = some a := idx_of (xs := a :: l) (i := 0) (by simp)
theorem idx_cons1 {α : Type} (a b : α) (l : List α) : idx (a :: b :: l) 1 = some b := idx_of (xs := a :: b :: l) (i := 1) (by simp)
theorem sub_from {α : Type} {xs : List α} {k : Nat} (h : k ≤ xs.length) : sub xs (k : Int) (xs.length : Int) = some (xs.drop k) := by
  rw [sub_of h (Nat.le_refl _), List.take_length]
theorem sub_from1 {α : Type} (a : α) (l : List α) : sub (a :: l) 1 ((a :: l).length : Int) = some l := by
  have := sub_from (xs := a :: l) (k := 1) (by simp)
  simpa using this
theorem byte64 {c : Int} (h : 0 ≤ c ∧ c < 256) : IntKind.i64.wrap c = c := wrap64 (by omega)
theorem rows_read_eq {b : List Int} (hb : Byt b) : rows_read b = some (match parse b with | some (v, n) => (v, b.drop n, true) | none => (vNull, [], false)) := by
  cases b with
  | nil => rfl
  | cons k r =>
    have hk := hb.head
    have hr := hb.tail
    unfold rows_read
    rw [if_neg (by simp; omega), idx_cons0, Option.bind_some, sub_from1, Option.bind_some, byte64 hk]
    by_cases h0 : k = 0
    · subst h0; simp [parse, value_Null]
    rw [if_neg (by simpa using h0)]
    have e0 : rows_read_j3 r false = some (vNull, [], false) := rfl
    by_cases h1 : k = 1
    · subst h1
      have e2 : rows_read_j1 1 r false = some (vNull, [], false) := rfl
      rw [if_pos (by simp)]
      cases r with
      | nil => simp [parse, e2]
      | cons c r =>
        rw [if_pos (by simp; omega), idx_cons0, Option.bind_some]
        by_cases hc : c ≤ 1
        · unfold rows_read_j1
          rw [if_pos (by simpa using hc), idx_cons0, Option.bind_some, sub_from1]
          simp [parse, hc, value_Bool]
        · have : decide (c ≤ 1) = false := by simpa using hc
          rw [this, e2]
          simp [parse, hc]
    rw [if_neg (by simpa using h1)]
    unfold rows_read_j1
    rw [if_neg (by decide), byte64 hk]
    by_cases h2 : k = 2
    · subst h2
      rw [if_pos (by simp)]
      unfold rows_read_j2
      by_cases hl : 8 ≤ r.length
      · have hs := sub_from (xs := r) (k := 8) hl
        rw [show ((8 : Nat) : Int) = 8 from rfl] at hs
        rw [if_pos (by simpa using by omega), rows_number_eq hr hl, Option.bind_some]
        unfold value_Int
        rw [Option.bind_some, hs]
        simp [parse, hl]
      · rw [if_neg (by simpa using by omega), if_neg (by decide), e0]
        simp [parse, hl]
    rw [if_neg (by simpa using h2)]
    unfold rows_read_j2
    rw [if_neg (by decide), byte64 hk]
    by_cases h3 : k = 3
    · subst h3
      rw [if_pos (by simp)]
      cases r with
      | nil => simp [parse, e0]
      | cons c r =>
        have hc := hr.head
        rw [if_pos (by simp; omega), idx_cons0, Option.bind_some]
        by_cases hc64 : c ≤ 64
        · rw [if_pos (by simpa using hc64), Option.bind_some, byte64 hc]
          by_cases hl : c ≤ (r.length : Int)
          · obtain ⟨n, rfl⟩ := Int.eq_ofNat_of_zero_le hc.1
            have e3 : IntKind.u8.wrap (1 + (n : Int)) = ((1 + n : Nat) : Int) := by rw [wrapu8]; omega
            have hs := sub_of (xs := (n : Int) :: r) (lo := 1) (hi := 1 + n) (by omega) (by simp; omega)
            rw [show ((1 : Nat) : Int) = 1 from rfl] at hs
            have hs2 := sub_from (xs := (n : Int) :: r) (k := 1 + n) (by simp; omega)
            unfold rows_read_j3
            rw [if_pos (by simp; omega), idx_cons0, Option.bind_some, e3, hs, Option.bind_some]
            unfold value_Text
            rw [Option.bind_some, Option.bind_some, e3, hs2]
            have e5 : parse (3 :: (n : Int) :: r) = some (vText (r.take n), 2 + n) := by
              simp only [parse]
              rw [if_neg (by decide), if_neg (by decide), if_neg (by decide), if_pos trivial, if_pos ⟨hc64, hl⟩]; simp
            rw [e5]
            simp only [Option.bind_some, Option.some.injEq, Prod.mk.injEq, and_true]
            have e6 : 1 + n = n + 1 := by omega
            have e7 : 2 + n = n + 1 + 1 := by omega
            rw [e6, e7]; simp
          · have : decide (c < (((c :: r).length : Nat) : Int)) = false := by simp; omega
            rw [this, e0]; simp [parse, hl]
        · rw [if_neg (by simpa using hc64), e0]; simp [parse, hc64]
    rw [if_neg (by simpa using h3), e0]
    simp [parse, h0, h1, h2, h3]
def parseN : Nat → List Int → Option (List AV × List Int)
  | 0, b => some ([], b)
  | n + 1, b => match parse b with
    | some (v, k) => (parseN n (b.drop k)).map fun x => (v :: x.1, x.2)
    | none => none
theorem rows_Decode_loop (many : Nat) (hm : many ≤ 255) : ∀ (n i : Nat) (b : List Int) (acc : List AV), i + n = many → Byt b → acc.length = i →
    loopO (fun s : ((List Int) × (List AV) × Int) => rows_Decode_b1 (many : Int) s.1 s.2.1 s.2.2) (b, acc, (i : Int)) = some (match parseN n b with | some (l, []) => (acc ++ l, 0) | _ => ([], 30)) := by
  intro n
  induction n with
  | zero =>
    intro i b acc hi hb ha
    apply loopO_end
    dsimp only
    unfold rows_Decode_b1 rows_Decode_j2
    rw [if_neg (by rw [wrap64 (by omega)]; simp; omega)]
    cases b with
    | nil => simp [parseN]
    | cons c r => simp [parseN]
  | succ n ih =>
    intro i b acc hi hb ha
    have step : rows_Decode_b1 (many : Int) b acc (i : Int) = match parse b with | some (v, k) => some (.inl (b.drop k, acc ++ [v], ((i + 1 : Nat) : Int))) | none => some (.inr ([], 30)) := by
      unfold rows_Decode_b1
      rw [if_pos (by rw [wrap64 (by omega)]; simp; omega), rows_read_eq hb, Option.bind_some]
      cases hp : parse b with
      | none => rfl
      | some x =>
        obtain ⟨v, k⟩ := x
        simp only [Bool.not_true, Bool.false_eq_true, if_false]
        rw [app_of (by simp; omega), Option.bind_some, succ64 (by omega)]
    simp only [parseN]
    cases hp : parse b with
    | none => rw [hp] at step; rw [loopO_end (by dsimp only; exact step)]
    | some x =>
      obtain ⟨v, k⟩ := x
      rw [hp] at step
      rw [loopO_go (by dsimp only; exact step), ih (i + 1) _ _ (by omega) (hb.drop _) (by simp; omega)]
      dsimp only
      cases hq : parseN n (b.drop k) with
      | none => rfl
      | some y =>
        obtain ⟨l, r⟩ := y
        cases r <;> simp
theorem rows_Decode_eq {b : List Int} (hb : Byt b) : rows_Decode b = some (match b with | [] => ([], 30) | c :: r => if c ≤ 16 then (match parseN c.toNat r with | some (l, []) => (l, 0) | _ => ([], 30)) else ([], 30)) := by
  cases b with
  | nil => rfl
  | cons c r =>
    have hc := hb.head
    unfold rows_Decode
    rw [if_neg (by simp; omega), idx_cons0, Option.bind_some]
    unfold rows_Decode_j1
    by_cases h : c ≤ 16
    · rw [if_neg (by simpa using h), idx_cons0, Option.bind_some, sub_from1, Option.bind_some]
      have := rows_Decode_loop c.toNat (by omega) c.toNat 0 r [] (by omega) hb.tail rfl
      rw [show ((c.toNat : Nat) : Int) = c by omega] at this
      rw [show ((0 : Nat) : Int) = 0 from rfl] at this
      rw [this]
      simp [h]
    · rw [if_pos (by simpa using by omega)]; simp [h]
theorem rows_Decode_one {c : List Int} (hb : Byt c) : rows_Decode (1 :: c) = some (match parse c with | some (v, k) => if k = c.length then ([v], 0) else ([], 30) | none => ([], 30)) := by
  rw [rows_Decode_eq (hb.cons (by decide))]
  simp only [show ((1 : Int) ≤ 16) = True by simp, if_true, show (1 : Int).toNat = 1 from rfl, parseN]
  cases hp : parse c with
  | none => rfl
  | some x =>
    obtain ⟨v, k⟩ := x
    have := (parse_bd hb hp).2.2
    simp only [Option.map_some]
    by_cases h : k = c.length
    · subst h; simp
    · rw [if_neg h]
      cases hd : c.drop k with
      | nil => have := List.drop_eq_nil_iff.1 hd; omega
      | cons _ _ => rfl
theorem value_eq {r : Encode_reader} (hb : Byt r.fB) (hl : r.fB.length < 140737488355328) : encode_reader_value r = some (match parse r.fB with | some (v, n) => (v, ⟨r.fB.drop n, r.fOk⟩) | none => (vNull, ⟨r.fB, false⟩)) := by
  unfold encode_reader_value
  have step : ∀ k, 1 ≤ k → k ≤ r.fB.length → k ≤ 66 → encode_reader_value_b1 r (k : Int) = match parse (r.fB.take k) with | some (v, n) => (if n = k then some (.inr (v, ⟨r.fB.drop k, r.fOk⟩)) else some (.inl ((k + 1 : Nat) : Int))) | none => some (.inl ((k + 1 : Nat) : Int)) := by
    intro k h1 h2 h3
    have hs := sub_of (xs := r.fB) (lo := 0) (hi := k) (by omega) h2
    rw [show ((0 : Nat) : Int) = 0 from rfl] at hs
    unfold encode_reader_value_b1 encode_reader_value_j2
    rw [if_pos (by simpa using by omega), if_pos (by simp; omega), hs, Option.bind_some, app_of (by simp; omega), Option.bind_some, List.drop_zero, List.singleton_append, rows_Decode_one (hb.take _), Option.bind_some, sub_from h2, succ64 (by omega)]
    have hlen : (r.fB.take k).length = k := by simp; omega
    cases hp : parse (r.fB.take k) with
    | none => rfl
    | some x =>
      obtain ⟨v, n⟩ := x
      simp only [hlen]
      by_cases e : n = k
      · rw [if_pos e, if_pos e]; rfl
      · rw [if_neg e, if_neg e]; rfl
  cases hp : parse r.fB with
  | some x =>
    obtain ⟨v, n⟩ := x
    have hn := parse_bd hb hp
    refine loop_seq (fun i => ((i + 1 : Nat) : Int)) (n - 1) rfl (fun i hi => ?_) ?_
    · rw [step (i + 1) (by omega) (by omega) (by omega)]
      cases hq : parse (r.fB.take (i + 1)) with
      | none => rfl
      | some y =>
        obtain ⟨v', n'⟩ := y
        obtain ⟨h1, h2⟩ := parse_take hb hq
        rw [hp] at h1
        simp only [Option.some.injEq, Prod.mk.injEq] at h1
        omega
    · have e : n - 1 + 1 = n := by omega
      rw [e, step n (by omega) (by omega) (by omega), parse_take_ge hb hp (Nat.le_refl _)]
      simp
  | none =>
    refine loop_seq (fun i => ((i + 1 : Nat) : Int)) (min r.fB.length 66) rfl (fun i hi => ?_) ?_
    · rw [step (i + 1) (by omega) (by omega) (by omega)]
      cases hq : parse (r.fB.take (i + 1)) with
      | none => rfl
      | some y =>
        obtain ⟨v', n'⟩ := y
        obtain ⟨h1, h2⟩ := parse_take hb hq
        rw [hp] at h1; cases h1
    · have e0 : encode_reader_value_j2 r ((min r.fB.length 66 + 1 : Nat) : Int) false = some (.inr (vNull, ⟨r.fB, false⟩)) := rfl
      unfold encode_reader_value_b1
      split
      · have : decide (((min r.fB.length 66 + 1 : Nat) : Int) ≤ 66) = false := by
          rename_i h; simp at h ⊢; omega
        rw [this, e0]
      · exact e0
end Go.Proofs.Ytifobhaccglckaa.Hay
