import Derived.Test.YtifobhaccglckaaHcY
namespace Go.Proofs.Ytifobhaccglckaa.Hay
theorem enc_some {kind : Int} {l : List AV} {b : List Int} (h : enc kind l = (b, 0)) : (0 ≤ kind ∧ kind ≤ 4) ∧ l.length ≤ 64 ∧ l.all right = true ∧ ((kind = 2 ∨ kind = 4) → isInts l = true) ∧ ((l = [] ∧ b = []) ∨ (l ≠ [] ∧ b = encK kind l)) := by
  unfold enc at h
  split at h
  · cases h
  rename_i h1
  split at h
  · cases h
  rename_i h2
  split at h
  · cases h
  rename_i h3
  split at h
  · cases h
  rename_i h4
  refine ⟨by omega, by omega, by simpa using h3, fun h5 => ?_, ?_⟩
  · cases hi : isInts l with
    | true => rfl
    | false => exact absurd ⟨h5, hi⟩ h4
  · split at h
    · rename_i h6; left; exact ⟨h6, (Prod.mk.inj h).1.symm⟩
    · rename_i h6; right; exact ⟨h6, (Prod.mk.inj h).1.symm⟩
def Exact (kind : Int) (b : List Int) (many : Nat) (g : List AV) (ok : Bool) : Prop := ∀ l : List AV, (∀ v ∈ l, Rgt v) → l.length = many → enc kind l = (b, 0) → g = l ∧ ok = true
def Guess (kind : Int) (b : List Int) (many : Nat) (x : List AV × Encode_reader) : Prop := (∀ v ∈ x.1, VOK v) ∧ x.1.length ≤ 1048576 ∧ Exact kind b many x.1 x.2.fOk
theorem plainB_drop {l : List AV} {k : Nat} (h : k < l.length) : plainB (l.drop k) = oneB l[k] ++ plainB (l.drop (k + 1)) := by
  unfold plainB; rw [List.drop_eq_getElem_cons h, List.flatMap_cons]
theorem value_one {v : AV} (h : Rgt v) {r : List Int} {ok : Bool} {rest : List Int} (hr : r = oneB v ++ rest) (hb : Byt r) (hl : r.length < 140737488355328) : encode_reader_value ⟨r, ok⟩ = some (v, ⟨rest, ok⟩) := by
  rw [value_eq hb hl]
  dsimp only
  rw [hr, parse_one h]
  dsimp only
  rw [List.drop_left]
theorem value_any {r : Encode_reader} (hb : Byt r.fB) (hl : r.fB.length < 140737488355328) : ∃ v r', encode_reader_value r = some (v, r') ∧ Rgt v ∧ Byt r'.fB ∧ r'.fB.length ≤ r.fB.length ∧ (r.fOk = false → r'.fOk = false) := by
  rw [value_eq hb hl]
  cases hp : parse r.fB with
  | none => exact ⟨_, _, rfl, .null, hb, Nat.le_refl _, fun _ => rfl⟩
  | some x =>
    obtain ⟨v, n⟩ := x
    exact ⟨_, _, rfl, (parse_some hb hp).1, hb.drop _, by simp, fun h => h⟩
theorem guess_plain {b : List Int} {many : Nat} (hb : Byt b) (hl : b.length < 140737488355328) (hm : 1 ≤ many ∧ many ≤ 64) : ∃ x, encode_reader_guess ⟨b, true⟩ 0 (many : Int) = some x ∧ Guess 0 b many x := by
  unfold encode_reader_guess
  rw [if_pos (by decide)]
  refine loopO_inv (I := fun s : List AV × Encode_reader => Byt s.2.fB ∧ s.2.fB.length < 140737488355328 ∧ (∀ v ∈ s.1, Rgt v) ∧ s.1.length ≤ many ∧ ∀ l : List AV, (∀ v ∈ l, Rgt v) → l.length = many → b = plainB l → s.1 = l.take s.1.length ∧ s.2 = ⟨plainB (l.drop s.1.length), true⟩) (μ := fun s => many - s.1.length) (Q := Guess 0 b many) ?_ ⟨hb, hl, by simp, by simp, fun l _ _ h => ⟨rfl, by rw [h]; rfl⟩⟩
  rintro ⟨acc, r⟩ ⟨h1, h2, h3, h4, h5⟩
  dsimp only at *
  have hend : acc.length = many ∨ r.fOk = false → Guess 0 b many (acc, r) := fun h => ⟨fun v hv => (h3 v hv).ok, by dsimp only; omega, fun l hr hlen he => by
    obtain ⟨_, _, _, _, he⟩ := enc_some he
    have he' : b = plainB l := by
      rcases he with ⟨e, _⟩ | ⟨_, e⟩
      · subst e; simp at hlen; omega
      · exact e
    obtain ⟨g1, g2⟩ := h5 l hr hlen he'
    subst g2
    rcases h with h | h
    · rw [h, ← hlen, List.take_length] at g1; exact ⟨g1, rfl⟩
    · cases h⟩
  unfold encode_reader_guess_b1 encode_reader_guess_j2 encode_reader_guess_j1
  by_cases hlt : acc.length < many
  · rw [if_pos (decide_eq_true (by omega))]
    cases hok : r.fOk with
    | false => right; exact ⟨_, rfl, hend (.inr hok)⟩
    | true =>
      left
      rw [if_pos rfl]
      obtain ⟨v, r', e1, e2, e3, e4, _⟩ := value_any h1 h2
      rw [e1, Option.bind_some, app_of (by simp; omega), Option.bind_some]
      refine ⟨_, rfl, ⟨e3, by dsimp only; omega, fun x hx => ?_, by simp; omega, fun l hr hlen he => ?_⟩, by simp; omega⟩
      · rcases List.mem_append.1 hx with hx | hx
        · exact h3 x hx
        · have : x = v := by simpa using hx
          subst this; exact e2
      · obtain ⟨g1, g2⟩ := h5 l hr hlen he
        subst g2
        have hk : acc.length < l.length := by omega
        have := value_one (hr _ (List.getElem_mem hk)) (ok := true) (plainB_drop hk) h1 h2
        rw [this] at e1
        obtain ⟨rfl, rfl⟩ := Prod.mk.inj (Option.some.inj e1)
        refine ⟨?_, by simp⟩
        simp only [List.length_append, List.length_singleton]
        rw [List.take_succ_eq_append_getElem hk, ← g1]
  · right
    rw [if_neg (by simp; omega), if_neg (by decide)]
    exact ⟨_, rfl, hend (.inl (by omega))⟩
theorem mul64 : ∀ n : _root_.Fin 256, bits_Mul64 1 ((n.val : Nat) : Int) = some (0, ((n.val : Nat) : Int)) := by decide +kernel
theorem Repeat_eq (v : AV) {n : Nat} (hn : n ≤ 255) : slices_Repeat_Value [v] (n : Int) = some (List.replicate n v) := by
  have hm : bits_Mul64 1 (n : Int) = some (0, (n : Int)) := mul64 ⟨n, by omega⟩
  have e1 : IntKind.u64.wrap ((([v] : List AV).length : Nat) : Int) = 1 := by rw [wrapu64]; rfl
  have e2 : IntKind.u64.wrap (n : Int) = (n : Int) := by rw [wrapu64]; omega
  unfold slices_Repeat_Value slices_Repeat_Value_j1 bits_Mul
  rw [if_neg (by simp), e1, e2, hm, Option.bind_some, Option.bind_some]
  unfold slices_Repeat_Value_j2 slices_Repeat_Value_j3
  dsimp only
  rw [if_neg (by simp), if_neg (by simp; omega)]
  rw [wrap64 (by omega), mk_of (by omega), Option.bind_some]
  refine loopO_eqv (I := fun s : Int × List AV => ∃ k : Nat, s.1 = (k : Int) ∧ k ≤ n ∧ (0 < n → 0 < k) ∧ s.2 = List.replicate k v ++ List.replicate (n - k) AV.zero) (μ := fun s => n - s.1.toNat) ?_ ?_
  · rintro ⟨_, _⟩ ⟨k, rfl, hk, hk0, rfl⟩
    dsimp only
    unfold slices_Repeat_Value_b1 slices_Repeat_Value_j4
    have hlen : (List.replicate k v ++ List.replicate (n - k) AV.zero).length = n := by simp; omega
    by_cases hlt : k < n
    · left
      have hv1 : vw (List.replicate k v ++ List.replicate (n - k) AV.zero) (k : Int) ((List.replicate k v ++ List.replicate (n - k) AV.zero).length : Int) = some (k, n - k) := by
        unfold vw; rw [if_pos (by omega), hlen]; simp
      have hv2 : vw (List.replicate k v ++ List.replicate (n - k) AV.zero) 0 (k : Int) = some (0, k) := by
        unfold vw; rw [if_pos (by omega)]; simp
      have hmn : Nat.ble (min k (n - k)) maxSz = true := Nat.ble_eq_true_of_le (by unfold maxSz; omega)
      rw [if_pos (by rw [hlen]; exact decide_eq_true (by omega)), hv1, Option.bind_some, hv2, Option.bind_some]
      dsimp only
      rw [chk_true hmn, Option.bind_some]
      have hc : cpv (List.replicate k v ++ List.replicate (n - k) AV.zero) (k, n - k) (0, k) = some (List.replicate (k + min k (n - k)) v ++ List.replicate (n - (k + min k (n - k))) AV.zero) := by
        unfold cpv
        rw [if_pos (by dsimp only; omega)]
        dsimp only
        unfold spl
        have e3 : ((List.replicate k v ++ List.replicate (n - k) AV.zero).drop 0).take (min k (n - k)) = List.replicate (min k (n - k)) v := by
          rw [List.drop_zero, List.take_append_of_le_length (by simp; omega)]
          rw [List.take_replicate]; congr 1; omega
        rw [e3, List.take_left' (by simp), List.length_replicate, List.drop_append, List.drop_replicate, List.drop_replicate, List.length_replicate]
        have e4 : k - (k + min k (n - k)) = 0 := by omega
        have e5 : n - k - (k + min k (n - k) - k) = n - (k + min k (n - k)) := by omega
        rw [e4, e5, ← List.append_assoc, ← List.replicate_append_replicate]; simp
      rw [hc, Option.bind_some]
      refine ⟨_, rfl, ⟨k + min k (n - k), ?_, by omega, by omega, rfl⟩, ?_⟩
      · dsimp only; rw [wrap64 (by omega)]; omega
      · dsimp only; rw [wrap64 (by omega)]
        have := hk0 (by omega)
        omega
    · right
      have : k = n := by omega
      subst this
      rw [if_neg (by rw [hlen]; simp)]; simp
  · refine ⟨min 1 n, by simp, by omega, by omega, ?_⟩
    dsimp only
    unfold cpy
    rcases Nat.eq_zero_or_pos n with h | h
    · subst h; rfl
    · have : min 1 n = 1 := by omega
      rw [this]
      have e : n = (n - 1) + 1 := by omega
      rw [e, List.replicate_succ]; simp
def tk1 (r : Encode_reader) : List Int × Encode_reader := match r.fB with | [] => ([0], ⟨[], false⟩) | c :: t => ([c], ⟨t, r.fOk⟩)
theorem take_one (r : Encode_reader) : encode_reader_take r 1 = some (tk1 r) := by
  have := take_eq (r := r) (n := 1) (by omega)
  rw [show ((1 : Nat) : Int) = 1 from rfl] at this
  rw [this]
  obtain ⟨b, ok⟩ := r
  unfold tk1
  cases b with
  | nil => rfl
  | cons c t => simp
theorem tk1_cons (c : Int) (t : List Int) (ok : Bool) : tk1 ⟨c :: t, ok⟩ = ([c], ⟨t, ok⟩) := rfl
theorem tk1_any (r : Encode_reader) (h : Byt r.fB) : ∃ c r1, tk1 r = ([c], r1) ∧ (0 ≤ c ∧ c < 256) ∧ Byt r1.fB ∧ r1.fB.length ≤ r.fB.length ∧ (r1.fOk = false ∨ (r.fB = c :: r1.fB ∧ r1.fOk = r.fOk)) := by
  obtain ⟨b, ok⟩ := r
  cases b with
  | nil => exact ⟨0, ⟨[], false⟩, rfl, by decide, .nil, Nat.le_refl _, .inl rfl⟩
  | cons c t => exact ⟨c, ⟨t, ok⟩, rfl, h.head, h.tail, by simp, .inr ⟨rfl, rfl⟩⟩
def runsD (rs : List Encode_Run) : List Int := rs.flatMap fun r => r.fMany :: oneB r.fValue
theorem expand_len_take {rs : List Encode_Run} {j : Nat} (h : j < rs.length) : expand (rs.take (j + 1)) = expand (rs.take j) ++ List.replicate rs[j].fMany.toNat rs[j].fValue := by
  unfold expand; rw [List.take_succ_eq_append_getElem h, List.flatMap_append, List.flatMap_singleton]
theorem expand_split (rs : List Encode_Run) (j : Nat) : expand rs = expand (rs.take j) ++ expand (rs.drop j) := by
  unfold expand; rw [← List.flatMap_append, List.take_append_drop]
theorem guess_runs {b : List Int} {many : Nat} (hb : Byt b) (hl : b.length < 140737488355328) (hm : 1 ≤ many ∧ many ≤ 64) : ∃ x, encode_reader_guess ⟨b, true⟩ 1 (many : Int) = some x ∧ Guess 1 b many x := by
  unfold encode_reader_guess
  rw [if_neg (by decide), if_pos (by decide)]
  refine loopO_inv (I := fun s : List AV × Encode_reader => Byt s.2.fB ∧ s.2.fB.length < 140737488355328 ∧ (∀ v ∈ s.1, Rgt v) ∧ s.1.length ≤ many ∧ ∀ l : List AV, (∀ v ∈ l, Rgt v) → l.length = many → b = runsB l → ∃ j, j ≤ (runsL l).length ∧ s.1 = expand ((runsL l).take j) ∧ s.2 = ⟨runsD ((runsL l).drop j), true⟩) (μ := fun s => if s.2.fOk then s.2.fB.length + 1 else 0) (Q := Guess 1 b many) ?_ ⟨hb, hl, by simp, by simp, fun l _ _ h => ⟨0, by omega, rfl, by rw [h]; rfl⟩⟩
  rintro ⟨acc, r⟩ ⟨h1, h2, h3, h4, h5⟩
  dsimp only at *
  have hend : acc.length = many ∨ r.fOk = false → Guess 1 b many (acc, r) := fun h => ⟨fun v hv => (h3 v hv).ok, by dsimp only; omega, fun l hr hlen he => by
    obtain ⟨_, _, _, _, he⟩ := enc_some he
    have he' : b = runsB l := by
      rcases he with ⟨e, _⟩ | ⟨_, e⟩
      · subst e; simp at hlen; omega
      · exact e
    obtain ⟨j, g0, g1, g2⟩ := h5 l hr hlen he'
    subst g2
    rcases h with h | h
    · refine ⟨?_, rfl⟩
      have h6 := expand_split (runsL l) j
      rw [runsL_all.2.2, ← g1] at h6
      have h7 := congrArg List.length h6
      simp only [List.length_append] at h7
      have h8 : expand ((runsL l).drop j) = [] := List.eq_nil_of_length_eq_zero (by omega)
      rw [h8, List.append_nil] at h6
      exact h6.symm
    · cases h⟩
  unfold encode_reader_guess_b2 encode_reader_guess_j3 encode_reader_guess_j1
  by_cases hlt : acc.length < many
  · rw [if_pos (decide_eq_true (by omega))]
    cases hok : r.fOk with
    | false => right; exact ⟨_, rfl, hend (.inr hok)⟩
    | true =>
      left
      rw [if_pos rfl, take_one, Option.bind_some]
      obtain ⟨rb, rok⟩ := r
      dsimp only at *
      subst hok
      obtain ⟨c, r1, e1, hc, hr1, hr2, hr3⟩ := tk1_any ⟨rb, true⟩ h1
      replace hr2 : r1.fB.length < 140737488355328 := by dsimp only at hr2; omega
      dsimp only at hr3
      rw [e1]
      dsimp only
      rw [idx_cons0, Option.bind_some]
      obtain ⟨v, r', f1, f2, f3, f4, f5⟩ := value_any hr1 hr2
      obtain ⟨cn, rfl⟩ := Int.eq_ofNat_of_zero_le hc.1
      have hn : (if (IntKind.i64.wrap ((many : Int) - (acc.length : Int))) < (IntKind.i64.wrap (cn : Int)) then IntKind.i64.wrap ((many : Int) - (acc.length : Int)) else IntKind.i64.wrap (cn : Int)) = ((min cn (many - acc.length) : Nat) : Int) := by
        rw [wrap64 (by omega), wrap64 (by omega)]; split <;> omega
      rw [f1, Option.bind_some]
      dsimp only
      rw [hn, Repeat_eq v (by omega), Option.bind_some, app_of (by simp; omega), Option.bind_some]
      refine ⟨_, rfl, ⟨f3, by dsimp only; omega, fun x hx => ?_, by simp; omega, fun l hr hlen he => ?_⟩, ?_⟩
      · rcases List.mem_append.1 hx with hx | hx
        · exact h3 x hx
        · have := (List.mem_replicate.1 hx).2
          subst this; exact f2
      · obtain ⟨j, g0, g1, g2⟩ := h5 l hr hlen he
        obtain ⟨rfl, _⟩ := Encode_reader.mk.inj g2
        obtain ⟨q1, q2, q3⟩ := runsL_all (l := l)
        have hj : j < (runsL l).length := by
          rcases Nat.lt_or_ge j (runsL l).length with h | h
          · exact h
          · rw [List.take_of_length_le h, q3] at g1
            rw [g1] at hlt; omega
        have hd : runsD ((runsL l).drop j) = (runsL l)[j].fMany :: (oneB (runsL l)[j].fValue ++ runsD ((runsL l).drop (j + 1))) := by
          unfold runsD; rw [List.drop_eq_getElem_cons hj, List.flatMap_cons]; rfl
        have hm1 := q1 _ (List.getElem_mem hj)
        have hr4 : ((cn : Int) :: r1.fB = (runsL l)[j].fMany :: (oneB (runsL l)[j].fValue ++ runsD ((runsL l).drop (j + 1)))) ∧ r1.fOk = true := by
          rcases hr3 with h | ⟨h, h'⟩
          · exfalso
            rw [hd, tk1_cons] at e1
            rw [← (Prod.mk.inj e1).2] at h; cases h
          · rw [← hd, ← h]; exact ⟨rfl, h'⟩
        obtain ⟨hr5, hr6⟩ := hr4
        obtain ⟨hc1, hr7⟩ := List.cons.inj hr5
        obtain ⟨r1b, r1o⟩ := r1
        dsimp only at *
        subst hr6
        have hv := value_one (hr _ hm1.2.2) (ok := true) hr7 hr1 hr2
        rw [hv] at f1
        obtain ⟨rfl, rfl⟩ := Prod.mk.inj (Option.some.inj f1)
        refine ⟨j + 1, by omega, ?_, by simp⟩
        have hel := expand_len_take hj
        have hsp := expand_split (runsL l) (j + 1)
        rw [q3, hel, ← g1] at hsp
        have := congrArg List.length hsp
        simp only [List.length_append, List.length_replicate] at this
        rw [hel, ← g1]
        congr 2
        omega
      · dsimp only
        rcases hr3 with h | ⟨h, h'⟩
        · rw [if_neg (by rw [f5 h]; decide)]; simp
        · have := congrArg List.length h
          simp only [List.length_cons] at this
          simp only [if_true]
          split <;> omega
  · right
    rw [if_neg (by simp; omega), if_neg (by decide)]
    exact ⟨_, rfl, hend (.inl (by omega))⟩
theorem rnumber_eq {r : Encode_reader} (hb : Byt r.fB) : encode_reader_number r = some (if r.fB.length < 8 then (0, ⟨[], false⟩) else (said (r.fB.take 8), ⟨r.fB.drop 8, r.fOk⟩)) := by
  have key : ∀ (t : List Int) (r' : Encode_reader), Byt t → t.length = 8 → loopO (fun s : (Int × Int) => encode_reader_number_b1 (t, r') s.1 s.2) (0, 0) = some (said t, r') := by
    intro t r' ht hl
    refine loop_seq (fun i => (said (t.take i), (i : Int))) 8 (by simp [said]) (fun i hi => ?_) ?_
    · dsimp only
      unfold encode_reader_number_b1
      have hi' : i < t.length := by omega
      have hbd := said_bd (t.take i) (ht.take i)
      have hci := ht t[i] (List.getElem_mem hi')
      have hp : (256 : Int) ^ (t.take i).length ≤ 256 ^ 7 := by
        have : (t.take i).length ≤ 7 := by simp; omega
        have h9 := Nat.pow_le_pow_right (show 0 < 256 by omega) this
        have h8 := Int.ofNat_le.2 h9
        simpa [Int.natCast_pow] using h8
      have hsh := shl64 (x := said (t.take i)) (k := 8) (by omega)
      rw [show ((8 : Nat) : Int) = 8 from rfl] at hsh
      have e : said (t.take (i + 1)) = said (t.take i) * 256 + t[i] := by
        rw [List.take_succ_eq_append_getElem hi', said_append]
      have e1 : said (t.take i) * 2 ^ 8 % 18446744073709551616 = said (t.take i) * 2 ^ 8 := by omega
      have e2 : t[i] % 18446744073709551616 = t[i] := by omega
      dsimp only
      rw [if_pos (decide_eq_true (by omega)), idx_of hi', Option.bind_some, succ64 (by omega), hsh, wrapu64, e, e1, e2, or_add 8 (by omega) (by omega) (by omega) (by omega)]
      rfl
    · unfold encode_reader_number_b1 encode_reader_number_j1
      dsimp only
      rw [if_neg (by rw [hl]; simp), List.take_of_length_le (by omega)]; rfl
  unfold encode_reader_number
  have h8 := take_eq (r := r) (n := 8) (by omega)
  rw [show ((8 : Nat) : Int) = 8 from rfl] at h8
  rw [h8, Option.bind_some]
  by_cases h : r.fB.length < 8
  · rw [if_pos h, if_pos h, key _ _ (fun c hc => by rw [List.eq_of_mem_replicate hc]; decide) (by simp)]; rfl
  · rw [if_neg h, if_neg h, key _ _ (hb.take _) (by simp; omega)]
theorem short_any {r : Encode_reader} (hb : Byt r.fB) : ∃ x, encode_reader_short r = some x ∧ (Byt x.2.fB ∧ x.2.fB.length ≤ r.fB.length) := by
  unfold encode_reader_short
  refine loopO_inv (I := fun s : Int × Int × Encode_reader => ∃ k : Nat, s.2.1 = (k : Int) ∧ k ≤ 76 ∧ Byt s.2.2.fB ∧ s.2.2.fB.length ≤ r.fB.length) (μ := fun s => 77 - s.2.1.toNat) (Q := fun x : Int × Encode_reader => Byt x.2.fB ∧ x.2.fB.length ≤ r.fB.length) ?_ ⟨0, rfl, by omega, hb, Nat.le_refl _⟩
  rintro ⟨z, _, r1⟩ ⟨k, rfl, hk, h1, h2⟩
  dsimp only at *
  unfold encode_reader_short_b1 encode_reader_short_j2 encode_reader_short_j1
  by_cases h70 : (k : Int) < 70
  · rw [if_pos (decide_eq_true h70)]
    cases hok : r1.fOk with
    | false => right; exact ⟨_, rfl, h1, h2⟩
    | true =>
      rw [if_pos rfl, take_one, Option.bind_some]
      obtain ⟨c, r2, e1, hc, hr1, hr2, _⟩ := tk1_any r1 h1
      rw [e1]
      dsimp only
      rw [idx_cons0, Option.bind_some, chk_nat, Option.bind_some]
      by_cases h128 : c < 128
      · right; rw [if_pos (decide_eq_true h128)]; exact ⟨_, rfl, hr1, by dsimp only; omega⟩
      · left; rw [if_neg (by simpa using h128)]
        refine ⟨_, rfl, ⟨k + 7, ?_, by omega, hr1, by dsimp only; omega⟩, ?_⟩
        · dsimp only; rw [wrap64 (by omega)]; rfl
        · dsimp only; rw [wrap64 (by omega)]; omega
  · right; rw [if_neg (by simpa using h70), if_neg (by decide)]; exact ⟨_, rfl, h1, h2⟩
theorem and127 : ∀ n : _root_.Fin 256, n.val &&& 127 = n.val % 128 := by decide +kernel
theorem short_head (q : Nat) : ∃ (c : Nat) (t : List Int), short q = (c : Int) :: t ∧ c < 256 ∧ c % 128 = q % 128 ∧ ((c < 128 ∧ q < 128 ∧ t = []) ∨ (128 ≤ c ∧ 128 ≤ q ∧ t = short (q / 128))) := by
  by_cases h : q < 128
  · exact ⟨q, [], short_lt h, by omega, rfl, .inl ⟨h, h, rfl⟩⟩
  · exact ⟨q % 128 + 128, _, short_ge h, by omega, by omega, .inr ⟨by omega, by omega, rfl⟩⟩
theorem short_one {z : Nat} (hz : z < 18446744073709551616) (rest : List Int) : encode_reader_short ⟨short z ++ rest, true⟩ = some ((z : Int), ⟨rest, true⟩) := by
  unfold encode_reader_short
  have h64 : (2 : Nat) ^ 64 = 18446744073709551616 := by decide
  refine loopO_eqv (I := fun s : Int × Int × Encode_reader => ∃ i : Nat, i ≤ 9 ∧ s = (((z % 2 ^ (7 * i) : Nat) : Int), ((7 * i : Nat) : Int), ⟨short (z / 2 ^ (7 * i)) ++ rest, true⟩)) (μ := fun s => 77 - s.2.1.toNat) ?_ ⟨0, by omega, by simp [Nat.mod_one]⟩
  rintro _ ⟨i, hi, rfl⟩
  dsimp only
  unfold encode_reader_short_b1 encode_reader_short_j2
  obtain ⟨c, t, e1, hc, hcm, hcase⟩ := short_head (z / 2 ^ (7 * i))
  have hqz : 2 ^ (7 * i) * (z / 2 ^ (7 * i) % 128) + z % 2 ^ (7 * i) ≤ z := by
    have h1 := Nat.div_add_mod z (2 ^ (7 * i))
    have h2 : 2 ^ (7 * i) * (z / 2 ^ (7 * i) % 128) ≤ 2 ^ (7 * i) * (z / 2 ^ (7 * i)) := Nat.mul_le_mul_left _ (Nat.mod_le _ _)
    omega
  have hnext : z % 2 ^ (7 * (i + 1)) = 2 ^ (7 * i) * (z / 2 ^ (7 * i) % 128) + z % 2 ^ (7 * i) := by
    rw [show 7 * (i + 1) = 7 * i + 7 by omega, Nat.pow_add, Nat.mod_mul, show (2 : Nat) ^ 7 = 128 from rfl]; omega
  have hdiv : z / 2 ^ (7 * (i + 1)) = z / 2 ^ (7 * i) / 128 := by
    rw [show 7 * (i + 1) = 7 * i + 7 by omega, Nat.pow_add, Nat.div_div_eq_div_mul]
  have hlt : z % 2 ^ (7 * i) < 2 ^ (7 * i) := Nat.mod_lt _ (Nat.pow_pos (by decide))
  have hor : bOr .u64 ((z % 2 ^ (7 * i) : Nat) : Int) (iShl .u64 (IntKind.u64.wrap (bAnd .u8 (c : Int) 127)) ((7 * i : Nat) : Int)) = ((z % 2 ^ (7 * (i + 1)) : Nat) : Int) := by
    have h1 : bAnd .u8 (c : Int) 127 = ((c % 128 : Nat) : Int) := by
      have := and127 ⟨c, hc⟩
      simp only at this
      rw [show (127 : Int) = ((127 : Nat) : Int) from rfl, and8 hc (by omega), this]
    rw [h1, hcm, wrapu64, shl64 (by omega)]
    have h2 : (((z / 2 ^ (7 * i) % 128 : Nat) : Int)) % 18446744073709551616 = ((z / 2 ^ (7 * i) % 128 : Nat) : Int) := by
      generalize z / 2 ^ (7 * i) = q; omega
    have h3 : (((z / 2 ^ (7 * i) % 128 : Nat) : Int)) * 2 ^ (7 * i) = ((2 ^ (7 * i) * (z / 2 ^ (7 * i) % 128) : Nat) : Int) := by
      rw [Int.natCast_mul, Int.natCast_pow, Int.mul_comm]; rfl
    rw [h2, h3]
    have h4 : ((2 ^ (7 * i) * (z / 2 ^ (7 * i) % 128) : Nat) : Int) % 18446744073709551616 = ((2 ^ (7 * i) * (z / 2 ^ (7 * i) % 128) : Nat) : Int) := by
      generalize 2 ^ (7 * i) * (z / 2 ^ (7 * i) % 128) = u at *
      omega
    rw [h4, or64 (by omega) (by omega), Nat.or_comm, ← Nat.two_pow_add_eq_or_of_lt hlt, hnext]
  rw [if_pos (decide_eq_true (by omega)), if_pos rfl, take_one, Option.bind_some, e1, List.cons_append, tk1_cons]
  dsimp only
  rw [idx_cons0, Option.bind_some, chk_nat, Option.bind_some, hor]
  rcases hcase with ⟨g1, g2, rfl⟩ | ⟨g1, g2, rfl⟩
  · right
    rw [if_pos (decide_eq_true (by omega))]
    have : z % 2 ^ (7 * (i + 1)) = z := by
      apply Nat.mod_eq_of_lt
      rw [show 7 * (i + 1) = 7 * i + 7 by omega, Nat.pow_add, Nat.mul_comm]
      have := (Nat.div_lt_iff_lt_mul (Nat.pow_pos (n := 7 * i) (show 0 < 2 by decide))).1 g2
      exact this
    rw [this]; rfl
  · left
    rw [if_neg (by simp; omega)]
    refine ⟨_, rfl, ⟨i + 1, ?_, ?_⟩, ?_⟩
    · have h1 : 128 * 2 ^ (7 * i) ≤ z := (Nat.le_div_iff_mul_le (Nat.pow_pos (by decide))).1 g2
      rcases Nat.lt_or_ge i 9 with h | h
      · omega
      · have : i = 9 := by omega
        subst this
        have : (128 : Nat) * 2 ^ (7 * 9) = 1180591620717411303424 := by decide
        omega
    · rw [hdiv, wrap64 (by omega)]
      congr 2
    · dsimp only; rw [wrap64 (by omega)]; omega
theorem xor_i64 {a : Int} (ha : i64r a) : bXor .i64 a (-1) = -a - 1 ∧ bXor .i64 a 0 = a := by
  unfold bXor
  rw [wrap_i64, wrap_i64]
  have hb : ((BitVec.ofInt 64 a).toNat : Int) = a % 18446744073709551616 := by
    rw [BitVec.toNat_ofInt]; omega
  constructor
  · show (((BitVec.ofInt 64 a ^^^ BitVec.ofInt 64 (-1)).toNat : Nat) + 9223372036854775808 : Int) % 18446744073709551616 - 9223372036854775808 = _
    have h2 : BitVec.ofInt 64 (-1) = BitVec.allOnes 64 := by decide
    rw [h2, BitVec.xor_allOnes, BitVec.toNat_not]
    have := (BitVec.ofInt 64 a).isLt
    have e : (2 : Nat) ^ 64 = 18446744073709551616 := by decide
    unfold i64r at ha
    omega
  · show (((BitVec.ofInt 64 a ^^^ BitVec.ofInt 64 0).toNat : Nat) + 9223372036854775808 : Int) % 18446744073709551616 - 9223372036854775808 = _
    have h2 : BitVec.ofInt 64 0 = 0#64 := by decide
    rw [h2, BitVec.xor_zero]
    unfold i64r at ha
    omega
theorem unzig {d : Int} (h : i64r d) : bXor .i64 (IntKind.i64.wrap (iShr .u64 (zig d : Int) 1)) (IntKind.i64.wrap (0 - (IntKind.i64.wrap (bAnd .u64 (zig d : Int) 1)))) = d := by
  have hz := zig_lt h
  have h1 : iShr .u64 (zig d : Int) 1 = ((zig d / 2 : Nat) : Int) := by have := shr64 (x := (zig d : Int)) (k := 1) (by omega); simpa using this
  have h2 : bAnd .u64 (zig d : Int) 1 = ((zig d % 2 : Nat) : Int) := by
    rw [show (1 : Int) = ((1 : Nat) : Int) from rfl, and64 hz (by omega), Nat.and_one_is_mod]
  rw [h1, h2, wrap64 (n := ((zig d / 2 : Nat) : Int)) (by omega), wrap64 (n := ((zig d % 2 : Nat) : Int)) (by omega)]
  have hr : i64r ((zig d / 2 : Nat) : Int) := by unfold i64r; omega
  obtain ⟨g1, g2⟩ := xor_i64 hr
  unfold zig at *
  by_cases hd : d < 0
  · rw [if_pos hd] at *
    have : (0 - (((-2 * d - 1).toNat % 2 : Nat) : Int)) = -1 := by omega
    rw [this, show IntKind.i64.wrap (-1) = -1 from by decide, g1]; omega
  · rw [if_neg hd] at *
    have : (0 - (((2 * d).toNat % 2 : Nat) : Int)) = 0 := by omega
    rw [this, show IntKind.i64.wrap 0 = 0 from by decide, g2]; omega
theorem wrap_back {n m : Int} (h : i64r m) : IntKind.i64.wrap (n + IntKind.i64.wrap (m - n)) = m := by
  rw [wrap_i64, wrap_i64]; unfold i64r at h; omega
theorem rgt_int {v : AV} (h : Rgt v) (hk : v.fKind = 2) : v = vInt v.fInt := by
  cases h <;> first | rfl | (simp at hk)
theorem isInts_at {l : List AV} (h : isInts l = true) (hr : ∀ v ∈ l, Rgt v) : ∀ v ∈ l, v = vInt v.fInt ∧ i64r v.fInt := fun v hv => by
  have := List.all_eq_true.1 h v hv
  exact ⟨rgt_int (hr v hv) (by simpa using this), (hr v hv).ok.int⟩
theorem guess_delta {b : List Int} {many : Nat} (hb : Byt b) (hl : b.length < 140737488355328) (hm : 1 ≤ many ∧ many ≤ 64) : ∃ x, encode_reader_guess ⟨b, true⟩ 2 (many : Int) = some x ∧ Guess 2 b many x := by
  unfold encode_reader_guess
  rw [if_neg (by decide), if_neg (by decide), if_pos (by decide), rnumber_eq hb, Option.bind_some]
  unfold value_Int
  rw [Option.bind_some, app_of (by simp), Option.bind_some]
  generalize hx : (if ({ fB := b, fOk := true } : Encode_reader).fB.length < 8 then ((0 : Int), ({ fB := [], fOk := false } : Encode_reader)) else (said (({ fB := b, fOk := true } : Encode_reader).fB.take 8), ⟨({ fB := b, fOk := true } : Encode_reader).fB.drop 8, true⟩)) = x0
  have hx1 : Byt x0.2.fB ∧ x0.2.fB.length < 140737488355328 := by
    rw [← hx]; dsimp only
    split
    · exact ⟨.nil, by simp⟩
    · exact ⟨hb.drop _, by simp; omega⟩
  refine loopO_inv (I := fun s : List AV × Int × Encode_reader => Byt s.2.2.fB ∧ s.2.2.fB.length < 140737488355328 ∧ (∀ v ∈ s.1, VOK v) ∧ s.1.length ≤ many ∧ ∀ l : List AV, (∀ v ∈ l, Rgt v) → l.length = many → isInts l = true → b = deltaB (l.map (·.fInt)) → ∃ k, s.1.length = k + 1 ∧ s.1 = l.take (k + 1) ∧ s.2.1 = (l.map (·.fInt)).getD k 0 ∧ s.2.2 = ⟨((List.range (many - 1)).drop k).flatMap (dstep (l.map (·.fInt))), true⟩) (μ := fun s => many - s.1.length) (Q := Guess 2 b many) ?_ ⟨hx1.1, hx1.2, fun v hv => ?_, by simp; omega, fun l hr hlen hi he => ?_⟩
  · rintro ⟨acc, n, r⟩ ⟨h1, h2, h3, h4, h5⟩
    dsimp only at *
    have hend : acc.length = many ∨ r.fOk = false → Guess 2 b many (acc, r) := fun h => ⟨h3, by dsimp only; omega, fun l hr hlen he => by
      obtain ⟨_, _, _, hi, he⟩ := enc_some he
      have he' : b = deltaB (l.map (·.fInt)) := by
        rcases he with ⟨e, _⟩ | ⟨_, e⟩
        · subst e; simp at hlen; omega
        · exact e
      obtain ⟨k, g1, g2, g3, g4⟩ := h5 l hr hlen (hi (.inl rfl)) he'
      subst g4
      rcases h with h | h
      · rw [← g1, h, ← hlen, List.take_length] at g2; exact ⟨g2, rfl⟩
      · cases h⟩
    unfold encode_reader_guess_b3 encode_reader_guess_j4 encode_reader_guess_j1
    by_cases hlt : acc.length < many
    · rw [if_pos (decide_eq_true (by omega))]
      cases hok : r.fOk with
      | false => right; exact ⟨_, rfl, hend (.inr hok)⟩
      | true =>
        left
        rw [if_pos rfl]
        obtain ⟨⟨z, r'⟩, e1, e2, e3⟩ := short_any h1
        rw [e1, Option.bind_some]
        unfold value_Int
        rw [Option.bind_some, app_of (by simp; omega), Option.bind_some]
        dsimp only at e2 e3 ⊢
        refine ⟨_, rfl, ⟨e2, by dsimp only; omega, fun x hx => ?_, by simp; omega, fun l hr hlen hi he => ?_⟩, by simp; omega⟩
        · rcases List.mem_append.1 hx with hx | hx
          · exact h3 x hx
          · have : x = vInt (IntKind.i64.wrap (n + (bXor .i64 (IntKind.i64.wrap (iShr .u64 z 1)) (IntKind.i64.wrap (0 - (IntKind.i64.wrap (bAnd .u64 z 1))))))) := by simpa using hx
            subst this
            exact (Rgt.int _ (wrap_r _)).ok
        · obtain ⟨k, g1, g2, g3, g4⟩ := h5 l hr hlen hi he
          have hk : k + 1 < l.length := by omega
          have hin := isInts_at hi hr
          have hns : ∀ i (h : i < l.length), (l.map (·.fInt)).getD i 0 = l[i].fInt := fun i h => by rw [getD_at (by simpa using h)]; simp
          have hd : (List.range (many - 1)).drop k = k :: (List.range (many - 1)).drop (k + 1) := by
            rw [List.drop_eq_getElem_cons (by simp; omega)]; simp
          rw [hd, List.flatMap_cons] at g4
          have hds : dstep (l.map (·.fInt)) k = short (zig (IntKind.i64.wrap (l[k + 1].fInt - l[k].fInt))) := by
            unfold dstep; rw [hns _ hk, hns _ (by omega)]
          rw [hds] at g4
          rw [g4, short_one (zig_lt (wrap_r _))] at e1
          obtain ⟨rfl, rfl⟩ := Prod.mk.inj (Option.some.inj e1)
          rw [unzig (wrap_r _), g3, hns _ (by omega), wrap_back (hin _ (List.getElem_mem hk)).2]
          refine ⟨k + 1, by simp; omega, ?_, (hns _ hk).symm, rfl⟩
          dsimp only
          rw [List.take_succ_eq_append_getElem hk, g2]
          congr 2
          exact (hin _ (List.getElem_mem hk)).1.symm
    · right
      rw [if_neg (by simp; omega), if_neg (by decide)]
      exact ⟨_, rfl, hend (.inl (by omega))⟩
  · have : v = vInt (IntKind.i64.wrap x0.1) := by simpa using hv
    subst this
    exact (Rgt.int _ (wrap_r _)).ok
  · have h0 : 0 < l.length := by omega
    have hin := isInts_at hi hr
    have hns : ∀ i (h : i < l.length), (l.map (·.fInt)).getD i 0 = l[i].fInt := fun i h => by rw [getD_at (by simpa using h)]; simp
    have h64 := (hin _ (List.getElem_mem h0)).2
    have hb8 : b = be8 (l[0].fInt % 18446744073709551616) ++ (List.range (many - 1)).flatMap (dstep (l.map (·.fInt))) := by
      rw [he]; unfold deltaB; rw [hns 0 h0, List.length_map, hlen]
    have hlen8 : ¬ b.length < 8 := by rw [hb8]; simp [be8_length]
    dsimp only at hx
    rw [if_neg hlen8] at hx
    have h1 : b.take 8 = be8 (l[0].fInt % 18446744073709551616) := by rw [hb8]; exact List.take_left' (be8_length _)
    have h2 : b.drop 8 = (List.range (many - 1)).flatMap (dstep (l.map (·.fInt))) := by rw [hb8]; exact List.drop_left' (be8_length _)
    rw [h1, h2, said_be8 (by omega) (by omega)] at hx
    subst hx
    refine ⟨0, rfl, ?_, ?_, rfl⟩
    · dsimp only
      rw [List.take_succ_eq_append_getElem h0, mod_wrap h64]
      simp only [List.take_zero, List.nil_append]
      congr 1
      exact (hin _ (List.getElem_mem h0)).1.symm
    · dsimp only; rw [hns 0 h0, mod_wrap h64]
end Go.Proofs.Ytifobhaccglckaa.Hay
