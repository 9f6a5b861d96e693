import Derived.Test.YtifobhaccglckaaHcU
namespace Go.Proofs.Ytifobhaccglckaa.Hay
theorem take_eq {r : Encode_reader} {n : Nat} (hn : n ≤ 281474976710656) : encode_reader_take r (n : Int) = some (if r.fB.length < n then (List.replicate n 0, ⟨[], false⟩) else (r.fB.take n, ⟨r.fB.drop n, r.fOk⟩)) := by
  unfold encode_reader_take
  by_cases h : r.fB.length < n
  · rw [if_pos (by simpa using h), if_pos h, mk_of hn]; rfl
  · rw [if_neg (by simpa using h), if_neg h, mk_of hn, Option.bind_some, sub_of (by omega) (Nat.le_refl _)]
    simp only [Option.bind_some, List.take_length]
    unfold cpy
    simp
    omega
theorem bnum_or (f : Nat → Bool) (k : Nat) : bnum f k ||| 2 ^ k * (f k).toNat = bnum f (k + 1) := by
  rw [Nat.or_comm, ← Nat.two_pow_add_eq_or_of_lt (bnum_lt f k)]; rfl
theorem shlBit {b : Bool} {k : Nat} (hk : k < 64) : iShl .u64 ((b.toNat : Nat) : Int) (k : Int) = ((2 ^ k * b.toNat : Nat) : Int) := by
  rw [shl64 (by omega)]
  have h1 : (2 : Nat) ^ k < 2 ^ 64 := Nat.pow_lt_pow_right (by decide) hk
  have e : ((2 : Int) ^ k) = (((2 : Nat) ^ k : Nat) : Int) := by simp [Int.natCast_pow]
  rw [e]
  cases b
  · simp
  · simp only [Bool.toNat_true, Nat.mul_one]
    have : (2 : Nat) ^ 64 = 18446744073709551616 := by decide
    generalize (2 : Nat) ^ k = m at *
    omega
def unpR (r : Encode_reader) (many w : Nat) : List Int × Encode_reader :=
  if 64 < w then (List.replicate many 0, ⟨r.fB, false⟩) else
  if r.fB.length < (many * w + 7) / 8 then (List.replicate many 0, ⟨[], false⟩) else
  ((List.range many).map fun i => ((unp r.fB w i : Nat) : Int), ⟨r.fB.drop ((many * w + 7) / 8), r.fOk⟩)
theorem getD_take {l : List Int} {n i : Nat} (h : i < n) : (l.take n).getD i 0 = l.getD i 0 := by
  rw [List.getD_eq_getElem?_getD, List.getD_eq_getElem?_getD, List.getElem?_take, if_pos h]
theorem unp_take (b : List Int) (w i n : Nat) (h : (i + 1) * w ≤ 8 * n) : unp (b.take n) w i = unp b w i := bnum_congr fun k hk => by
  rw [Nat.add_mul] at h
  unfold byteBit
  rw [getD_take (by omega)]
theorem unp_zero (n w i : Nat) : unp (List.replicate n 0) w i = 0 := by
  have : unp (List.replicate n 0) w i = bnum (fun _ => false) w := bnum_congr fun k hk => by
    unfold byteBit
    rw [List.getD_eq_getElem?_getD, List.getElem?_replicate]
    split <;> simp
  rw [this]
  have : ∀ w, bnum (fun _ => false) w = 0 := by intro w; induction w with | zero => rfl | succ w ih => simp [bnum, ih]
  exact this w
theorem unpacked_eq {r : Encode_reader} {many w : Nat} (hb : Byt r.fB) (hm : many < 1048576) : encode_reader_unpacked r (many : Int) (w : Int) = some (unpR r many w) := by
  unfold encode_reader_unpacked unpR
  by_cases hw : 64 < w
  · rw [if_pos (by simpa using by omega), if_pos hw, mk_of (by omega)]; rfl
  rw [if_neg (by simpa using by omega), if_neg hw]
  have hw' : w ≤ 64 := by omega
  have hlw : many * w ≤ 1048576 * 64 := Nat.mul_le_mul (by omega) hw'
  rw [ceil8 hm hw', take_eq (by omega), Option.bind_some, mk_of (by omega), Option.bind_some]
  have key : ∀ (b : List Int) (r' : Encode_reader), Byt b → b.length = (many * w + 7) / 8 →
      loopO (fun s : (Int × (List Int)) => encode_reader_unpacked_b1 (w : Int) (b, r') (List.replicate many 0) s.1 s.2) (0, List.replicate many 0) = some ((List.range many).map fun i => ((unp b w i : Nat) : Int), r') := by
    intro b r' hb hl
    refine loop_seq (fun i => ((i : Int), (List.range i).map (fun i => ((unp b w i : Nat) : Int)) ++ List.replicate (many - i) 0)) many (by simp) (fun i hi => ?_) ?_
    · dsimp only
      unfold encode_reader_unpacked_b1
      rw [if_pos (by simpa using hi)]
      have hi1 : (i + 1) * w ≤ many * w := Nat.mul_le_mul_right _ hi
      rw [Nat.add_mul] at hi1
      have h64 : ∀ k, k ≤ 64 → bnum (fun k => byteBit b (i * w + k)) k < 18446744073709551616 := fun k hk => by
        have := bnum_lt (fun k => byteBit b (i * w + k)) k
        have h2 : (2 : Nat) ^ k ≤ 2 ^ 64 := Nat.pow_le_pow_right (by decide) hk
        have : (2 : Nat) ^ 64 = 18446744073709551616 := by decide
        omega
      refine loop_seq (fun k => ((k : Int), (List.range i).map (fun i => ((unp b w i : Nat) : Int)) ++ ((bnum (fun k => byteBit b (i * w + k)) k : Nat) : Int) :: List.replicate (many - i - 1) 0)) w ?_ (fun k hk => ?_) ?_
      · have : many - i = (many - i - 1) + 1 := by omega
        rw [this, List.replicate_succ]; simp [bnum]
      · dsimp only
        unfold encode_reader_unpacked_b2
        have hat : (i * w + k) / 8 < b.length := by omega
        have hlen : i < ((List.range i).map (fun i => ((unp b w i : Nat) : Int)) ++ ((bnum (fun k => byteBit b (i * w + k)) k : Nat) : Int) :: List.replicate (many - i - 1) 0).length := by simp
        have hget : ((List.range i).map (fun i => ((unp b w i : Nat) : Int)) ++ ((bnum (fun k => byteBit b (i * w + k)) k : Nat) : Int) :: List.replicate (many - i - 1) 0)[i]? = some ((bnum (fun k => byteBit b (i * w + k)) k : Nat) : Int) := by simp
        rw [if_pos (by simpa using hk), ix_of hlen, Option.bind_some, hget, Option.bind_some, at64 (by omega) hw' (by omega), tdiv8, tmod8, wrap64 (by omega), idx_of hat, Option.bind_some, chk_nat, Option.bind_some, chk_nat, Option.bind_some, Option.bind_some, hget, Option.bind_some, succ64 (by omega)]
        have hbb := hb b[(i * w + k) / 8] (List.getElem_mem hat)
        rw [bitByte hbb (by omega)]
        have e : b[(i * w + k) / 8].toNat.testBit ((i * w + k) % 8) = byteBit b (i * w + k) := by
          unfold byteBit; rw [List.getD_eq_getElem?_getD, List.getElem?_eq_getElem hat]; rfl
        rw [e, wrapu64]
        have e2 : (((byteBit b (i * w + k)).toNat : Nat) : Int) % 18446744073709551616 = (((byteBit b (i * w + k)).toNat : Nat) : Int) := by cases byteBit b (i * w + k) <;> rfl
        have h3 : 2 ^ k * (byteBit b (i * w + k)).toNat < 18446744073709551616 := by
          have h1 : (2 : Nat) ^ k < 2 ^ 64 := Nat.pow_lt_pow_right (by decide) (by omega)
          have : (2 : Nat) ^ 64 = 18446744073709551616 := by decide
          cases byteBit b (i * w + k) <;> simp <;> omega
        rw [e2, shlBit (by omega), or64 (h64 k (by omega)) h3, bnum_or (fun k => byteBit b (i * w + k)) k]
        congr 3
        rw [List.set_append_right _ _ (by simp)]
        simp
      · dsimp only
        unfold encode_reader_unpacked_b2 encode_reader_unpacked_j2
        rw [if_neg (by simp), succ64 (by omega)]
        have : many - i - 1 = many - (i + 1) := by omega
        rw [this]
        simp [List.range_succ, unp]
    · dsimp only
      unfold encode_reader_unpacked_b1 encode_reader_unpacked_j1
      rw [if_neg (by simp)]; simp
  by_cases hl : r.fB.length < (many * w + 7) / 8
  · rw [if_pos hl, if_pos hl, key _ _ (fun c hc => by rw [List.eq_of_mem_replicate hc]; decide) (by simp)]
    congr 2
    apply List.ext_getElem
    · simp
    · intro j h1 h2; simp [unp_zero]
  · rw [if_neg hl, if_neg hl, key _ _ (hb.take _) (by simp; omega)]
    congr 2
    apply List.ext_getElem
    · simp
    · intro j h1 h2
      simp only [List.getElem_map, List.getElem_range]
      rw [unp_take]
      simp at h1
      have : (j + 1) * w ≤ many * w := Nat.mul_le_mul_right _ h1
      omega
def wid (n : Nat) : Nat := if n = 0 then 0 else n.log2 + 1
theorem wid_lt (n : Nat) : n < 2 ^ wid n := by
  unfold wid
  split
  · omega
  · exact Nat.lt_log2_self
theorem wid_half {n : Nat} (h : n ≠ 0) : wid n = wid (n / 2) + 1 := by
  unfold wid
  rw [if_neg h]
  by_cases h1 : n / 2 = 0
  · have : n = 1 := by omega
    subst this; rfl
  · rw [if_neg h1, Nat.log2_def, if_pos (by omega)]
theorem wid_shift {n k : Nat} (h : 2 ^ k ≤ n) : wid n = wid (n / 2 ^ k) + k := by
  induction k generalizing n with
  | zero => simp
  | succ k ih =>
    rw [Nat.pow_succ] at h
    have : 0 < 2 ^ k := Nat.pow_pos (by decide)
    rw [wid_half (n := n) (by omega), ih (n := n / 2) (by omega), Nat.pow_succ, Nat.mul_comm (2 ^ k) 2, ← Nat.div_div_eq_div_mul]
    omega
theorem wid_le {n w : Nat} (h : n < 2 ^ w) : wid n ≤ w := by
  unfold wid
  split
  · omega
  · rename_i h0
    have := Nat.log2_lt h0 |>.2 h
    omega
def tab8 : List Int := [0, 1, 2, 2, 3, 3, 3, 3, 4, 4, 4, 4, 4, 4, 4, 4, 5, 5, 5, 5, 5, 5, 5, 5, 5, 5, 5, 5, 5, 5, 5, 5, 6, 6, 6, 6, 6, 6, 6, 6, 6, 6, 6, 6, 6, 6, 6, 6, 6, 6, 6, 6, 6, 6, 6, 6, 6, 6, 6, 6, 6, 6, 6, 6, 7, 7, 7, 7, 7, 7, 7, 7, 7, 7, 7, 7, 7, 7, 7, 7, 7, 7, 7, 7, 7, 7, 7, 7, 7, 7, 7, 7, 7, 7, 7, 7, 7, 7, 7, 7, 7, 7, 7, 7, 7, 7, 7, 7, 7, 7, 7, 7, 7, 7, 7, 7, 7, 7, 7, 7, 7, 7, 7, 7, 7, 7, 7, 7, 8, 8, 8, 8, 8, 8, 8, 8, 8, 8, 8, 8, 8, 8, 8, 8, 8, 8, 8, 8, 8, 8, 8, 8, 8, 8, 8, 8, 8, 8, 8, 8, 8, 8, 8, 8, 8, 8, 8, 8, 8, 8, 8, 8, 8, 8, 8, 8, 8, 8, 8, 8, 8, 8, 8, 8, 8, 8, 8, 8, 8, 8, 8, 8, 8, 8, 8, 8, 8, 8, 8, 8, 8, 8, 8, 8, 8, 8, 8, 8, 8, 8, 8, 8, 8, 8, 8, 8, 8, 8, 8, 8, 8, 8, 8, 8, 8, 8, 8, 8, 8, 8, 8, 8, 8, 8, 8, 8, 8, 8, 8, 8, 8, 8, 8, 8, 8, 8, 8, 8, 8, 8, 8, 8, 8, 8, 8, 8]
theorem wid_tab : ∀ n : _root_.Fin 256, idx tab8 ((n.val : Nat) : Int) = some ((wid n.val : Nat) : Int) := by decide +kernel
set_option maxRecDepth 100000 in
theorem len64_j3_tab (x y : Int) : bits_Len64_j3 x y = (idx tab8 (IntKind.u8.wrap x)).bind fun r => some (IntKind.i64.wrap (y + IntKind.i64.wrap r)) := rfl
theorem len64_j3 {n k : Nat} (h : n < 256) (hk : k ≤ 56) : bits_Len64_j3 (n : Int) (k : Int) = some ((wid n + k : Nat) : Int) := by
  have h1 : idx tab8 (n : Int) = some ((wid n : Nat) : Int) := wid_tab ⟨n, h⟩
  have hw : wid n ≤ 8 := wid_le (by simpa using h)
  rw [len64_j3_tab, wrapu8, show ((n : Int) % 256) = (n : Int) by omega, h1, Option.bind_some, wrap64 (n := ((wid n : Nat) : Int)) (by omega), wrap64 (by omega)]
  congr 1; omega
theorem len64_j2 {n k : Nat} (h : n < 65536) (hk : k ≤ 48) : bits_Len64_j2 (n : Int) (k : Int) = some ((wid n + k : Nat) : Int) := by
  unfold bits_Len64_j2
  by_cases h1 : 256 ≤ n
  · rw [if_pos (by simpa using by omega)]
    have e : iShr .u64 (n : Int) 8 = ((n / 2 ^ 8 : Nat) : Int) := by have := shr64 (x := (n : Int)) (k := 8) (by omega); simpa using this
    have e2 : IntKind.i64.wrap ((k : Int) + 8) = ((k + 8 : Nat) : Int) := by rw [wrap64 (by omega)]; rfl
    rw [e, e2, len64_j3 (by omega) (by omega), wid_shift (n := n) (k := 8) (by omega)]
    congr 2; omega
  · rw [if_neg (by simpa using by omega), len64_j3 (by omega) (by omega)]
theorem len64_j1 {n k : Nat} (h : n < 4294967296) (hk : k ≤ 32) : bits_Len64_j1 (n : Int) (k : Int) = some ((wid n + k : Nat) : Int) := by
  unfold bits_Len64_j1
  by_cases h1 : 65536 ≤ n
  · rw [if_pos (by simpa using by omega)]
    have e : iShr .u64 (n : Int) 16 = ((n / 2 ^ 16 : Nat) : Int) := by have := shr64 (x := (n : Int)) (k := 16) (by omega); simpa using this
    have e2 : IntKind.i64.wrap ((k : Int) + 16) = ((k + 16 : Nat) : Int) := by rw [wrap64 (by omega)]; rfl
    rw [e, e2, len64_j2 (by omega) (by omega), wid_shift (n := n) (k := 16) (by omega)]
    congr 2; omega
  · rw [if_neg (by simpa using by omega), len64_j2 (by omega) (by omega)]
theorem len64_eq {n : Nat} (h : n < 18446744073709551616) : bits_Len64 (n : Int) = some ((wid n : Nat) : Int) := by
  unfold bits_Len64
  by_cases h1 : 4294967296 ≤ n
  · rw [if_pos (by simpa using by omega)]
    have e : iShr .u64 (n : Int) 32 = ((n / 2 ^ 32 : Nat) : Int) := by have := shr64 (x := (n : Int)) (k := 32) (by omega); simpa using this
    rw [e, show (32 : Int) = ((32 : Nat) : Int) from rfl, len64_j1 (by omega) (by omega), wid_shift (n := n) (k := 32) (by omega)]
  · rw [if_neg (by simpa using by omega), show (0 : Int) = ((0 : Nat) : Int) from rfl, len64_j1 (by omega) (by omega)]
    rfl
theorem len_eq {n : Nat} (h : n < 18446744073709551616) : bits_Len (n : Int) = some ((wid n : Nat) : Int) := by
  unfold bits_Len; rw [len64_eq h]; rfl
end Go.Proofs.Ytifobhaccglckaa.Hay
