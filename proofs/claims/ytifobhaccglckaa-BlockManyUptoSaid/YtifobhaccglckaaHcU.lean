import Derived.Test.YtifobhaccglckaaHcT
namespace Go.Proofs.Ytifobhaccglckaa.Hay
def bnum (f : Nat → Bool) : Nat → Nat
  | 0 => 0
  | n + 1 => 2 ^ n * (f n).toNat + bnum f n
theorem bnum_lt (f : Nat → Bool) : ∀ n, bnum f n < 2 ^ n
  | 0 => by simp [bnum]
  | n + 1 => by
    have := bnum_lt f n
    simp only [bnum]
    cases f n <;> simp [Nat.pow_succ] <;> omega
theorem bnum_bit (f : Nat → Bool) : ∀ n k, (bnum f n).testBit k = (decide (k < n) && f k)
  | 0, k => by simp [bnum]
  | n + 1, k => by
    simp only [bnum]
    rw [Nat.testBit_two_pow_mul_add _ (bnum_lt f n), bnum_bit f n k]
    by_cases h : k < n
    · rw [if_pos h]; simp [h]; intro _; omega
    · rw [if_neg h]
      by_cases h' : k = n
      · subst h'; simp; cases f k <;> rfl
      · have : ¬ k < n + 1 := by omega
        simp [this]
        have : k - n ≠ 0 := by omega
        cases f n
        · simp
        · simp only [Bool.toNat_true]
          obtain ⟨j, hj⟩ : ∃ j, k - n = j + 1 := ⟨k - n - 1, by omega⟩
          rw [hj, Nat.testBit_succ]; simp
theorem bnum_congr {f g : Nat → Bool} {n : Nat} (h : ∀ k, k < n → f k = g k) : bnum f n = bnum g n := by
  apply Nat.eq_of_testBit_eq
  intro k
  rw [bnum_bit, bnum_bit]
  by_cases hk : k < n
  · rw [h k hk]
  · simp [hk]
theorem bnum_self {x n : Nat} (h : x < 2 ^ n) : bnum (fun k => x.testBit k) n = x := by
  apply Nat.eq_of_testBit_eq
  intro k
  rw [bnum_bit]
  by_cases hk : k < n
  · simp [hk]
  · have := Nat.testBit_lt_two_pow (Nat.lt_of_lt_of_le h (Nat.pow_le_pow_right (by decide) (Nat.le_of_not_lt hk)))
    simp [this]
def bitOf (l : List Int) (w p : Nat) : Bool := decide (p < l.length * w) && (l.getD (p / w) 0).toNat.testBit (p % w)
def packB (l : List Int) (w q : Nat) : List Int := (List.range ((l.length * w + 7) / 8)).map fun j => ((bnum (fun k => decide (8 * j + k < q) && bitOf l w (8 * j + k)) 8 : Nat) : Int)
def packed (l : List Int) (w : Nat) : List Int := packB l w (l.length * w)
theorem packB_len (l : List Int) (w q : Nat) : (packB l w q).length = (l.length * w + 7) / 8 := by simp [packB]
theorem packB_get (l : List Int) (w q j : Nat) (h : j < (packB l w q).length) : (packB l w q)[j] = ((bnum (fun k => decide (8 * j + k < q) && bitOf l w (8 * j + k)) 8 : Nat) : Int) := by simp [packB]
theorem packed_byt (l : List Int) (w : Nat) : Byt (packed l w) := fun c hc => by
  simp only [packed, packB, List.mem_map] at hc
  obtain ⟨j, _, rfl⟩ := hc
  have := bnum_lt (fun k => decide (8 * j + k < l.length * w) && bitOf l w (8 * j + k)) 8
  omega
theorem packB_set (l : List Int) (w q : Nat) (hq : q < l.length * w) (hb : bitOf l w q = true) :
    ∃ x : Nat, x < 256 ∧ (packB l w q)[q / 8]? = some (x : Int) ∧ (packB l w q).set (q / 8) (((x ||| 2 ^ (q % 8) : Nat)) : Int) = packB l w (q + 1) := by
  have hlt : q / 8 < (packB l w q).length := by rw [packB_len]; omega
  refine ⟨_, bnum_lt _ 8, by rw [List.getElem?_eq_getElem hlt, packB_get], ?_⟩
  apply List.ext_getElem
  · simp [packB_len]
  intro j h1 h2
  rw [List.getElem_set, packB_get]
  split
  · rename_i e
    subst e
    rw [packB_get]
    congr 1
    apply Nat.eq_of_testBit_eq
    intro k
    rw [Nat.testBit_or, bnum_bit, bnum_bit, Nat.testBit_two_pow]
    by_cases hk : k < 8
    · by_cases e : q % 8 = k
      · have : 8 * (q / 8) + k = q := by omega
        simp [hk, e, this, hb]
      · have h3 : (8 * (q / 8) + k < q + 1) = (8 * (q / 8) + k < q) := by apply propext; omega
        simp [e, h3]
    · have : q % 8 ≠ k := by omega
      simp [hk, this]
  · rename_i e
    rw [packB_get]
    congr 1
    apply bnum_congr
    intro k hk
    have h3 : (8 * j + k < q + 1) = (8 * j + k < q) := by apply propext; omega
    simp [h3]
theorem packB_skip (l : List Int) (w q : Nat) (hb : bitOf l w q = false) : packB l w q = packB l w (q + 1) := by
  unfold packB
  apply List.map_congr_left
  intro j _
  congr 1
  apply bnum_congr
  intro k hk
  by_cases e : 8 * j + k = q
  · rw [e, hb]; simp
  · have h3 : (8 * j + k < q + 1) = (8 * j + k < q) := by apply propext; omega
    simp [h3]
theorem packB_zero (l : List Int) (w : Nat) : packB l w 0 = List.replicate ((l.length * w + 7) / 8) 0 := by
  apply List.ext_getElem
  · simp [packB_len]
  intro j h1 h2
  rw [packB_get]
  have : bnum (fun k => decide (8 * j + k < 0) && bitOf l w (8 * j + k)) 8 = bnum (fun _ => false) 8 := bnum_congr fun k _ => by simp
  rw [this]
  simp [bnum]
def byteBit (b : List Int) (p : Nat) : Bool := (b.getD (p / 8) 0).toNat.testBit (p % 8)
def unp (b : List Int) (w i : Nat) : Nat := bnum (fun k => byteBit b (i * w + k)) w
theorem byteBit_packed (l : List Int) (w p : Nat) (r : List Int) (hp : p < l.length * w) : byteBit (packed l w ++ r) p = bitOf l w p := by
  have hlt : p / 8 < (packed l w).length := by unfold packed; rw [packB_len]; omega
  unfold byteBit
  rw [List.getD_eq_getElem?_getD, List.getElem?_append_left hlt, List.getElem?_eq_getElem hlt]
  simp only [Option.getD_some]
  have e : (packed l w)[p / 8] = _ := packB_get l w (l.length * w) (p / 8) hlt
  rw [e]
  simp only [Int.toNat_natCast]
  rw [bnum_bit]
  have h1 : 8 * (p / 8) + p % 8 = p := by omega
  have h2 : p % 8 < 8 := by omega
  simp [h1, h2, hp]
theorem bitOf_at (l : List Int) (w i k : Nat) (hi : i < l.length) (hk : k < w) : i * w + k < l.length * w ∧ bitOf l w (i * w + k) = (l[i]).toNat.testBit k := by
  have h0 : i * w + k < l.length * w := by
    have : (i + 1) * w ≤ l.length * w := Nat.mul_le_mul_right _ hi
    rw [Nat.add_mul] at this; omega
  refine ⟨h0, ?_⟩
  unfold bitOf
  have h1 : (i * w + k) / w = i := by
    rw [Nat.mul_comm, Nat.mul_add_div (by omega), Nat.div_eq_of_lt hk]; rfl
  have h2 : (i * w + k) % w = k := by
    rw [Nat.mul_comm, Nat.mul_add_mod, Nat.mod_eq_of_lt hk]
  rw [h1, h2, List.getD_eq_getElem?_getD, List.getElem?_eq_getElem hi]
  simp [h0]
theorem unp_packed (l : List Int) (w i : Nat) (r : List Int) (hi : i < l.length) (hb : 0 ≤ l[i] ∧ l[i] < 2 ^ w) : (unp (packed l w ++ r) w i : Int) = l[i] := by
  have h1 : unp (packed l w ++ r) w i = bnum (fun k => (l[i]).toNat.testBit k) w := bnum_congr fun k hk => by
    obtain ⟨h2, h3⟩ := bitOf_at l w i k hi hk
    rw [byteBit_packed _ _ _ _ h2, h3]
  rw [h1, bnum_self]
  · omega
  · have : ((l[i].toNat : Nat) : Int) < ((2 ^ w : Nat) : Int) := by rw [Int.natCast_pow]; have : ((l[i].toNat : Nat) : Int) = l[i] := by omega
                                                                    rw [this]; exact hb.2
    exact Int.ofNat_lt.1 this
theorem chk_nat (n : Nat) : chk (decide (0 ≤ (n : Int))) = some () := chk_true (decide_eq_true (Int.natCast_nonneg n))
theorem or8 {a b : Nat} (ha : a < 256) (hb : b < 256) : bOr .u8 (a : Int) (b : Int) = ((a ||| b : Nat) : Int) := by
  unfold bOr
  rw [wrapu8]
  have h1 : (BitVec.ofInt IntKind.u8.bits (a : Int)).toNat = a := by
    show (BitVec.ofInt 8 (a : Int)).toNat = a
    rw [BitVec.toNat_ofInt]; omega
  have h2 : (BitVec.ofInt IntKind.u8.bits (b : Int)).toNat = b := by
    show (BitVec.ofInt 8 (b : Int)).toNat = b
    rw [BitVec.toNat_ofInt]; omega
  rw [BitVec.toNat_or, h1, h2]
  have : a ||| b < 2 ^ 8 := Nat.or_lt_two_pow (by simpa using ha) (by simpa using hb)
  omega
theorem and8 {a b : Nat} (ha : a < 256) (hb : b < 256) : bAnd .u8 (a : Int) (b : Int) = ((a &&& b : Nat) : Int) := by
  unfold bAnd
  rw [wrapu8]
  have h1 : (BitVec.ofInt IntKind.u8.bits (a : Int)).toNat = a := by
    show (BitVec.ofInt 8 (a : Int)).toNat = a
    rw [BitVec.toNat_ofInt]; omega
  have h2 : (BitVec.ofInt IntKind.u8.bits (b : Int)).toNat = b := by
    show (BitVec.ofInt 8 (b : Int)).toNat = b
    rw [BitVec.toNat_ofInt]; omega
  rw [BitVec.toNat_and, h1, h2]
  have : a &&& b ≤ a := Nat.and_le_left
  omega
theorem and_one (x : Nat) (k : Nat) : x / 2 ^ k &&& 1 = (x.testBit k).toNat := by
  rw [Nat.and_one_is_mod, Nat.testBit_eq_decide_div_mod_eq]
  have : x / 2 ^ k % 2 = 0 ∨ x / 2 ^ k % 2 = 1 := by omega
  rcases this with h | h <;> simp [h]
theorem bitNum {x : Int} {k : Nat} (h : 0 ≤ x ∧ x < 18446744073709551616) (hk : k ≤ 64) : bAnd .u64 (iShr .u64 x (k : Int)) 1 = (x.toNat.testBit k).toNat := by
  obtain ⟨n, rfl⟩ := Int.eq_ofNat_of_zero_le h.1
  rw [shr64 hk]
  have h1 : ((n : Int) / 2 ^ k) = ((n / 2 ^ k : Nat) : Int) := by simp [Int.natCast_pow]
  have h2 : n / 2 ^ k ≤ n := Nat.div_le_self _ _
  rw [h1, show (1 : Int) = ((1 : Nat) : Int) from rfl, and64 (by omega) (by omega), and_one]
  simp
theorem bitByte {x : Int} {k : Nat} (h : 0 ≤ x ∧ x < 256) (hk : k ≤ 8) : bAnd .u8 (iShr .u8 x (k : Int)) 1 = (x.toNat.testBit k).toNat := by
  obtain ⟨n, rfl⟩ := Int.eq_ofNat_of_zero_le h.1
  rw [shr8 hk]
  have h1 : ((n : Int) / 2 ^ k) = ((n / 2 ^ k : Nat) : Int) := by simp [Int.natCast_pow]
  have h2 : n / 2 ^ k ≤ n := Nat.div_le_self _ _
  rw [h1, show (1 : Int) = ((1 : Nat) : Int) from rfl, and8 (by omega) (by omega), and_one]
  simp
theorem at64 {i w k : Nat} (hi : i < 1048576) (hw : w ≤ 64) (hk : k ≤ 64) : IntKind.i64.wrap ((IntKind.i64.wrap ((i : Int) * (w : Int))) + (k : Int)) = ((i * w + k : Nat) : Int) := by
  have : i * w ≤ 1048576 * 64 := Nat.mul_le_mul (by omega) hw
  have e : (i : Int) * (w : Int) = ((i * w : Nat) : Int) := by simp
  rw [e, wrap64 (n := ((i * w : Nat) : Int)) (by omega), wrap64 (by omega)]; omega
theorem tdiv8 (n : Nat) : ((n : Int)).tdiv 8 = ((n / 8 : Nat) : Int) := by
  rw [Int.tdiv_eq_ediv_of_nonneg (by omega)]; rfl
theorem tmod8 (n : Nat) : ((n : Int)).tmod 8 = ((n % 8 : Nat) : Int) := by
  rw [Int.tmod_eq_emod_of_nonneg (by omega)]; rfl
theorem ceil8 {i w : Nat} (hi : i < 1048576) (hw : w ≤ 64) : IntKind.i64.wrap ((IntKind.i64.wrap ((IntKind.i64.wrap ((i : Int) * (w : Int))) + 7)).tdiv 8) = (((i * w + 7) / 8 : Nat) : Int) := by
  have : i * w ≤ 1048576 * 64 := Nat.mul_le_mul (by omega) hw
  have e := at64 (i := i) (w := w) (k := 7) hi hw (by omega)
  rw [show ((7 : Nat) : Int) = 7 from rfl] at e
  rw [e, tdiv8, wrap64 (by omega)]
def U64 (l : List Int) : Prop := ∀ x ∈ l, 0 ≤ x ∧ x < 18446744073709551616
theorem mk_of {α : Type} {N n : Nat} {z : α} (h : n ≤ N) : mk N (n : Int) z = some (List.replicate n z) := by
  unfold mk; rw [if_pos (by omega)]; simp
theorem ix_of {α : Type} {xs : List α} {i : Nat} (h : i < xs.length) : ix xs (i : Int) = some i := by
  unfold ix; rw [if_pos (by omega)]; simp
theorem packed_eq {l : List Int} {w : Nat} (hu : U64 l) (hl : l.length < 1048576) (hw : w ≤ 64) : encode_packed l (w : Int) = some (packed l w) := by
  have hlw : l.length * w ≤ 1048576 * 64 := Nat.mul_le_mul (by omega) hw
  unfold encode_packed
  rw [ceil8 hl hw, mk_of (by omega), Option.bind_some]
  refine loop_seq (fun i => ((i : Int), packB l w (i * w))) l.length (by simp [packB_zero]) (fun i hi => ?_) ?_
  · dsimp only
    unfold encode_packed_b1
    rw [if_pos (by simpa using hi), idx_of hi, Option.bind_some]
    have hx := hu l[i] (List.getElem_mem hi)
    refine loop_seq (fun k => ((k : Int), packB l w (i * w + k))) w rfl (fun k hk => ?_) ?_
    · dsimp only
      unfold encode_packed_b2 encode_packed_j3
      obtain ⟨h1, h2⟩ := bitOf_at l w i k hi hk
      rw [if_pos (by simpa using hk), chk_true (by simp), Option.bind_some, bitNum hx (by omega), at64 (by omega) hw (by omega), tdiv8, tmod8, wrap64 (by omega), succ64 (by omega)]
      cases hb : l[i].toNat.testBit k with
      | false =>
        rw [hb] at h2
        rw [if_neg (by decide), packB_skip l w _ h2]; rfl
      | true =>
        rw [hb] at h2
        obtain ⟨x, hx1, hx2, hx3⟩ := packB_set l w _ h1 h2
        have hlt : (i * w + k) / 8 < (packB l w (i * w + k)).length := by rw [packB_len]; omega
        rw [if_pos (by decide), ix_of hlt, Option.bind_some, hx2, Option.bind_some, chk_nat, Option.bind_some, Option.bind_some, hx2, Option.bind_some]
        have h8 : iShl .u8 1 (((i * w + k) % 8 : Nat) : Int) = ((2 ^ ((i * w + k) % 8) : Nat) : Int) := by
          unfold iShl
          rw [wrapu8]
          have hm : min (((i * w + k) % 8 : Nat) : Int).toNat IntKind.u8.bits = (i * w + k) % 8 := by simp [IntKind.bits]; omega
          rw [hm]
          have : (2 : Nat) ^ ((i * w + k) % 8) ≤ 2 ^ 7 := Nat.pow_le_pow_right (by decide) (by omega)
          rw [Int.natCast_pow]
          have e : ((2 : Int) ^ ((i * w + k) % 8)) = (((2 : Nat) ^ ((i * w + k) % 8) : Nat) : Int) := by simp [Int.natCast_pow]
          rw [show ((2 : Nat) : Int) = 2 from rfl, e]
          generalize (2 : Nat) ^ ((i * w + k) % 8) = m at *
          omega
        have : (2 : Nat) ^ ((i * w + k) % 8) ≤ 2 ^ 7 := Nat.pow_le_pow_right (by decide) (by omega)
        rw [h8, or8 hx1 (by omega), hx3]; rfl
    · dsimp only
      unfold encode_packed_b2 encode_packed_j2
      rw [if_neg (by simp), succ64 (by omega)]
      simp [Nat.add_mul]
  · unfold encode_packed_b1 encode_packed_j1
    rw [if_neg (by simp)]; rfl
end Go.Proofs.Ytifobhaccglckaa.Hay
