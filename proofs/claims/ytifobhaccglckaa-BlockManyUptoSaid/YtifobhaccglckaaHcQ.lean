import Derived.Test.YtifobhaccglckaaHbN
namespace Go.Proofs.Ytifobhaccglckaa.Hay
theorem loopO_inv {σ β : Type} {f : σ → Option (σ ⊕ β)} (I : σ → Prop) (μ : σ → Nat) (Q : β → Prop)
    (step : ∀ s, I s → (∃ s', f s = some (.inl s') ∧ I s' ∧ μ s' < μ s) ∨ ∃ b, f s = some (.inr b) ∧ Q b) {s : σ} (h : I s) : ∃ b, loopO f s = some b ∧ Q b := by
  generalize hn : μ s = n
  induction n using Nat.strongRecOn generalizing s with
  | _ n ih =>
    rcases step s h with ⟨s', h1, h2, h3⟩ | ⟨b, h1, h2⟩
    · obtain ⟨b, h4, h5⟩ := ih (μ s') (by omega) h2 rfl
      exact ⟨b, by rw [loopO_go h1]; exact h4, h5⟩
    · exact ⟨b, loopO_end h1, h2⟩
theorem loopO_eqv {σ β : Type} {f : σ → Option (σ ⊕ β)} (I : σ → Prop) (μ : σ → Nat) {b : β}
    (step : ∀ s, I s → (∃ s', f s = some (.inl s') ∧ I s' ∧ μ s' < μ s) ∨ f s = some (.inr b)) {s : σ} (h : I s) : loopO f s = some b := by
  obtain ⟨c, h1, rfl⟩ := loopO_inv I μ (fun c => c = b) (fun s hs => (step s hs).imp id fun h => ⟨b, h, rfl⟩) h
  exact h1
theorem wrap64 {n : Int} (h : -9223372036854775808 ≤ n ∧ n ≤ 9223372036854775807) : IntKind.i64.wrap n = n := by
  have : inR .i64 n := by rw [inR_bd]; exact h
  exact this
theorem idx_of {α : Type} {xs : List α} {i : Nat} (h : i < xs.length) : idx xs (i : Int) = some xs[i] := by
  unfold idx
  rw [if_pos (by omega)]
  simp [h]
theorem app_of {α : Type} {N : Nat} {xs ys : List α} (h : xs.length + ys.length ≤ N) : app N xs ys = some (xs ++ ys) := by
  unfold app; rw [if_pos h]
theorem sub_of {α : Type} {xs : List α} {lo hi : Nat} (h : lo ≤ hi) (h' : hi ≤ xs.length) : sub xs (lo : Int) (hi : Int) = some ((xs.take hi).drop lo) := by
  unfold sub
  rw [if_pos (by omega)]
  simp
theorem wrapu64 (n : Int) : IntKind.u64.wrap n = n % 18446744073709551616 := by
  simp [IntKind.wrap, IntKind.bits, IntKind.signed]
theorem wrapu32 (n : Int) : IntKind.u32.wrap n = n % 4294967296 := by
  simp [IntKind.wrap, IntKind.bits, IntKind.signed]
theorem wrapu8 (n : Int) : IntKind.u8.wrap n = n % 256 := by
  simp [IntKind.wrap, IntKind.bits, IntKind.signed]
theorem shr64 {x : Int} {k : Nat} (hk : k ≤ 64) : iShr .u64 x (k : Int) = x / 2 ^ k := by
  unfold iShr
  rw [Int.fdiv_eq_ediv_of_nonneg _ (Int.le_of_lt (Int.pow_pos (by decide)))]
  congr 2
  simp [IntKind.bits]; omega
theorem shr8 {x : Int} {k : Nat} (hk : k ≤ 8) : iShr .u8 x (k : Int) = x / 2 ^ k := by
  unfold iShr
  rw [Int.fdiv_eq_ediv_of_nonneg _ (Int.le_of_lt (Int.pow_pos (by decide)))]
  congr 2
  simp [IntKind.bits]; omega
theorem shl64 {x : Int} {k : Nat} (hk : k ≤ 64) : iShl .u64 x (k : Int) = (x * 2 ^ k) % 18446744073709551616 := by
  unfold iShl
  rw [wrapu64]
  congr 3
  simp [IntKind.bits]; omega
theorem and64 {a b : Nat} (ha : a < 18446744073709551616) (hb : b < 18446744073709551616) : bAnd .u64 (a : Int) (b : Int) = ((a &&& b : Nat) : Int) := by
  unfold bAnd
  rw [wrapu64]
  have h1 : (BitVec.ofInt IntKind.u64.bits (a : Int)).toNat = a := by
    show (BitVec.ofInt 64 (a : Int)).toNat = a
    rw [BitVec.toNat_ofInt]; omega
  have h2 : (BitVec.ofInt IntKind.u64.bits (b : Int)).toNat = b := by
    show (BitVec.ofInt 64 (b : Int)).toNat = b
    rw [BitVec.toNat_ofInt]; omega
  rw [BitVec.toNat_and, h1, h2]
  have : a &&& b ≤ a := Nat.and_le_left
  omega
theorem or64 {a b : Nat} (ha : a < 18446744073709551616) (hb : b < 18446744073709551616) : bOr .u64 (a : Int) (b : Int) = ((a ||| b : Nat) : Int) := by
  unfold bOr
  rw [wrapu64]
  have h1 : (BitVec.ofInt IntKind.u64.bits (a : Int)).toNat = a := by
    show (BitVec.ofInt 64 (a : Int)).toNat = a
    rw [BitVec.toNat_ofInt]; omega
  have h2 : (BitVec.ofInt IntKind.u64.bits (b : Int)).toNat = b := by
    show (BitVec.ofInt 64 (b : Int)).toNat = b
    rw [BitVec.toNat_ofInt]; omega
  rw [BitVec.toNat_or, h1, h2]
  have : a ||| b < 2 ^ 64 := Nat.or_lt_two_pow (by simpa using ha) (by simpa using hb)
  have e : (2 : Nat) ^ 64 = 18446744073709551616 := by decide
  omega
end Go.Proofs.Ytifobhaccglckaa.Hay
