import Derived.Test.YtifobhaccglckaaHcZd
namespace Go.Proofs.Ytifobhaccglckaa.Hay
def U32 (x : Int) : Prop := 0 ≤ x ∧ x < 4294967296
theorem u32_wrap (x : Int) : U32 (IntKind.u32.wrap x) := by rw [wrapu32]; unfold U32; omega
theorem u32_xor (x y : Int) : U32 (bXor .u32 x y) := u32_wrap _
theorem and15 (x : Int) : ∃ n : Nat, bAnd .u32 x 15 = (n : Int) ∧ n < 16 := by
  unfold bAnd
  rw [wrapu32, BitVec.toNat_and]
  have h2 : (BitVec.ofInt IntKind.u32.bits 15).toNat = 15 := by decide
  rw [h2]
  have : (BitVec.ofInt IntKind.u32.bits x).toNat &&& 15 ≤ 15 := Nat.and_le_right
  exact ⟨_, by rw [Int.emod_eq_of_lt (by omega) (by omega)], by omega⟩
theorem at16 {t : List Int} (h : t.length = 16) (ht : ∀ x ∈ t, U32 x) (x : Int) : ∃ (j : Nat) (y : Int), ix t (bAnd .u32 x 15) = some j ∧ t[j]? = some y ∧ U32 y := by
  obtain ⟨n, h1, h2⟩ := and15 x
  have hn : n < t.length := by omega
  exact ⟨n, t[n], by rw [h1]; exact ix_of hn, List.getElem?_eq_getElem hn, ht _ (List.getElem_mem hn)⟩
theorem Sum_j1_ok {b t : List Int} (hl : b.length < 4611686018427387904) (h : t.length = 16) (ht : ∀ x ∈ t, U32 x) : ∃ n, codec_Sum_j1 b t = some n ∧ U32 n := by
  unfold codec_Sum_j1
  refine loopO_inv (fun s => U32 s.1 ∧ ∃ i : Nat, s.2 = (i : Int) ∧ i ≤ b.length) (fun s => ((b.length : Int) - s.2).toNat) U32 ?_ ⟨⟨by decide, by decide⟩, 0, rfl, by omega⟩
  rintro ⟨x, i'⟩ ⟨hx, i, hi, hi'⟩
  dsimp only at hi
  subst hi
  dsimp only
  unfold codec_Sum_b1
  by_cases hlt : i < b.length
  · left
    rw [if_pos (by simpa using hlt), idx_of hlt, Option.bind_some]
    obtain ⟨j, y, h1, h2, h3⟩ := at16 h ht (bXor .u32 x (IntKind.u32.wrap b[i]))
    rw [h1, Option.bind_some, h2, Option.bind_some]
    obtain ⟨j', z, k1, k2, k3⟩ := at16 h ht (bXor .u32 y (iShr .u32 (bXor .u32 x (IntKind.u32.wrap b[i])) 4))
    rw [k1, Option.bind_some, k2, Option.bind_some, succ64 (by omega)]
    exact ⟨_, rfl, ⟨u32_xor _ _, i + 1, rfl, by omega⟩, by dsimp only; omega⟩
  · right
    rw [if_neg (by simpa using hlt)]
    exact ⟨_, rfl, u32_xor _ _⟩
theorem Sum_ok {b : List Int} (hl : b.length < 4611686018427387904) : ∃ n, codec_Sum b = some n ∧ U32 n := by
  unfold codec_Sum
  refine loopO_inv (fun s => (∃ i : Nat, s.1 = (i : Int) ∧ i ≤ 16) ∧ s.2.length = 16 ∧ ∀ x ∈ s.2, U32 x) (fun s => (16 - s.1).toNat) U32 ?_ ⟨⟨0, rfl, by omega⟩, by simp, fun x hx => by rw [List.eq_of_mem_replicate hx]; exact ⟨by decide, by decide⟩⟩
  rintro ⟨i', t⟩ ⟨⟨i, hi, hi'⟩, ht, hu⟩
  dsimp only at hi ht hu
  subst hi
  dsimp only
  unfold codec_Sum_b2
  by_cases hlt : i < 16
  · left
    rw [if_pos (by simpa using by omega)]
    have : ∃ r, loopO (fun s : (Int × Int) => codec_Sum_b3 (i : Int) t s.1 s.2) (IntKind.u32.wrap (i : Int), 0) = some r ∧ ∃ v, U32 v ∧ r = .inl (((i + 1 : Nat) : Int), t.set i v) := by
      refine loopO_inv (fun s => U32 s.1 ∧ ∃ i : Nat, s.2 = (i : Int) ∧ i ≤ 4) (fun s => (4 - s.2).toNat) _ ?_ ⟨u32_wrap _, 0, rfl, by omega⟩
      rintro ⟨x, q'⟩ ⟨hx, q, hq, hq'⟩
      dsimp only at hq
      subst hq
      dsimp only
      unfold codec_Sum_b3
      by_cases hql : q < 4
      · left
        rw [if_pos (by simpa using by omega), succ64 (by omega)]
        exact ⟨_, rfl, ⟨u32_xor _ _, q + 1, rfl, by omega⟩, by dsimp only; omega⟩
      · right
        rw [if_neg (by simpa using by omega)]
        unfold codec_Sum_j4 codec_Sum_j3
        have hit : i < t.length := by omega
        rw [ix_of hit, Option.bind_some, List.getElem?_eq_getElem hit, Option.bind_some, succ64 (by omega)]
        exact ⟨_, rfl, x, hx, rfl⟩
    obtain ⟨r, h1, v, hv, rfl⟩ := this
    refine ⟨_, h1, ⟨⟨i + 1, rfl, by omega⟩, by simpa using ht, fun x hx => ?_⟩, by dsimp only; omega⟩
    rcases List.mem_or_eq_of_mem_set hx with h | h
    · exact hu x h
    · rw [h]; exact hv
  · right
    rw [if_neg (by simpa using by omega)]
    obtain ⟨n, h1, h2⟩ := Sum_j1_ok hl ht hu
    exact ⟨n, by rw [h1]; rfl, h2⟩
noncomputable def sumB (b : List Int) : Int := (codec_Sum b).getD 0
theorem Sum_eq {b : List Int} (hl : b.length < 4611686018427387904) : codec_Sum b = some (sumB b) ∧ U32 (sumB b) := by
  obtain ⟨n, h1, h2⟩ := Sum_ok hl
  unfold sumB
  rw [h1]; exact ⟨rfl, h2⟩
def be4 (n : Int) : List Int := [n / 2 ^ 24 % 256, n / 2 ^ 16 % 256, n / 2 ^ 8 % 256, n % 256]
theorem be4_byt (n : Int) : Byt (be4 n) := by
  unfold be4
  exact .cons (by omega) (.cons (by omega) (.cons (by omega) (.cons (by omega) .nil)))
theorem be4_len (n : Int) : (be4 n).length = 4 := rfl
theorem shr32 {x : Int} {k : Nat} (hk : k ≤ 32) : iShr .u32 x (k : Int) = x / 2 ^ k := by
  unfold iShr
  rw [Int.fdiv_eq_ediv_of_nonneg _ (Int.le_of_lt (Int.pow_pos (by decide)))]
  congr 2
  simp [IntKind.bits]; omega
theorem shrI {x : Int} {k : Nat} (hk : k ≤ 64) : iShr .i64 x (k : Int) = x / 2 ^ k := by
  unfold iShr
  rw [Int.fdiv_eq_ediv_of_nonneg _ (Int.le_of_lt (Int.pow_pos (by decide)))]
  congr 2
  simp [IntKind.bits]; omega
noncomputable def sealB (b : List Int) : List Int := b ++ be4 (sumB b)
theorem sealed_eq {b : List Int} (hl : b.length ≤ 1000000000000) : block_sealed b = some (sealB b) := by
  unfold block_sealed
  rw [(Sum_eq (b := b) (by omega)).1, Option.bind_some, wrapu8, wrapu8, wrapu8, wrapu8]
  have e1 := shr32 (x := sumB b) (k := 24) (by omega)
  have e2 := shr32 (x := sumB b) (k := 16) (by omega)
  have e3 := shr32 (x := sumB b) (k := 8) (by omega)
  rw [show ((24 : Nat) : Int) = 24 from rfl] at e1
  rw [show ((16 : Nat) : Int) = 16 from rfl] at e2
  rw [show ((8 : Nat) : Int) = 8 from rfl] at e3
  rw [e1, e2, e3, app_of (by simp; omega), Option.bind_some]
  rfl
theorem one_eq {v : AV} (h : Rgt v) : block_one v = some (oneB v) := by
  unfold block_one
  rw [rows_Encode_eq (l := [v]) (fun x hx => by rw [List.mem_singleton.1 hx]; exact h) (by simp), Option.bind_some]
  simp only [rowB, List.length_singleton, List.flatMap_cons, List.flatMap_nil, List.append_nil]
  rw [sub_from1, Option.bind_some]
def minV : List AV → AV
  | [] => vNull
  | v :: l => l.foldl (fun m x => if ltV x m then x else m) v
def maxV : List AV → AV
  | [] => vNull
  | v :: l => l.foldl (fun m x => if ltV m x then x else m) v
theorem cmpV_pos (a b : AV) : 0 < cmpV a b ↔ ltV b a = true := by
  unfold cmpV
  split
  · rename_i h; simp [ltV_asym h]
  · split
    · rename_i h; simp [h]
    · rename_i h; simp at h; simp [h]
theorem foldl_mem {f : AV → AV → AV} (hf : ∀ m x, f m x = m ∨ f m x = x) : ∀ (l : List AV) (v : AV), l.foldl f v ∈ v :: l
  | [], v => by simp
  | x :: l, v => by
    have := foldl_mem hf l (f v x)
    rw [List.foldl_cons]
    rcases hf v x with h | h
    · rw [h] at this ⊢
      rcases List.mem_cons.1 this with h' | h'
      · rw [h']; simp
      · simp [h']
    · rw [h] at this ⊢
      simp [this]
theorem minV_mem {l : List AV} (h : l ≠ []) : minV l ∈ l := by
  cases l with
  | nil => exact absurd rfl h
  | cons v l => exact foldl_mem (fun m x => by split <;> simp) l v
theorem maxV_mem {l : List AV} (h : l ≠ []) : maxV l ∈ l := by
  cases l with
  | nil => exact absurd rfl h
  | cons v l => exact foldl_mem (fun m x => by split <;> simp) l v
theorem MinFunc_eq {l : List AV} (h : l ≠ []) (hl : l.length ≤ 1048576) : slices_MinFunc_Value l value_Compare = some (minV l) := by
  cases l with
  | nil => exact absurd rfl h
  | cons v r =>
  unfold slices_MinFunc_Value
  rw [if_neg (by simp; omega)]
  unfold slices_MinFunc_Value_j1
  rw [idx_cons0, Option.bind_some]
  refine loop_seq (fun i => (((i + 1 : Nat) : Int), (r.take i).foldl (fun m x => if ltV x m then x else m) v)) r.length (by simp) (fun i hi => ?_) ?_
  · dsimp only
    unfold slices_MinFunc_Value_b1
    have hi' : i + 1 < (v :: r).length := by simp; omega
    simp only [List.length_cons] at hl
    rw [if_pos (by simpa using by omega), idx_of hi', Option.bind_some, value_Compare_eq, Option.bind_some]
    rw [foldl_take hi]
    unfold slices_MinFunc_Value_j3
    have e : (v :: r)[i + 1] = r[i] := rfl
    rw [e, succ64 (by omega)]
    by_cases hc : ltV r[i] ((r.take i).foldl (fun m x => if ltV x m then x else m) v) = true
    · rw [if_pos (decide_eq_true ((cmpV_neg _ _).2 hc)), Option.bind_some, if_pos hc]
    · rw [if_neg (by simpa using fun h => hc ((cmpV_neg _ _).1 h)), if_neg hc]
  · unfold slices_MinFunc_Value_b1 slices_MinFunc_Value_j2
    dsimp only
    rw [if_neg (by simp), List.take_length]
    rfl
theorem MaxFunc_eq {l : List AV} (h : l ≠ []) (hl : l.length ≤ 1048576) : slices_MaxFunc_Value l value_Compare = some (maxV l) := by
  cases l with
  | nil => exact absurd rfl h
  | cons v r =>
  unfold slices_MaxFunc_Value
  rw [if_neg (by simp; omega)]
  unfold slices_MaxFunc_Value_j1
  rw [idx_cons0, Option.bind_some]
  refine loop_seq (fun i => (((i + 1 : Nat) : Int), (r.take i).foldl (fun m x => if ltV m x then x else m) v)) r.length (by simp) (fun i hi => ?_) ?_
  · dsimp only
    unfold slices_MaxFunc_Value_b1
    have hi' : i + 1 < (v :: r).length := by simp; omega
    simp only [List.length_cons] at hl
    rw [if_pos (by simpa using by omega), idx_of hi', Option.bind_some, value_Compare_eq, Option.bind_some]
    rw [foldl_take hi]
    unfold slices_MaxFunc_Value_j3
    have e : (v :: r)[i + 1] = r[i] := rfl
    rw [e, succ64 (by omega)]
    by_cases hc : ltV ((r.take i).foldl (fun m x => if ltV m x then x else m) v) r[i] = true
    · rw [if_pos (decide_eq_true ((cmpV_pos _ _).2 hc)), Option.bind_some, if_pos hc]
    · rw [if_neg (by simpa using fun h => hc ((cmpV_pos _ _).1 h)), if_neg hc]
  · unfold slices_MaxFunc_Value_b1 slices_MaxFunc_Value_j2
    dsimp only
    rw [if_neg (by simp), List.take_length]
    rfl
def nulls (l : List AV) : Nat := (l.filter fun v => v.fKind == 0).length
def headB (kind : Int) (l : List AV) : Block_Info := ⟨kind, (l.length : Int), minV l, maxV l, (nulls l : Int), 0⟩
theorem nulls_fold (i : Block_Info) : ∀ (l : List AV) (n : Nat), n + l.length ≤ 1048576 → foldY (fun (s : Block_Info) (x : AV) => block_head_b1 s x) { i with fNulls := (n : Int) } l = some ({ i with fNulls := ((n + nulls l : Nat) : Int) }, true)
  | [], n, _ => by simp [foldY, nulls]
  | v :: l, n, h => by
    simp only [List.length_cons] at h
    simp only [foldY]
    by_cases hv : (v.fKind == 0) = true
    · have e : block_head_b1 { i with fNulls := (n : Int) } v = some ({ i with fNulls := ((n + 1 : Nat) : Int) }, true) := by
        unfold block_head_b1
        rw [if_pos hv, succ64 (by omega)]
      rw [e, Option.bind_some, if_pos rfl, nulls_fold i l (n + 1) (by omega)]
      simp only [nulls, List.filter_cons, hv, if_true, List.length_cons]
      congr 4; omega
    · have e : block_head_b1 { i with fNulls := (n : Int) } v = some ({ i with fNulls := (n : Int) }, true) := by
        unfold block_head_b1
        rw [if_neg hv]
      rw [e, Option.bind_some, if_pos rfl, nulls_fold i l n (by omega)]
      simp only [nulls, List.filter_cons, hv, Bool.false_eq_true, if_false]
theorem nulls_le (l : List AV) : nulls l ≤ l.length := List.length_filter_le _ _
theorem head_eq {l : List AV} (kind : Int) (h : l ≠ []) (hl : l.length ≤ 1048576) : block_head kind l = some (headB kind l) := by
  unfold block_head slices_Values_Value
  rw [MinFunc_eq h hl, Option.bind_some, MaxFunc_eq h hl, Option.bind_some, Option.bind_some]
  rw [show (⟨kind, (l.length : Int), minV l, maxV l, 0, 0⟩ : Block_Info) = { (⟨kind, (l.length : Int), minV l, maxV l, 0, 0⟩ : Block_Info) with fNulls := ((0 : Nat) : Int) } from rfl, nulls_fold _ l 0 (by omega), Option.bind_some, if_pos rfl, Nat.zero_add]
  rfl
end Go.Proofs.Ytifobhaccglckaa.Hay
