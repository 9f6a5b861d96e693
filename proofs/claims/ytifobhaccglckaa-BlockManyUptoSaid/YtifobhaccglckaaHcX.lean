import Derived.Test.YtifobhaccglckaaHcW
namespace Go.Proofs.Ytifobhaccglckaa.Hay
theorem loop_allS {α β σ : Type} {f : σ → Option (σ ⊕ β)} {s : σ} (S : Nat → σ) (xs : List α) (p : α → Bool) (b0 b1 : β) (h0 : s = S 0) (step : ∀ (i : Nat) (h : i < xs.length), p xs[i] = true → f (S i) = some (.inl (S (i + 1))))
    (out : ∀ (i : Nat) (h : i < xs.length), p xs[i] = false → f (S i) = some (.inr b0)) (fin : f (S xs.length) = some (.inr b1)) : loopO f s = some (if xs.all p then b1 else b0) := by
  have key : ∀ k i : Nat, i + k = xs.length → loopO f (S i) = some (if (xs.drop i).all p then b1 else b0) := by
    intro k
    induction k with
    | zero =>
      intro i hi
      have : i = xs.length := by omega
      subst this
      rw [loopO_end fin]; simp
    | succ k ih =>
      intro i hi
      have hlt : i < xs.length := by omega
      rw [List.drop_eq_getElem_cons hlt, List.all_cons]
      cases hp : p xs[i] with
      | true => rw [loopO_go (step i hlt hp), ih (i + 1) (by omega)]; simp
      | false => rw [loopO_end (out i hlt hp)]; simp
  have := key xs.length 0 (by omega)
  rw [h0]
  simpa using this
def addR (out : List Encode_Run) (v : AV) : List Encode_Run :=
  match out.getLast? with
  | some r => if r.fValue = v then out.dropLast ++ [⟨r.fMany + 1, v⟩] else out ++ [⟨1, v⟩]
  | none => [⟨1, v⟩]
def runsL (l : List AV) : List Encode_Run := l.foldl addR []
def expand (l : List Encode_Run) : List AV := l.flatMap fun r => List.replicate r.fMany.toNat r.fValue
theorem runsL_take {l : List AV} {i : Nat} (h : i < l.length) : runsL (l.take (i + 1)) = addR (runsL (l.take i)) l[i] := foldl_take h
theorem getLast_split {α : Type} {l : List α} {a : α} (h : l.getLast? = some a) : l = l.dropLast ++ [a] := by
  cases l with
  | nil => cases h
  | cons x r =>
    have h1 : (x :: r).getLast (by simp) = a := by rw [List.getLast?_eq_some_getLast (by simp)] at h; exact Option.some.inj h
    rw [← h1, List.dropLast_concat_getLast]
theorem runs_prop (l : List AV) {i : Nat} (hi : i ≤ l.length) : (∀ r ∈ runsL (l.take i), 1 ≤ r.fMany ∧ r.fMany ≤ i ∧ r.fValue ∈ l) ∧ (runsL (l.take i)).length ≤ i ∧ expand (runsL (l.take i)) = l.take i := by
  induction i with
  | zero => simp [runsL, expand]
  | succ i ih =>
    obtain ⟨h1, h2, h3⟩ := ih (by omega)
    have hlt : i < l.length := by omega
    rw [runsL_take hlt, List.take_succ_eq_append_getElem hlt]
    generalize hw : runsL (l.take i) = W at *
    unfold addR
    have hm := List.getElem_mem hlt
    split
    · rename_i r hr
      split
      · rename_i e
        have hsp := getLast_split hr
        have hrm : r ∈ W := List.mem_of_getLast? hr
        obtain ⟨g1, g2, g3⟩ := h1 r hrm
        refine ⟨fun x hx => ?_, ?_, ?_⟩
        · rcases List.mem_append.1 hx with hx | hx
          · have := h1 x (by rw [hsp]; exact List.mem_append_left _ hx); exact ⟨this.1, by omega, this.2.2⟩
          · have : x = ⟨r.fMany + 1, l[i]⟩ := by simpa using hx
            subst this; exact ⟨by simp; omega, by simp; omega, hm⟩
        · have : W.length = W.dropLast.length + 1 := by rw [hsp]; simp
          simp; omega
        · rw [← h3]
          have e1 : expand W = expand W.dropLast ++ List.replicate r.fMany.toNat r.fValue := by
            conv => lhs; rw [hsp]
            simp [expand]
          rw [e1]
          have e2 : (r.fMany + 1).toNat = r.fMany.toNat + 1 := by omega
          simp [expand, e2, List.replicate_succ', e]
      · refine ⟨fun x hx => ?_, by simp; omega, ?_⟩
        · rcases List.mem_append.1 hx with hx | hx
          · have := h1 x hx; exact ⟨this.1, by omega, this.2.2⟩
          · have : x = ⟨1, l[i]⟩ := by simpa using hx
            subst this; exact ⟨by simp, by simp; omega, hm⟩
        · rw [← h3]; simp [expand]
    · rename_i hr
      have : W = [] := List.getLast?_eq_none_iff.1 hr
      subst this
      refine ⟨fun x hx => ?_, by simp, ?_⟩
      · have : x = ⟨1, l[i]⟩ := by simpa using hx
        subst this; exact ⟨by simp, by simp; omega, hm⟩
      · rw [← h3]; simp [expand]
theorem set_last {α : Type} (l : List α) (a : α) (n : Nat) (h : l.length = n + 1) : l.set n a = l.dropLast ++ [a] := by
  apply List.ext_getElem
  · simp; omega
  intro j h1 h2
  rw [List.getElem_set]
  split
  · rename_i e; subst e
    rw [List.getElem_append_right (by simp; omega)]; simp
  · simp at h1
    rw [List.getElem_append_left (by simp; omega), List.getElem_dropLast]
theorem Runs_eq (l : List AV) (hl : l.length ≤ 1048576) : encode_Runs l = some (runsL l) := by
  unfold encode_Runs
  refine loop_seq (fun i => ((i : Int), runsL (l.take i))) l.length (by simp [runsL]) (fun i hi => ?_) ?_
  · dsimp only
    obtain ⟨h1, h2, _⟩ := runs_prop l (i := i) (by omega)
    rw [runsL_take hi]
    generalize runsL (l.take i) = W at *
    unfold encode_Runs_b1
    rw [if_pos (by simpa using hi), idx_of hi, Option.bind_some]
    have app1 : encode_Runs_b2 (i : Int) W l[i] (W.length : Int) = some (.inr (.inl ((((i + 1 : Nat) : Int)), W ++ [⟨1, l[i]⟩]))) := by
      unfold encode_Runs_b2 encode_Runs_j3 encode_Runs_j2
      rw [if_neg (by simp), app_of (by simp; omega), Option.bind_some, succ64 (by omega)]; rfl
    have stepk : ∀ k, k + 1 < W.length → encode_Runs_b2 (i : Int) W l[i] (k : Int) = some (.inl ((k + 1 : Nat) : Int)) := by
      intro k hk
      unfold encode_Runs_b2 encode_Runs_j4
      rw [if_pos (by simpa using by omega), if_neg (by rw [wrap64 (by omega)]; simp; omega), if_neg (by decide), succ64 (by omega)]
    unfold addR
    cases hg : W.getLast? with
    | none =>
      have : W = [] := List.getLast?_eq_none_iff.1 hg
      subst this
      exact loopO_end app1
    | some r =>
      dsimp only
      have hsp := getLast_split hg
      obtain ⟨n, hn⟩ : ∃ n, W.length = n + 1 := ⟨W.length - 1, by
        have : W.length = W.dropLast.length + 1 := by rw [hsp]; simp
        omega⟩
      have hgn : W[n]? = some r := by
        rw [List.getLast?_eq_getElem?, hn] at hg; exact hg
      have hrm := h1 r (List.mem_of_getLast? hg)
      by_cases e : r.fValue = l[i]
      · rw [if_pos e]
        refine loop_seq (fun k => (k : Int)) n rfl (fun k hk => stepk k (by omega)) ?_
        unfold encode_Runs_b2 encode_Runs_j4 encode_Runs_j2
        rw [if_pos (by simpa using by omega), if_pos (by rw [wrap64 (by omega)]; simp; omega), ix_of (by omega), Option.bind_some, hgn, Option.bind_some, if_pos (by simpa using e), Option.bind_some, hgn, Option.bind_some, Option.bind_some, hgn, Option.bind_some, succ64 (by omega), set_last _ _ _ hn, wrap64 (by omega), e]
        rfl
      · rw [if_neg e]
        refine loop_seq (fun k => (k : Int)) W.length rfl (fun k hk => ?_) app1
        by_cases hk1 : k + 1 < W.length
        · exact stepk k hk1
        · have : k = n := by omega
          subst this
          unfold encode_Runs_b2 encode_Runs_j4
          rw [if_pos (by simpa using by omega), if_pos (by rw [wrap64 (by omega)]; simp; omega), ix_of (by omega), Option.bind_some, hgn, Option.bind_some, if_neg (by simpa using e), succ64 (by omega)]
  · dsimp only
    unfold encode_Runs_b1 encode_Runs_j1
    rw [if_neg (by simp), List.take_length]; rfl
def runsB (l : List AV) : List Int := (runsL l).flatMap fun r => r.fMany :: oneB r.fValue
theorem flat_le {α : Type} (l : List α) (f : α → List Int) (k : Nat) (h : ∀ x ∈ l, (f x).length ≤ k) : (l.flatMap f).length ≤ k * l.length := by
  induction l with
  | nil => simp
  | cons v r ih =>
    have := h v (by simp)
    have := ih fun x hx => h x (by simp [hx])
    rw [List.flatMap_cons, List.length_append, List.length_cons, Nat.mul_add]; omega
theorem runsL_all {l : List AV} : (∀ r ∈ runsL l, 1 ≤ r.fMany ∧ r.fMany ≤ l.length ∧ r.fValue ∈ l) ∧ (runsL l).length ≤ l.length ∧ expand (runsL l) = l := by
  have := runs_prop l (Nat.le_refl _)
  rwa [List.take_length] at this
theorem encode_runs_eq {l : List AV} (h : ∀ v ∈ l, Rgt v) (hl : l.length ≤ 64) : encode_runs l = some (runsB l) := by
  obtain ⟨h1, h2, _⟩ := runsL_all (l := l)
  unfold encode_runs
  rw [Runs_eq l (by omega), Option.bind_some]
  refine loop_seq (fun i => (((runsL l).take i).flatMap fun r => r.fMany :: oneB r.fValue, (i : Int))) (runsL l).length (by simp) (fun i hi => ?_) ?_
  · dsimp only
    have hm := h1 _ (List.getElem_mem hi)
    have hr := h _ hm.2.2
    have hb := flat_le ((runsL l).take i) (fun r => r.fMany :: oneB r.fValue) 67 fun x hx => by
      have := (oneB_len (h _ (h1 x (List.mem_of_mem_take hx)).2.2)).2
      simp; omega
    have hb' := (oneB_len hr).2
    simp only [List.length_take] at hb
    unfold encode_runs_b1
    rw [if_pos (by simpa using hi), idx_of hi, Option.bind_some, wrapu8, app_of (by simp only [List.length_singleton]; omega), Option.bind_some, encode_one_eq hr, Option.bind_some, app_of (by simp only [List.length_append, List.length_singleton]; omega), Option.bind_some, succ64 (by omega), take_flat hi]
    have : (runsL l)[i].fMany % 256 = (runsL l)[i].fMany := by omega
    rw [this]; simp
  · dsimp only
    unfold encode_runs_b1 encode_runs_j1
    rw [if_neg (by simp), List.take_length]; rfl
def zig (d : Int) : Nat := if d < 0 then (-2 * d - 1).toNat else (2 * d).toNat
def short (z : Nat) : List Int := if h : z < 128 then [(z : Int)] else ((z % 128 + 128 : Nat) : Int) :: short (z / 128)
termination_by z
theorem short_lt {z : Nat} (h : z < 128) : short z = [(z : Int)] := by rw [short, dif_pos h]
theorem short_ge {z : Nat} (h : ¬ z < 128) : short z = ((z % 128 + 128 : Nat) : Int) :: short (z / 128) := by rw [short, dif_neg h]
theorem short_len : ∀ (k z : Nat), z < 128 ^ (k + 1) → (short z).length ≤ k + 1
  | 0, z, h => by rw [short_lt (by simpa using h)]; simp
  | k + 1, z, h => by
    by_cases hz : z < 128
    · rw [short_lt hz]; simp
    · rw [short_ge hz]
      have : z / 128 < 128 ^ (k + 1) := by rw [Nat.div_lt_iff_lt_mul (by decide)]; rw [Nat.pow_succ] at h; exact h
      have := short_len k _ this
      simp; omega
theorem short_len10 {z : Nat} (h : z < 18446744073709551616) : (short z).length ≤ 10 := short_len 9 z (Nat.lt_of_lt_of_le h (by decide))
theorem short_byt (z : Nat) : Byt (short z) := by
  induction z using Nat.strongRecOn with
  | _ z ih =>
    by_cases hz : z < 128
    · rw [short_lt hz]; exact .cons (by omega) .nil
    · rw [short_ge hz]; exact .cons (by omega) (ih _ (by omega))
theorem zig_lt {d : Int} (h : i64r d) : zig d < 18446744073709551616 := by
  unfold zig i64r at *; split <;> omega
def dstep (l : List Int) (i : Nat) : List Int := short (zig (IntKind.i64.wrap (l.getD (i + 1) 0 - l.getD i 0)))
def deltaB (l : List Int) : List Int := be8 (l.getD 0 0 % 18446744073709551616) ++ (List.range (l.length - 1)).flatMap (dstep l)
theorem or128 : ∀ n : _root_.Fin 256, n.val ||| 128 = n.val % 128 + 128 := by decide +kernel
theorem delta_short (x : Nat) : ∀ (z : Nat) (acc : List Int), z < 18446744073709551616 → acc.length + (short z).length ≤ 140737488355328 → x < 1000 →
    loopO (fun s : ((List Int) × Int) => encode_delta_b2 (x : Int) s.1 s.2) (acc, (z : Int)) = some (.inl (acc ++ short z, ((x + 1 : Nat) : Int))) := by
  intro z
  induction z using Nat.strongRecOn with
  | _ z ih =>
    intro acc hz hl hx
    by_cases h : z < 128
    · rw [short_lt h] at hl ⊢
      apply loopO_end
      dsimp only
      unfold encode_delta_b2 encode_delta_j3 encode_delta_j2
      rw [if_neg (by simp; omega), wrapu8, app_of (by simpa using hl), Option.bind_some, succ64 (by omega)]
      have : (z : Int) % 256 = z := by omega
      rw [this]; rfl
    · rw [short_ge h] at hl ⊢
      simp only [List.length_cons] at hl
      have e : encode_delta_b2 (x : Int) acc (z : Int) = some (.inl (acc ++ [((z % 128 + 128 : Nat) : Int)], ((z / 128 : Nat) : Int))) := by
        unfold encode_delta_b2
        have h1 : bOr .u8 ((z : Int) % 256) 128 = ((z % 128 + 128 : Nat) : Int) := by
          have h2 := or128 ⟨z % 256, by omega⟩
          simp only at h2
          rw [show ((z : Int) % 256) = ((z % 256 : Nat) : Int) by omega, show (128 : Int) = ((128 : Nat) : Int) from rfl, or8 (by omega) (by omega), h2]
          congr 1; omega
        have h3 : iShr .u64 (z : Int) 7 = ((z / 128 : Nat) : Int) := by have := shr64 (x := (z : Int)) (k := 7) (by omega); simpa using this
        rw [if_pos (by simp; omega), wrapu8, h1, h3, app_of (by simp; omega), Option.bind_some]
      rw [loopO_go (by dsimp only; exact e), ih (z / 128) (by omega) _ (by omega) (by simp; omega) hx]
      simp
theorem xor_ones {a : Nat} (ha : a < 18446744073709551616) : bXor .u64 (a : Int) 18446744073709551615 = 18446744073709551615 - (a : Int) := by
  unfold bXor
  rw [wrapu64]
  show (((BitVec.ofInt 64 (a : Int) ^^^ BitVec.ofInt 64 18446744073709551615).toNat : Nat) : Int) % 18446744073709551616 = _
  have h1 : (BitVec.ofInt 64 (a : Int)).toNat = a := by rw [BitVec.toNat_ofInt]; omega
  have h2 : BitVec.ofInt 64 18446744073709551615 = BitVec.allOnes 64 := by decide
  rw [h2, BitVec.xor_allOnes, BitVec.toNat_not, h1]
  have : (2 : Nat) ^ 64 = 18446744073709551616 := by decide
  omega
theorem xor_zero {a : Nat} (ha : a < 18446744073709551616) : bXor .u64 (a : Int) 0 = (a : Int) := by
  unfold bXor
  rw [wrapu64]
  show (((BitVec.ofInt 64 (a : Int) ^^^ BitVec.ofInt 64 0).toNat : Nat) : Int) % 18446744073709551616 = _
  have h1 : (BitVec.ofInt 64 (a : Int)).toNat = a := by rw [BitVec.toNat_ofInt]; omega
  have h2 : BitVec.ofInt 64 0 = 0#64 := by decide
  rw [h2, BitVec.xor_zero, h1]; omega
theorem zig_eq {d : Int} (h : i64r d) : bXor .u64 (iShl .u64 (IntKind.u64.wrap d) 1) (IntKind.u64.wrap (iShr .i64 d 63)) = (zig d : Int) := by
  have h1 : iShr .i64 d 63 = if d < 0 then -1 else 0 := by
    unfold iShr i64r at *
    rw [Int.fdiv_eq_ediv_of_nonneg _ (Int.le_of_lt (Int.pow_pos (by decide)))]
    have : (2 : Int) ^ (min (63 : Int).toNat IntKind.i64.bits) = 9223372036854775808 := by decide
    rw [this]
    split <;> omega
  have h2 : iShl .u64 (IntKind.u64.wrap d) 1 = (2 * d) % 18446744073709551616 := by
    have := shl64 (x := IntKind.u64.wrap d) (k := 1) (by omega)
    rw [show ((1 : Nat) : Int) = 1 from rfl] at this
    rw [this, wrapu64]; omega
  rw [h1, h2, wrapu64]
  unfold zig i64r at *
  split
  · have e : ((2 * d) % 18446744073709551616) = ((2 * d + 18446744073709551616).toNat : Int) := by omega
    rw [show ((-1 : Int) % 18446744073709551616) = 18446744073709551615 from by decide, e, xor_ones (by omega)]
    omega
  · have e : ((2 * d) % 18446744073709551616) = ((2 * d).toNat : Int) := by omega
    rw [show ((0 : Int) % 18446744073709551616) = 0 from by decide, e, xor_zero (by omega)]
theorem encode_delta_eq {l : List Int} (h0 : 0 < l.length) (hl : l.length ≤ 64) : encode_delta l = some (deltaB l) := by
  unfold encode_delta
  have h00 : idx l 0 = some l[0] := idx_of (i := 0) h0
  have hsub := sub_of (xs := l) (lo := 1) (hi := l.length) (by omega) (Nat.le_refl _)
  rw [show ((1 : Nat) : Int) = 1 from rfl] at hsub
  rw [h00, Option.bind_some, wrapu64, encode_eight_eq, Option.bind_some, hsub, Option.bind_some, List.take_length]
  have hlen : (l.drop 1).length = l.length - 1 := by simp
  have hg0 : l.getD 0 0 = l[0] := by rw [List.getD_eq_getElem?_getD, List.getElem?_eq_getElem h0]; rfl
  refine loop_seq (fun i => (be8 (l[0] % 18446744073709551616) ++ (List.range i).flatMap (dstep l), (i : Int))) (l.length - 1) (by simp) (fun i hi => ?_) ?_
  · dsimp only
    unfold encode_delta_b1
    rw [hlen, if_pos (by simpa using hi), idx_of (by rw [hlen]; exact hi), Option.bind_some, idx_of (by omega), Option.bind_some]
    have hw := wrap_r ((l.drop 1)[i]'(by rw [hlen]; exact hi) - l[i]'(by omega))
    have hb := flat_le (List.range i) (dstep l) 10 fun x hx => short_len10 (zig_lt (wrap_r _))
    have h10 := short_len10 (zig_lt hw)
    simp only [List.length_range] at hb
    have e : dstep l i = short (zig (IntKind.i64.wrap ((l.drop 1)[i]'(by rw [hlen]; exact hi) - l[i]'(by omega)))) := by
      unfold dstep
      rw [List.getD_eq_getElem?_getD, List.getD_eq_getElem?_getD, List.getElem?_eq_getElem (show i + 1 < l.length by omega), List.getElem?_eq_getElem (show i < l.length by omega)]
      simp only [Option.getD_some, List.getElem_drop]
      congr 5
      omega
    rw [zig_eq hw, delta_short i _ _ (zig_lt hw) (by simp only [List.length_append, be8_length]; omega) (by omega), List.range_succ, List.flatMap_append, ← e]
    simp
  · dsimp only
    unfold encode_delta_b1 encode_delta_j1
    rw [hlen, if_neg (by simp)]
    unfold deltaB
    rw [hg0]; rfl
theorem getD_at {α : Type} {l : List α} {i : Nat} {d : α} (h : i < l.length) : l.getD i d = l[i] := by
  rw [List.getD_eq_getElem?_getD, List.getElem?_eq_getElem h]; rfl
end Go.Proofs.Ytifobhaccglckaa.Hay
