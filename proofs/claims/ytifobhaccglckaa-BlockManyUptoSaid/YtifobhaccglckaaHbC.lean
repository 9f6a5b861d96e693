import Derived.Test.YtifobhaccglckaaHbB
namespace Go.Proofs.Ytifobhaccglckaa.Hay
open Go.RowKit (Below)

def Step (P : Program) (o : Oper) (a : Act) (w : World) (Post : Value → World → Prop) : Prop :=
  ∀ (ro : Option Nat) (Kk : Act → World → Prop) (Q : Exit → Act → World → Prop), (∀ v w', Post v w' → Kk (a.put o.dst v) w') → o.wpIn (Fr ro) 0 P a w Kk Q
section
variable {δ : List Nat} {ro : Option Nat} {P : Program} {ops : Array Oper} {Q : Exit → Act → World → Prop} {rest : List Oper} {a : Act} {w : World} {Post : Value → World → Prop} {n : Nat} {l : List (Nat × Value)} {d : Nat} {op : Op} {ty : TypeId} {pos : String} {aft : Array Edge}
theorem st (hE : EnvD δ n a l) (h : Step P ⟨some d, op, ty, pos, aft, none⟩ a w Post) (hd : Nat.blt d n = true) (k : ∀ v a' w', Post v w' → EnvD δ n a' ((d, v) :: l) → wpL ro P ops Q rest a' w') : wpL ro P ops Q (⟨some d, op, ty, pos, aft, none⟩ :: rest) a w :=
  wpListIn_plain rfl fun _ hK => h _ _ _ fun v w' hp => hK _ _ (k v _ w' hp (hE.put hd v))
theorem st0 (hE : EnvD δ n a l) (h : Step P ⟨none, op, ty, pos, aft, none⟩ a w Post) (k : ∀ v w', Post v w' → EnvD δ n a l → wpL ro P ops Q rest a w') : wpL ro P ops Q (⟨none, op, ty, pos, aft, none⟩ :: rest) a w :=
  wpListIn_plain rfl fun _ hK => h _ _ _ fun v w' hp => hK _ _ (k v w' hp hE)
theorem stg {og : Oper} {g dg : Nat} {b c : Bool} (hE : EnvD δ n a l) (hg : ops[g]? = some og) (ho : og.dst = some dg) (hdg : Nat.blt dg n = true) (hl : lk l dg = some (.bool c)) (hc : c = b)
    (h : Step P ⟨some d, op, ty, pos, aft, some (g, b)⟩ a w Post) (hd : Nat.blt d n = true) (k : ∀ v a' w', Post v w' → EnvD δ n a' ((d, v) :: l) → wpL ro P ops Q rest a' w') : wpL ro P ops Q (⟨some d, op, ty, pos, aft, some (g, b)⟩ :: rest) a w :=
  wpListIn_step fun Kk hK => by
    subst hc
    simp only [Region.wanted, yielded_of hE hg ho hdg hl, beq_self_eq_true, if_true]
    exact h _ _ _ fun v w' hp => hK _ _ (k v _ w' hp (hE.put hd v))
end
theorem Run1.step {P : Program} {o : Oper} {a : Act} {w w' : World} {v : Value} (h : Run1 P o a w v w') {Post : Value → World → Prop} (hp : Post v w') : Step P o a w Post :=
  fun _ _ _ k => h.wp (k _ _ hp)
theorem Run0.step {P : Program} {o : Oper} {a : Act} {w w' : World} (h : Run0 P o a w w') {Post : Value → World → Prop} (hp : Post undef w') : Step P o a w Post :=
  fun _ _ _ k => h.wp (k _ _ hp)
theorem Run1.pure {P : Program} {o : Oper} {a : Act} {w : World} {v : Value} (h : Run1 P o a w v w) : Step P o a w (fun u w' => v = u ∧ w = w') := h.step ⟨rfl, rfl⟩

theorem Step.imp {P : Program} {a : Act} {w : World} {o : Oper} {Post Post' : Value → World → Prop} (h : Step P o a w Post) (k : ∀ v w', Post v w' → Post' v w') : Step P o a w Post' := fun ro Kk Q hk => h ro Kk Q fun v w' hp => hk v w' (k v w' hp)
def bAnd (k : IntKind) (x y : Int) : Int := k.wrap ((BitVec.ofInt k.bits x &&& BitVec.ofInt k.bits y).toNat : Int)
def bOr (k : IntKind) (x y : Int) : Int := k.wrap ((BitVec.ofInt k.bits x ||| BitVec.ofInt k.bits y).toNat : Int)
def bXor (k : IntKind) (x y : Int) : Int := k.wrap ((BitVec.ofInt k.bits x ^^^ BitVec.ofInt k.bits y).toNat : Int)
def iShl (k : IntKind) (x y : Int) : Int := k.wrap (x * 2 ^ (min y.toNat k.bits))
def iShr (k : IntKind) (x y : Int) : Int := x.fdiv (2 ^ (min y.toNat k.bits))
def iNot (k : IntKind) (x : Int) : Int := bXor k (if k.signed then -1 else k.max) x
theorem wrap_wrap (k : IntKind) (x : Int) : k.wrap (k.wrap x) = k.wrap x := by
  cases k <;> simp only [IntKind.wrap, IntKind.bits, IntKind.signed] <;> simp <;> omega
theorem inR_wrap (k : IntKind) (x : Int) : inR k (k.wrap x) := wrap_wrap k x
theorem inR_and (k : IntKind) (x y : Int) : inR k (bAnd k x y) := wrap_wrap k _
theorem inR_or (k : IntKind) (x y : Int) : inR k (bOr k x y) := wrap_wrap k _
theorem inR_xor (k : IntKind) (x y : Int) : inR k (bXor k x y) := wrap_wrap k _
theorem inR_shl (k : IntKind) (x y : Int) : inR k (iShl k x y) := wrap_wrap k _
theorem inR_not (k : IntKind) (x : Int) : inR k (iNot k x) := wrap_wrap k _
theorem inR_bd {k : IntKind} {x : Int} : inR k x ↔ k.min ≤ x ∧ x ≤ k.max := by
  unfold inR
  cases k <;> simp only [IntKind.wrap, IntKind.bits, IntKind.signed, IntKind.min, IntKind.max] <;> simp <;> omega
theorem fdiv_bd {x : Int} {p : Int} (hp : 0 < p) {lo hi : Int} (hl : lo ≤ 0) (hh : 0 ≤ hi) (h1 : lo ≤ x) (h2 : x ≤ hi) : lo ≤ x.fdiv p ∧ x.fdiv p ≤ hi := by
  rw [Int.fdiv_eq_ediv_of_nonneg _ (by omega)]
  constructor
  · exact (Int.le_ediv_iff_mul_le hp).2 (by
      have : lo * p ≤ lo * 1 := Int.mul_le_mul_of_nonpos_left hl (by omega)
      omega)
  · have h3 := Int.ediv_le_self (b := p) (a := x)
    rcases Int.lt_or_le x 0 with hx | hx
    · have : x / p < 0 := Int.ediv_neg_of_neg_of_pos hx hp
      omega
    · have := Int.ediv_le_self p hx
      omega
theorem inR_shr {k : IntKind} {x : Int} (h : inR k x) (y : Int) : inR k (iShr k x y) := by
  rw [inR_bd] at *
  have hp : (0 : Int) < 2 ^ (min y.toNat k.bits) := Int.pow_pos (by decide)
  exact fdiv_bd hp (by cases k <;> decide) (by cases k <;> decide) h.1 h.2
theorem inR_mod {k : IntKind} {x y : Int} (h : inR k x) : inR k (x.tmod y) := by
  rw [inR_bd] at *
  have h1 : (x.tmod y).natAbs ≤ x.natAbs := by
    rw [Int.natAbs_tmod]
    exact Nat.mod_le _ _
  have h2 : 0 ≤ x → 0 ≤ x.tmod y := fun h => Int.tmod_nonneg _ h
  have h3 : x ≤ 0 → x.tmod y ≤ 0 := fun h => by
    have := Int.tmod_nonneg (a := -x) y (by omega)
    rw [Int.neg_tmod] at this
    omega
  have h4 : k.min ≤ 0 := by cases k <;> decide
  have h5 : 0 ≤ k.max := by cases k <;> decide
  rcases Int.le_total 0 x with hx | hx
  · have := h2 hx; omega
  · have := h3 hx; omega
theorem inR_len {n : Nat} (h : n ≤ maxSz) : inR .i64 (n : Int) := by
  rw [inR_bd]
  have : IntKind.max .i64 = 9223372036854775807 := by decide
  have : IntKind.min .i64 = -9223372036854775808 := by decide
  unfold maxSz at h
  omega

section
variable {δ : List Nat} {ro : Option Nat} {P : Program} {n : Nat} {a : Act} {l : List (Nat × Value)} {w : World} {dst : Option Tmp} {ty t t' : TypeId} {pos : String} {aft : Array Edge} {g : Option (Nat × Bool)} {x y z : Operand} {k : IntKind} {p q r : Int} {v u : Value} {b c e : Bool}
theorem r_move (hE : EnvD δ n a l) (hx : evl l x = some v) : Run1 P ⟨dst, .move x, ty, pos, aft, g⟩ a w v w := by
  simp [Run1, execOp, hE.eval hx]
theorem r_assign (hE : EnvD δ n a l) (hx : evl l x = some v) : Run1 P ⟨dst, .assign x, ty, pos, aft, g⟩ a w v w := by
  simp [Run1, execOp, hE.eval hx]
theorem r_pickT (hE : EnvD δ n a l) (hx : evl l x = some (.bool b)) (hb : b = true) (hy : evl l y = some v) : Run1 P ⟨dst, .pick x y z, ty, pos, aft, g⟩ a w v w := by
  subst hb; simp [Run1, execOp, hE.eval hx, hE.eval hy, asBool]
theorem r_pickF (hE : EnvD δ n a l) (hx : evl l x = some (.bool b)) (hb : b = false) (hz : evl l z = some u) : Run1 P ⟨dst, .pick x y z, ty, pos, aft, g⟩ a w u w := by
  subst hb; simp [Run1, execOp, hE.eval hx, hE.eval hz, asBool]
theorem r_bin {op : BinOp} {k' : IntKind} (hE : EnvD δ n a l) (hx : evl l x = some (.int k p)) (hy : evl l y = some (.int k' q)) (hr : ∀ w, (binOp op t (.int k p) (.int k' q)).run P w = .ok v w) :
    Run1 P ⟨dst, .binOp op t x y t', ty, pos, aft, g⟩ a w v w := by
  simp [Run1, execOp, hE.eval hx, hE.eval hy, eqGuard_at_int, hr]
theorem b_add (h : k.wrap (p + q) = r) : ∀ w, (binOp .add t (.int k p) (.int k q)).run P w = .ok (.int k r) w := fun w => by simp [binOp_add, Op.intArith, h]
theorem b_sub (h : k.wrap (p - q) = r) : ∀ w, (binOp .sub t (.int k p) (.int k q)).run P w = .ok (.int k r) w := fun w => by simp [binOp_sub, Op.intArith, h]
theorem b_mul (h : k.wrap (p * q) = r) : ∀ w, (binOp .mul t (.int k p) (.int k q)).run P w = .ok (.int k r) w := fun w => by simp [binOp_mul, Op.intArith, h]
theorem b_quo (h : k.wrap (p.tdiv q) = r) (h0 : q ≠ 0) : ∀ w, (binOp .quo t (.int k p) (.int k q)).run P w = .ok (.int k r) w := fun w => by simp [binOp_quo, Op.intDiv, h, h0]
theorem b_rem (h : p.tmod q = r) (h0 : q ≠ 0) : ∀ w, (binOp .rem t (.int k p) (.int k q)).run P w = .ok (.int k r) w := fun w => by simp [binOp_rem, Op.intDiv, h, h0]
theorem b_and (h : bAnd k p q = r) : ∀ w, (binOp .and t (.int k p) (.int k q)).run P w = .ok (.int k r) w := fun w => by simp [binOp_and, Op.intBits, ← h, bAnd]
theorem b_or (h : bOr k p q = r) : ∀ w, (binOp .or t (.int k p) (.int k q)).run P w = .ok (.int k r) w := fun w => by simp [binOp_or, Op.intBits, ← h, bOr]
theorem b_xor (h : bXor k p q = r) : ∀ w, (binOp .xor t (.int k p) (.int k q)).run P w = .ok (.int k r) w := fun w => by simp [binOp_xor, Op.intBits, ← h, bXor]
theorem b_shl {k' : IntKind} (h : iShl k p q = r) (h0 : 0 ≤ q) : ∀ w, (binOp .shl t (.int k p) (.int k' q)).run P w = .ok (.int k r) w := fun w => by
  simp [binOp, Op.shift, show ¬ q < 0 by omega, ← h, iShl]
theorem b_shr {k' : IntKind} (h : iShr k p q = r) (h0 : 0 ≤ q) : ∀ w, (binOp .shr t (.int k p) (.int k' q)).run P w = .ok (.int k r) w := fun w => by
  simp [binOp, Op.shift, show ¬ q < 0 by omega, ← h, iShr]
theorem b_eql : ∀ w, (binOp .eql t (.int k p) (.int k q)).run P w = .ok (.bool (p == q)) w := fun w => by simp [binOp_eql]
theorem b_neq : ∀ w, (binOp .neq t (.int k p) (.int k q)).run P w = .ok (.bool (p != q)) w := fun w => by simp [binOp_neq]
theorem b_lss : ∀ w, (binOp .lss t (.int k p) (.int k q)).run P w = .ok (.bool (decide (p < q))) w := fun w => by simp [binOp_lss]
theorem b_leq : ∀ w, (binOp .leq t (.int k p) (.int k q)).run P w = .ok (.bool (decide (p ≤ q))) w := fun w => by simp [binOp_leq]
theorem b_gtr : ∀ w, (binOp .gtr t (.int k p) (.int k q)).run P w = .ok (.bool (decide (q < p))) w := fun w => by simp [binOp_gtr]
theorem b_geq : ∀ w, (binOp .geq t (.int k p) (.int k q)).run P w = .ok (.bool (decide (q ≤ p))) w := fun w => by simp [binOp_geq]
theorem r_neqB (hE : EnvD δ n a l) (hx : evl l x = some (.bool b)) (hy : evl l y = some (.bool c)) (ht : P.underlying t = some .bool) : Run1 P ⟨dst, .binOp .neq t x y t', ty, pos, aft, g⟩ a w (.bool (!(b == c))) w := by
  simp [Run1, execOp, hE.eval hx, hE.eval hy, eqGuard_at_bool, run_neq_bool _ _ _ _ ht]
theorem r_not (hE : EnvD δ n a l) (hx : evl l x = some (.bool b)) : Run1 P ⟨dst, .unOp .not t x, ty, pos, aft, g⟩ a w (.bool (!b)) w := by
  simp [Run1, execOp, hE.eval hx, Op.unary]
theorem r_neg (hE : EnvD δ n a l) (hx : evl l x = some (.int k p)) (h : k.wrap (0 - p) = r) : Run1 P ⟨dst, .unOp .neg t x, ty, pos, aft, g⟩ a w (.int k r) w := by
  subst h; simp [Run1, execOp, hE.eval hx, Op.unary, Op.intArith]
theorem r_cpl (hE : EnvD δ n a l) (hx : evl l x = some (.int k p)) (h : iNot k p = r) : Run1 P ⟨dst, .unOp .xor t x, ty, pos, aft, g⟩ a w (.int k r) w := by
  subst h; simp [Run1, execOp, hE.eval hx, Op.unary, Op.intBits, iNot, bXor]
theorem r_conv {k' ks : IntKind} (hE : EnvD δ n a l) (hx : evl l x = some (.int k p)) (hs : P.underlying t = some (.int ks)) (hd : P.underlying t' = some (.int k')) (h : k'.wrap p = r) :
    Run1 P ⟨dst, .convert t t' x, ty, pos, aft, g⟩ a w (.int k' r) w := by
  subst h; simp [Run1, execOp, hE.eval hx, convert, run_underlying hs, run_underlying hd, Conv.intToInt]
theorem r_extract {vs : Array Value} {i : Nat} (hE : EnvD δ n a l) (hx : evl l x = some (.tuple vs)) (hi : vs[i]? = some v) : Run1 P ⟨dst, .extract x i, ty, pos, aft, g⟩ a w v w := by
  simp [Run1, execOp, hE.eval hx, Instr.extract, hi]
theorem r_nilCheck {ad : Addr} (hE : EnvD δ n a l) (hx : evl l x = some (.pointer (some ad))) : Run1 P ⟨dst, .nilCheck x, ty, pos, aft, g⟩ a w (.pointer (some ad)) w := by
  simp [Run1, execOp, hE.eval hx]
theorem r_makeFunc {fn : Fn} {fs cs : Array Operand} {v1 v2 : List Value} (hE : EnvD δ n a l) (h1 : argl l fs = some v1) (h2 : argl l cs = some v2) : Run1 P ⟨dst, .makeFunc fn fs cs, ty, pos, aft, g⟩ a w (.func fn v1.toArray v2.toArray) w := by
  simp [Run1, execOp, Instr.makeFunc, argl_eval hE h1, argl_eval hE h2]
theorem r_max2 {ts : Array TypeId} (hE : EnvD δ n a l) (hx : evl l x = some (.int k p)) (hy : evl l y = some (.int k q)) : Run1 P ⟨dst, .call ⟨.builtin .max, #[x, y], ts⟩, ty, pos, aft, g⟩ a w (.int k (if p < q then q else p)) w := by
  simp [Run1, execOp, resolve, invoke, builtin, hE.eval hx, hE.eval hy, run_max_int2]
theorem r_min2 {ts : Array TypeId} (hE : EnvD δ n a l) (hx : evl l x = some (.int k p)) (hy : evl l y = some (.int k q)) : Run1 P ⟨dst, .call ⟨.builtin .min, #[x, y], ts⟩, ty, pos, aft, g⟩ a w (.int k (if q < p then q else p)) w := by
  simp [Run1, execOp, resolve, invoke, builtin, hE.eval hx, hE.eval hy, run_min_int2]
end
end Go.Proofs.Ytifobhaccglckaa.Hay
