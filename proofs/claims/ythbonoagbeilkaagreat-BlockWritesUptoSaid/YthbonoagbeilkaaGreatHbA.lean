import Derived.Orders
import Derived.Below
import Derived.WalkKit
import Derived.Laws.Tables
import Derived.RangeFuncFrom
import Derived.RangeFuncLeaves
import Derived.OrdersIn
import Derived.Scope
import Derived.Laws.Append
import Derived.RowKit3
import Derived.Laws.BytesArg
import Derived.Laws.MakeOwn
import Derived.Laws.Strings
import Derived.Laws.Slices
import Derived.Laws.StructEq
import Derived.Lib.Bytealg
import Derived.Laws.Externs
import Derived.Laws.Cover3
namespace Go.Proofs.YthbonoagbeilkaaGreat.Hay
open Go.RowKit (Below)

abbrev M := Nat → Option (List Value)
def M.le (m m' : M) : Prop := ∀ b l, m b = some l → ∃ r, m' b = some (l ++ r)
theorem M.le.refl (m : M) : M.le m m := fun _ l h => ⟨[], by simpa using h⟩
theorem M.le.trans {a b c : M} (h : M.le a b) (k : M.le b c) : M.le a c := fun x l hl => by
  obtain ⟨r, hr⟩ := h x l hl
  obtain ⟨r', hr'⟩ := k x _ hr
  exact ⟨r ++ r', by simpa using hr'⟩
def M.row (m : M) (b o n : Nat) : List Value := match m b with | some l => (l.drop o).take n | none => []
theorem M.row_mono {m m' : M} (h : M.le m m') {b o n : Nat} (hl : (m.row b o n).length = n) (h0 : 0 < n) : m'.row b o n = m.row b o n := by
  unfold M.row at *
  cases hm : m b with
  | none => simp [hm] at hl; omega
  | some l =>
    obtain ⟨r, hr⟩ := h b l hm
    simp only [hm, hr] at *
    rw [List.drop_append]
    simp at hl
    rw [List.take_append_of_le_length (by simp; omega)]

structure Kd (α : Type) where
  sz : Nat
  agg : Bool
  R : M → List Value → α → Prop
  mono : ∀ {m m' cs x}, M.le m m' → R m cs x → R m' cs x
  len : ∀ {m cs x}, R m cs x → cs.length = sz
  one : ∀ {m cs x}, R m cs x → ∀ c ∈ cs, c.oneCell' = true
  pos : 0 < sz
  flat : agg = false → sz = 1

def Kd.val {α : Type} (d : Kd α) (cs : List Value) : Value := if d.agg then .agg cs.toArray else cs.headD undef
def RV {α : Type} (d : Kd α) (m : M) (v : Value) (x : α) : Prop := ∃ cs, d.R m cs x ∧ v = d.val cs
theorem RV.mono {α : Type} {d : Kd α} {m m' : M} {v : Value} {x : α} (h : RV d m v x) (hm : M.le m m') : RV d m' v x := by
  obtain ⟨cs, hr, hv⟩ := h
  exact ⟨cs, d.mono hm hr, hv⟩
theorem Kd.val_cells {α : Type} (d : Kd α) {m : M} {cs : List Value} {x : α} (h : d.R m cs x) : (d.val cs).cells = cs.toArray := by
  unfold Kd.val
  cases ha : d.agg with
  | true => simp [Value.cells]
  | false =>
    have hl := d.len h
    rw [d.flat ha] at hl
    match cs, hl with
    | [c], _ =>
      have h1 := d.one h c (by simp)
      simp
      cases c <;> simp_all [Value.oneCell', Value.cells]
def PR {α : Type} (d : Kd α) (m : M) (v : Value) (x : α) : Prop := ∃ b o, v = .pointer (some ⟨b, o, none⟩) ∧ d.R m (m.row b o d.sz) x
theorem PR.mono {α : Type} {d : Kd α} {m m' : M} {v : Value} {x : α} (h : PR d m v x) (hm : M.le m m') : PR d m' v x := by
  obtain ⟨b, o, hv, hr⟩ := h
  refine ⟨b, o, hv, ?_⟩
  rw [M.row_mono hm (d.len hr) d.pos]
  exact d.mono hm hr

def inR (k : IntKind) (n : Int) : Prop := k.wrap n = n
def kInt (k : IntKind) : Kd Int := {
  sz := 1
  agg := false
  R := fun _ cs n => cs = [.int k n] ∧ inR k n
  mono := fun _ h => h
  len := fun h => by simp [h.1]
  one := fun h => by simp [h.1, Value.oneCell']
  pos := by decide
  flat := fun _ => rfl
  }
def kBool : Kd Bool := {
  sz := 1
  agg := false
  R := fun _ cs b => cs = [.bool b]
  mono := fun _ h => h
  len := fun h => by simp [h]
  one := fun h => by simp [h, Value.oneCell']
  pos := by decide
  flat := fun _ => rfl
  }
def bts (s : List Int) : ByteArray := ⟨(s.map fun n => UInt8.ofNat n.toNat).toArray⟩
def maxSz : Nat := 2 ^ 48
def kStr : Kd (List Int) := {
  sz := 1
  agg := false
  R := fun _ cs s => cs = [.string (bts s)] ∧ (∀ n ∈ s, 0 ≤ n ∧ n < 256) ∧ s.length ≤ maxSz
  mono := fun _ h => h
  len := fun h => by simp [h.1]
  one := fun h => by simp [h.1, Value.oneCell']
  pos := by decide
  flat := fun _ => rfl
  }
def kSl {α : Type} (d : Kd α) : Kd (List α) := {
  sz := 1
  agg := false
  R := fun m cs xs => ∃ a len cap, cs = [.slice a len cap] ∧ len = xs.length ∧ len ≤ cap ∧ xs.length ≤ maxSz ∧
    (match a with
     | none => cap = 0
     | some ad => (0 < cap → ad.spot = none) ∧ ∀ i (h : i < xs.length), d.R m (m.row ad.block (ad.off + i * d.sz) d.sz) xs[i])
  mono := fun {m m' cs xs} hm h => by
    obtain ⟨a, len, cap, h1, h2, h3, h4, h5⟩ := h
    refine ⟨a, len, cap, h1, h2, h3, h4, ?_⟩
    cases a with
    | none => exact h5
    | some ad =>
      refine ⟨h5.1, fun i hi => ?_⟩
      have := h5.2 i hi
      rw [M.row_mono hm (d.len this) d.pos]
      exact d.mono hm this
  len := fun h => by obtain ⟨a, len, cap, h1, _⟩ := h; simp [h1]
  one := fun h => by obtain ⟨a, len, cap, h1, _⟩ := h; simp [h1, Value.oneCell']
  pos := by decide
  flat := fun _ => rfl
  }
def kPair {α β : Type} (d : Kd α) (e : Kd β) : Kd (α × β) := {
  sz := d.sz + e.sz
  agg := true
  R := fun m cs x => d.R m (cs.take d.sz) x.1 ∧ e.R m (cs.drop d.sz) x.2
  mono := fun hm h => ⟨d.mono hm h.1, e.mono hm h.2⟩
  len := fun {m cs x} h => by have h1 := d.len h.1; have h2 := e.len h.2; simp at h1 h2; omega
  one := fun {m cs x} h c hc => by
    rw [← List.take_append_drop d.sz cs] at hc
    rcases List.mem_append.1 hc with h1 | h1
    · exact d.one h.1 c h1
    · exact e.one h.2 c h1
  pos := by have := d.pos; omega
  flat := fun h => by cases h
  }
def kMap {α β : Type} (f : β → α) (d : Kd α) : Kd β := {
  sz := d.sz
  agg := true
  R := fun m cs x => d.R m cs (f x)
  mono := d.mono
  len := d.len
  one := d.one
  pos := d.pos
  flat := fun h => by cases h
  }

def Tail (B : Nat) (m : M) (w : World) (sz : Nat) : Value → Prop
  | .slice none _ _ => True
  | .slice (some ad) len cap => ad.block < w.heap.size ∧ (len = cap ∨ ad.spot = none ∧ B ≤ ad.block ∧ ∃ l c t, m ad.block = some l ∧ l.length = ad.off + len * sz ∧ w.heap[ad.block]? = some (.cells c t (0, 0)) ∧ ad.off + cap * sz ≤ c.size)
  | _ => False
def sblk : Value → Option Nat
  | .slice (some ad) _ _ => some ad.block
  | _ => none
def Apart (v u : Value) : Prop := ∀ b, sblk v = some b → sblk u ≠ some b

structure Bel (B : Nat) (w w' : World) : Prop extends Below B w w' where
  drawn : w.drawn ≤ w'.drawn
theorem Bel.refl (B : Nat) (w : World) : Bel B w w := ⟨Below.refl B w, Nat.le_refl _⟩
theorem Bel.trans {B : Nat} {a b c : World} (h : Bel B a b) (k : Bel B b c) : Bel B a c := ⟨h.toBelow.trans k.toBelow, Nat.le_trans h.drawn k.drawn⟩
theorem Bel.drew {B : Nat} {a w : World} (h : Bel B a w) : Bel B a w.drew := ⟨h.toBelow.drew, Nat.le_succ_of_le h.drawn⟩
theorem Bel.alloc {B : Nat} {a w : World} (h : Bel B a w) (hB : B ≤ w.heap.size) (o : Obj) : Bel B a (w.alloc o) := ⟨h.toBelow.alloc hB o, h.drawn⟩

structure Bse where
  w : World
  keep : Nat → Option Obj
abbrev Bse.heap (W0 : Bse) : Array Obj := W0.w.heap
structure Blw (W0 : Bse) (w : World) : Prop extends Bel W0.heap.size W0.w w where
  kept : ∀ (k : Nat) (o : Obj), W0.keep k = some o → w.heap[k]? = some o ∧ o.isCells = false
theorem Blw.step {W0 : Bse} {w w' : World} (h : Blw W0 w) (hb : Bel W0.heap.size w w') (hk : ∀ (k : Nat) (o : Obj), w.heap[k]? = some o → o.isCells = false → w'.heap[k]? = some o) : Blw W0 w' :=
  ⟨h.toBel.trans hb, fun k o ho => ⟨hk k o (h.kept k o ho).1 (h.kept k o ho).2, (h.kept k o ho).2⟩⟩
theorem Blw.drew {W0 : Bse} {w : World} (h : Blw W0 w) : Blw W0 w.drew := ⟨h.toBel.drew, h.kept⟩
theorem Blw.alloc {W0 : Bse} {w : World} (h : Blw W0 w) (hB : W0.heap.size ≤ w.heap.size) (o : Obj) : Blw W0 (w.alloc o) :=
  h.step ((Bel.refl _ w).alloc hB o) fun k o' ho _ => by
    have := (Array.getElem?_eq_some_iff.1 ho).1
    show (w.heap.push o)[k]? = _
    rw [Array.getElem?_push, if_neg (by omega)]; exact ho
structure S (W0 : Bse) (m : M) (w : World) (L : List (Nat × List Value)) (TL : List (Nat × Value)) : Prop where
  below : Blw W0 w
  imm : ∀ b l, m b = some l → ∃ c t fr r, w.heap[b]? = some (.cells c t fr) ∧ c.toList = l ++ r
  own : ∀ (i : Nat) (e : Nat × List Value), L[i]? = some e → e.2 ≠ [] → W0.heap.size ≤ e.1 ∧ m e.1 = none ∧ ∃ t, w.heap[e.1]? = some (.cells e.2.toArray t (0, 0))
  nodup : ∀ (i j : Nat) (e e' : Nat × List Value), L[i]? = some e → L[j]? = some e' → i ≠ j → e.2 ≠ [] → e'.2 ≠ [] → e.1 ≠ e'.1
  tails : ∀ (i : Nat) (e : Nat × Value), TL[i]? = some e → Tail W0.heap.size m w e.1 e.2
  apart : ∀ (i j : Nat) (e e' : Nat × Value), TL[i]? = some e → TL[j]? = some e' → i ≠ j → Apart e.2 e'.2

section
variable {W0 : Bse} {m : M} {w : World} {L : List (Nat × List Value)} {TL : List (Nat × Value)}
theorem S.drew (h : S W0 m w L TL) : S W0 m w.drew L TL :=
  ⟨h.below.drew, h.imm, h.own, h.nodup, fun i e he => by
    have := h.tails i e he
    revert this
    cases e with | mk s v => cases v <;> intro h <;> exact h, h.apart⟩
theorem S.lt (h : S W0 m w L TL) {b : Nat} {l : List Value} (hb : m b = some l) : b < w.heap.size := by
  obtain ⟨c, t, fr, r, hc, _⟩ := h.imm b l hb
  exact (Array.getElem?_eq_some_iff.1 hc).1
theorem S.fresh (h : S W0 m w L TL) {b : Nat} (hb : w.heap.size ≤ b) : m b = none := by
  cases hm : m b with
  | none => rfl
  | some l => have := h.lt hm; omega
theorem S.dropL (h : S W0 m w L TL) (k : Nat) : S W0 m w (L.drop k) TL :=
  ⟨h.below, h.imm, fun i e he => h.own (k + i) e (by simpa using he), fun i j e e' he he' hij => h.nodup (k + i) (k + j) e e' (by simpa using he) (by simpa using he') (by omega), h.tails, h.apart⟩
theorem S.dropT (h : S W0 m w L TL) (k : Nat) : S W0 m w L (TL.drop k) :=
  ⟨h.below, h.imm, h.own, h.nodup, fun i e he => h.tails (k + i) e (by simpa using he), fun i j e e' he he' hij => h.apart (k + i) (k + j) e e' (by simpa using he) (by simpa using he') (by omega)⟩
theorem S.selL (h : S W0 m w L TL) (L' : List (Nat × List Value)) (f : Nat → Nat) (hf : ∀ i e, L'[i]? = some e → L[f i]? = some e) (hi : ∀ i j, f i = f j → i = j) : S W0 m w L' TL :=
  ⟨h.below, h.imm, fun i e he => h.own (f i) e (hf i e he), fun i j e e' he he' hij => h.nodup (f i) (f j) e e' (hf i e he) (hf j e' he') (fun e => hij (hi _ _ e)), h.tails, h.apart⟩
theorem S.selT (h : S W0 m w L TL) (TL' : List (Nat × Value)) (f : Nat → Nat) (hf : ∀ i e, TL'[i]? = some e → TL[f i]? = some e) (hi : ∀ i j, f i = f j → i = j) : S W0 m w L TL' :=
  ⟨h.below, h.imm, h.own, h.nodup, fun i e he => h.tails (f i) e (hf i e he), fun i j e e' he he' hij => h.apart (f i) (f j) e e' (hf i e he) (hf j e' he') (fun e => hij (hi _ _ e))⟩
theorem S.nilT (h : S W0 m w L TL) (sz l c : Nat) : S W0 m w L ((sz, .slice none l c) :: TL) :=
  ⟨h.below, h.imm, h.own, h.nodup, fun i e he => by
    cases i with
    | zero => simp at he; subst he; trivial
    | succ i => exact h.tails i e (by simpa using he),
   fun i j e e' he he' hij => by
    cases i with
    | zero => simp at he; subst he; intro b hb; simp [sblk] at hb
    | succ i =>
      cases j with
      | zero => simp at he'; subst he'; intro b hb; simp [sblk]
      | succ j => exact h.apart i j e e' (by simpa using he) (by simpa using he') (by omega)⟩

theorem tail_heap {B sz : Nat} {v : Value} {w' : World} (hw : ∀ b, b < w.heap.size → w'.heap[b]? = w.heap[b]?) (h : Tail B m w sz v) : Tail B m w' sz v := by
  cases v <;> try exact h
  rename_i a len cap
  cases a with
  | none => trivial
  | some ad =>
    obtain ⟨hlt, h⟩ := h
    have hlt' : ad.block < w'.heap.size := by
      have := hw _ hlt
      rw [Array.getElem?_eq_getElem hlt] at this
      exact (Array.getElem?_eq_some_iff.1 this).1
    refine ⟨hlt', ?_⟩
    rcases h with h | ⟨h0, h1, l, c, t, h2, h3, h4, h5⟩
    · exact .inl h
    · exact .inr ⟨h0, h1, l, c, t, h2, h3, by rw [hw _ hlt]; exact h4, h5⟩
theorem tail_m {B sz : Nat} {v : Value} {m' : M} (hm : ∀ b, b < w.heap.size → m' b = m b) (h : Tail B m w sz v) : Tail B m' w sz v := by
  cases v <;> try exact h
  rename_i a len cap
  cases a with
  | none => trivial
  | some ad =>
    obtain ⟨hlt, h⟩ := h
    refine ⟨hlt, ?_⟩
    rcases h with h | ⟨h0, h1, l, c, t, h2, h3, h4, h5⟩
    · exact .inl h
    · exact .inr ⟨h0, h1, l, c, t, by rw [hm _ hlt]; exact h2, h3, h4, h5⟩
theorem tail_lt {B sz b : Nat} {v : Value} (h : Tail B m w sz v) (hv : sblk v = some b) : b < w.heap.size := by
  cases v <;> simp [sblk] at hv
  rename_i a len cap
  cases a with
  | none => simp at hv
  | some ad => simp at hv; subst hv; exact h.1
theorem alloc_old (w : World) (o : Obj) (b : Nat) (h : b < w.heap.size) : (w.alloc o).heap[b]? = w.heap[b]? := by
  show (w.heap.push o)[b]? = _
  rw [Array.getElem?_push, if_neg (by omega)]
theorem alloc_new (w : World) (o : Obj) : (w.alloc o).heap[w.heap.size]? = some o := by
  show (w.heap.push o)[w.heap.size]? = _
  simp
theorem S.allocL (h : S W0 m w L TL) (cs : List Value) (t : TypeId) : S W0 m (w.alloc (.cells cs.toArray t)) ((w.heap.size, cs) :: L) TL := by
  have hB : W0.heap.size ≤ w.heap.size := h.below.size
  refine ⟨h.below.alloc hB _, fun b l hb => ?_, fun i e he hv => ?_, fun i j e e' he he' hij hv hv' => ?_, fun i (e : Nat × Value) he => tail_heap (alloc_old w _) (h.tails i e he), h.apart⟩
  · rw [alloc_old w _ b (h.lt hb)]; exact h.imm b l hb
  · cases i with
    | zero =>
      simp at he; subst he
      exact ⟨hB, h.fresh (Nat.le_refl _), t, alloc_new w _⟩
    | succ i =>
      obtain ⟨h1, h2, t', h3⟩ := h.own i e (by simpa using he) hv
      exact ⟨h1, h2, t', by rw [alloc_old w _ _ (Array.getElem?_eq_some_iff.1 h3).1]; exact h3⟩
  · have key : ∀ (i : Nat) (e : Nat × List Value), L[i]? = some e → e.2 ≠ [] → w.heap.size ≠ e.1 := fun i e he hv => by
      obtain ⟨_, _, t', h3⟩ := h.own i e he hv
      have := (Array.getElem?_eq_some_iff.1 h3).1
      omega
    cases i with
    | zero =>
      simp at he; subst he
      cases j with
      | zero => omega
      | succ j => exact key j e' (by simpa using he') hv'
    | succ i =>
      cases j with
      | zero => simp at he'; subst he'; exact fun x => key i e (by simpa using he) hv x.symm
      | succ j => exact h.nodup i j e e' (by simpa using he) (by simpa using he') (by omega) hv hv'
def M.put (m : M) (b : Nat) (l : List Value) : M := fun k => if k = b then some l else m k
theorem M.le_put {m : M} {b : Nat} (l : List Value) (h : m b = none) : M.le m (m.put b l) := fun k r hk => ⟨[], by
  unfold M.put
  split
  · rename_i e; subst e; rw [h] at hk; cases hk
  · simpa using hk⟩
theorem M.put_same (m : M) (b : Nat) (l : List Value) : m.put b l b = some l := by simp [M.put]
theorem M.put_other (m : M) {b k : Nat} (l : List Value) (h : k ≠ b) : m.put b l k = m k := by simp [M.put, h]
theorem S.allocM (h : S W0 m w L TL) (cs : List Value) (t : TypeId) : M.le m (m.put w.heap.size cs) ∧ S W0 (m.put w.heap.size cs) (w.alloc (.cells cs.toArray t)) L TL := by
  have hB : W0.heap.size ≤ w.heap.size := h.below.size
  have hn : m w.heap.size = none := h.fresh (Nat.le_refl _)
  refine ⟨M.le_put _ hn, h.below.alloc hB _, fun b l hb => ?_, fun i e he hv => ?_, h.nodup, fun i e he => ?_, h.apart⟩
  · by_cases e : b = w.heap.size
    · subst e
      rw [M.put_same] at hb; injection hb with hb; subst hb
      exact ⟨cs.toArray, t, (0, 0), [], alloc_new w _, by simp⟩
    · rw [M.put_other _ _ e] at hb
      rw [alloc_old w _ b (h.lt hb)]; exact h.imm b l hb
  · obtain ⟨h1, h2, t', h3⟩ := h.own i e he hv
    have hlt := (Array.getElem?_eq_some_iff.1 h3).1
    exact ⟨h1, by rw [M.put_other _ _ (by omega)]; exact h2, t', by rw [alloc_old w _ _ hlt]; exact h3⟩
  · exact tail_heap (alloc_old w _) (tail_m (w := w) (m := m) (fun b hb => M.put_other _ _ (by omega)) (h.tails i e he))
end
end Go.Proofs.YthbonoagbeilkaaGreat.Hay
namespace Go.Proofs.YthbonoagbeilkaaGreat.Hay
open Go.RowKit (Below)

def lk : List (Nat × Value) → Nat → Option Value
 | [], _ => none
 | (i, v) :: l, j => match Nat.beq i j with | true => some v | false => lk l j
structure EnvD (δ : List Nat) (n : Nat) (a : Act) (l : List (Nat × Value)) : Prop where
 defers : a.defers = δ.map fun D => { target := .collected D, args := #[] }
 size : a.tmps.size = n
 at_ : ∀ j v, lk l j = some v → a.tmps.getD j undef = v
abbrev Env (n : Nat) (a : Act) (l : List (Nat × Value)) : Prop := EnvD [] n a l
def evl (l : List (Nat × Value)) : Operand → Option Value
 | .tmp t => lk l t
 | .const v => some v
 | .global g => some (.pointer (some ⟨g, 0, none⟩))
 | .func f => some (.func (.func f) #[] #[])
section
variable {δ : List Nat} {ro : Option Nat} {n : Nat} {a : Act} {l : List (Nat × Value)}
theorem EnvD.eval (h : EnvD δ n a l) {x : Operand} {v : Value} (hx : evl l x = some v) : a.eval x = v := by
 cases x with
 | tmp t => exact h.at_ t v hx
 | const v' => injection hx
 | global g => injection hx
 | func f => injection hx
theorem EnvD.put (h : EnvD δ n a l) {d : Nat} (hd : Nat.blt d n = true) (v : Value) : EnvD δ n (a.put (some d) v) ((d, v) :: l) := by
 have hd' : d < n := Nat.le_of_ble_eq_true hd
 refine ⟨h.defers, by simp [Act.put, h.size], fun j u hj => ?_⟩
 simp only [lk] at hj
 split at hj
 ·rename_i e
  have e' := Nat.eq_of_beq_eq_true e
  subst e'
  injection hj with hj
  subst hj
  simp [Act.put, h.size, hd']
 ·rename_i e
  have e' : d ≠ j := fun x => by subst x; simp at e
  have := h.at_ j u hj
  simpa [Act.put, Array.getElem?_setIfInBounds_ne e'] using this
theorem EnvD.sub (h : EnvD δ n a l) {l' : List (Nat × Value)} (hs : ∀ e ∈ l', lk l e.1 = some e.2) : EnvD δ n a l' :=
 ⟨h.defers, h.size, fun j v hj => h.at_ j v (by
  clear h
  induction l' with
  | nil => simp [lk] at hj
  | cons e r ih =>
   obtain ⟨i, u⟩ := e
   simp only [lk] at hj
   split at hj
   ·rename_i e
    have e' := Nat.eq_of_beq_eq_true e
    subst e'
    injection hj with hj
    subst hj
    exact hs (i, u) (by simp)
   ·exact ih (fun e he => hs e (by simp [he])) hj)⟩
end

def Fr (ro : Option Nat) : Fence := { Fence.wide with round := ro }
abbrev wpL (ro : Option Nat) (P : Program) (ops : Array Oper) (Q : Exit → Act → World → Prop) (rest : List Oper) (a : Act) (w : World) : Prop := wpListIn (Fr ro) 0 P ops Q rest a w
theorem semAt_value {ro : Option Nat} {P : Program} {o : Oper} {ρ : Operand → Value} {w w' : World} {x : Next} (h : (execOp ρ o).run P w = .ok x w') (hx : ∀ d, x ≠ .defer d) : (o.semAt ro ρ).run P w = .ok x w' := by
 cases ro with
 | none => exact h
 | some l =>
  rw [Oper.semAt_some]
  ·exact h
  ·intro c hc
   obtain ⟨d, op, ty, pos, af, g⟩ := o
   simp only at hc
   subst hc
   simp only [execOp, Sem.run_bind] at h
   cases hr : (resolve ρ c ty).run P w with
   | ok d' w1 =>
    rw [hr] at h
    simp only [Result.andThen_ok, Sem.run_pure] at h
    injection h with h1 h2
    exact hx _ h1.symm
   | halt x' w1 => rw [hr] at h; cases h
theorem wpR_value {ro : Option Nat} {P : Program} {o : Oper} {a : Act} {w w' : World} {v : Value} {K : Act → World → Prop} {Q : Exit → Act → World → Prop} (h : (execOp a.eval o).run P w = .ok (.value v) w') (hK : K (a.put o.dst v) w') : o.wpIn (Fr ro) 0 P a w K Q := by
 refine ⟨fun _ _ => trivial, ?_⟩
 show o.uponIn _ _ _ _ _ _ ((o.semAt ro a.eval).run P w)
 rw [semAt_value h (fun d => by simp)]
 exact hK
theorem wpR_skip {ro : Option Nat} {P : Program} {o : Oper} {a : Act} {w w' : World} {K : Act → World → Prop} {Q : Exit → Act → World → Prop} (h : (execOp a.eval o).run P w = .ok .skip w') (hK : K (a.put o.dst undef) w') : o.wpIn (Fr ro) 0 P a w K Q := by
 refine ⟨fun _ _ => trivial, ?_⟩
 show o.uponIn _ _ _ _ _ _ ((o.semAt ro a.eval).run P w)
 rw [semAt_value h (fun d => by simp)]
 exact hK
theorem calls_in {ro : Option Nat} {n : Nat} {P : Program} {f : FuncId} {args : Array Value} {w : World} {R : Ending → World → Prop} (h : Calls P f args w R) : CallsIn (Fr ro) n P f args w R := (callsIn_wide (n := n)).2 h
theorem calls_out {n : Nat} {P : Program} {f : FuncId} {args : Array Value} {w : World} {R : Ending → World → Prop} (h : CallsIn (Fr none) n P f args w R) : Calls P f args w R := (callsIn_wide (n := n)).1 h
theorem wpR_enter {ro : Option Nat} {P : Program} {o : Oper} {a : Act} {w w' : World} {f : FuncId} {args : Array Value} {K : Act → World → Prop} {Q : Exit → Act → World → Prop} (h : (execOp a.eval o).run P w = .ok (.enter f args) w')
  (hc : Calls P f args w' fun e w'' => match e with | .returned v => K (a.put o.dst v) w'' | _ => False) : o.wpIn (Fr ro) 0 P a w K Q := by
 refine ⟨fun _ _ => trivial, ?_⟩
 show o.uponIn _ _ _ _ _ _ ((o.semAt ro a.eval).run P w)
 rw [semAt_value h (fun d => by simp)]
 refine ⟨fun h => (by cases h), (calls_in hc).mono fun e w'' he => ?_⟩
 cases e with
 | returned v => exact he
 | panicked ch => exact he.elim
 | outgrown => exact he.elim
def Run1 (P : Program) (o : Oper) (a : Act) (w : World) (v : Value) (w' : World) : Prop := (execOp a.eval o).run P w = .ok (.value v) w'
def Run0 (P : Program) (o : Oper) (a : Act) (w w' : World) : Prop := (execOp a.eval o).run P w = .ok .skip w'
theorem Run1.wp {ro : Option Nat} {P : Program} {o : Oper} {a : Act} {w w' : World} {v : Value} {K : Act → World → Prop} {Q : Exit → Act → World → Prop} (h : Run1 P o a w v w') (hK : K (a.put o.dst v) w') : o.wpIn (Fr ro) 0 P a w K Q := wpR_value h hK
theorem Run0.wp {ro : Option Nat} {P : Program} {o : Oper} {a : Act} {w w' : World} {K : Act → World → Prop} {Q : Exit → Act → World → Prop} (h : Run0 P o a w w') (hK : K (a.put o.dst undef) w') : o.wpIn (Fr ro) 0 P a w K Q := wpR_skip h hK
section
variable {δ : List Nat} {ro : Option Nat} {P : Program} {ops : Array Oper} {Q : Exit → Act → World → Prop} {rest : List Oper} {n : Nat} {a : Act} {l : List (Nat × Value)} {w w' : World} {d : Nat} {op : Op} {ty : TypeId} {pos : String} {aft : Array Edge} {v : Value}
theorem sv (hE : EnvD δ n a l) (hr : Run1 P ⟨some d, op, ty, pos, aft, none⟩ a w v w') (hd : Nat.blt d n = true) (k : ∀ a', EnvD δ n a' ((d, v) :: l) → wpL ro P ops Q rest a' w') :
  wpL ro P ops Q (⟨some d, op, ty, pos, aft, none⟩ :: rest) a w :=
 wpListIn_plain rfl fun _ hK => hr.wp (hK _ _ (k _ (hE.put hd v)))
theorem yielded_of (hE : EnvD δ n a l) {o : Oper} {g dg : Nat} {b : Bool} (hg : ops[g]? = some o) (ho : o.dst = some dg) (hd : Nat.blt dg n = true) (hl : lk l dg = some (.bool b)) : yielded ops a.tmps g = some b := by
 have h1 := hE.at_ dg _ hl
 have hd' : dg < n := Nat.le_of_ble_eq_true hd
 have h2 : a.tmps[dg]? = some (.bool b) := by
  have hs := hE.size
  rw [Array.getD_eq_getD_getElem?] at h1
  have : dg < a.tmps.size := by omega
  rw [Array.getElem?_eq_getElem this] at h1 ⊢
  simpa using h1
 simp [yielded, hg, ho, h2]
theorem sx {g : Nat} {b b' : Bool} {o : Oper} {dg : Nat} (hE : EnvD δ n a l) (hg : ops[g]? = some o) (ho : o.dst = some dg) (hdg : Nat.blt dg n = true) (hl : lk l dg = some (.bool b)) (hb : b = !b')
  (hd : Nat.blt d n = true) (k : ∀ a', EnvD δ n a' ((d, undef) :: l) → wpL ro P ops Q rest a' w) :
  wpL ro P ops Q (⟨some d, op, ty, pos, aft, some (g, b')⟩ :: rest) a w :=
 wpListIn_step fun K hK => by
  have : (some b == some b') = false := by subst hb; cases b' <;> rfl
  simp only [Region.wanted, yielded_of hE hg ho hdg hl, this, Bool.false_eq_true, if_false]
  exact ⟨fun _ _ => trivial, hK _ _ (k _ (hE.put hd undef))⟩

theorem wpR_scope {Q' : Exit → Act → World → Prop} {c : Code} (h : c.wpIn (Fr ro) 0 P (Exit.noGoto Q') a w) : (Code.scope c).wpIn (Fr ro) 0 P Q' a w := by
 intro b k cs hro hb hr
 have h0 : (lone (b.atR a (.code (.scope c) :: k)) cs w).fenced P (Fr ro) := fenced_calm hb hr rfl
 have hs : step P (lone (b.atR a (.code (.scope c) :: k)) cs w) = .next (lone (b.atR a (.code c :: .inScope c :: k)) cs w) := step_lone_go (by simp [stepG, stepG.exec, Frame.atR])
 have hi : ∀ a₁ w₁, step P (lone (b.atR a₁ (.inScope c :: k)) cs w₁) = .next (lone (b.atR a₁ k) cs w₁) := fun a₁ w₁ => step_lone_go (by simp [stepG, stepG.exec, Frame.atR])
 obtain ⟨e, a₁, w₁, hq, harr⟩ := h b (.inScope c :: k) cs hro hb hr
 cases e with
 | normal => exact ⟨.normal, a₁, w₁, hq, .head h0 hs (StepsIn.trans harr (.one (fenced_calm hb hr rfl) (hi a₁ w₁)))⟩
 | exit id =>
  have hx : exitTo id (.inScope c :: k) = exitTo id k := by simp [exitTo]
  exact ⟨.exit id, a₁, w₁, hq, fun k' hk => .head h0 hs (harr.1 k' (by rw [hx]; exact hk)), fun hr' hk => let ⟨k₁, h1, h2⟩ := harr.2 hr' (by rw [hx]; exact hk); ⟨k₁, h1, .head h0 hs h2⟩⟩
 | goto l => exact hq.elim
 | ret => exact ⟨_, a₁, w₁, hq, .of_steps (.one h0 hs) harr⟩
 | panic ch => exact ⟨_, a₁, w₁, hq, .of_steps (.one h0 hs) harr⟩
 | outgrown => exact ⟨_, a₁, w₁, hq, .of_steps (.one h0 hs) harr⟩
def mkQ (N : Act → World → Prop) (X : List (Nat × (Act → World → Prop))) (Rt : Act → World → Prop) : Exit → Act → World → Prop
 | .normal, a, w => N a w
 | .exit id, a, w => match X.find? (fun e => Nat.beq e.1 id) with | some e => e.2 a w | none => False
 | .ret, a, w => Rt a w
 | _, _, _ => False
def K (ro : Option Nat) (P : Program) (c : Code) (N : Act → World → Prop) (X : List (Nat × (Act → World → Prop))) (Rt : Act → World → Prop) (a : Act) (w : World) : Prop := c.wpIn (Fr ro) 0 P (mkQ N X Rt) a w
variable {δ : List Nat} {ro : Option Nat} {N N' Rt : Act → World → Prop} {X : List (Nat × (Act → World → Prop))} {c x y z : Code} {id : Nat}
theorem K.mono (h : K ro P c N X Rt a w) (hN : ∀ a w, N a w → N' a w) : K ro P c N' X Rt a w :=
 wpIn_mono h fun e a w q => by cases e <;> first | exact hN _ _ q | exact q
theorem kseq (h : K ro P x (fun a w => K ro P y N X Rt a w) X Rt a w) : K ro P (.seq x y) N X Rt a w :=
 wpIn_seq (wpIn_mono h fun e a w q => by cases e <;> exact q)
theorem kskip (h : N a w) : K ro P .skip N X Rt a w := wpIn_skip h
theorem klabel {i : Nat} (h : N a w) : K ro P (.label i) N X Rt a w := wpIn_label h
theorem kret (h : Rt a w) : K ro P .ret N X Rt a w := wpIn_ret h
theorem kexit {k : Act → World → Prop} {e : Nat × (Act → World → Prop)} (hx : X.find? (fun e => Nat.beq e.1 id) = some e) (hk : e.2 = k) (h : k a w) : K ro P (.exit id) N X Rt a w :=
 wpIn_exit (by simp only [mkQ, hx]; rw [hk]; exact h)
theorem kblock (h : K ro P c N ((id, N) :: X) Rt a w) : K ro P (.block id c) N X Rt a w :=
 wpIn_block (wpIn_mono h fun e a w q => by
  cases e with
  | exit j =>
   simp only [Exit.inBlock]
   split
   ·rename_i e; subst e; simpa [mkQ] using q
   ·rename_i e
    have : Nat.beq id j = false := by
     cases hb : Nat.beq id j with
     | false => rfl
     | true => exact absurd (Nat.eq_of_beq_eq_true hb).symm e
    simpa [mkQ, this] using q
  | _ => exact q)
theorem kcut (J : Act → World → Prop) (h : K ro P c J X Rt a w) (k : ∀ a w, J a w → N a w) : K ro P c N X Rt a w := h.mono k
theorem kif (hE : EnvD δ n a l) {cnd : Operand} {b : Bool} (hc : evl l cnd = some (.bool b)) (ht : b = true → K ro P x N X Rt a w) (hf : b = false → K ro P y N X Rt a w) : K ro P (.cond cnd x y) N X Rt a w :=
 wpIn_cond_split (hE.eval hc) ht hf
theorem kscope (h : K ro P c N X Rt a w) : K ro P (.scope c) N X Rt a w :=
 wpR_scope (wpIn_mono h fun e a w q => by cases e <;> exact q)
theorem kreg {lo : List Oper} (h : wpL ro P lo.toArray (mkQ N X Rt) lo a w) : K ro P (.region id lo.toArray false) N X Rt a w := wpIn_region_lit h
theorem knil (h : N a w) : wpL ro P ops (mkQ N X Rt) [] a w := wpListIn_nil h
end

def iterN {σ β : Type} (f : σ → Option (σ ⊕ β)) : Nat → σ → Option β
 | 0, _ => none
 | n + 1, s => match f s with
  | none => none
  | some (.inl s') => iterN f n s'
  | some (.inr b) => some b
open Classical in
noncomputable def loopO {σ β : Type} (f : σ → Option (σ ⊕ β)) (s : σ) : Option β :=
 if h : ∃ b, ∃ n, iterN f n s = some b then some h.choose else none
theorem iterN_succ {σ β : Type} {f : σ → Option (σ ⊕ β)} : ∀ {n : Nat} {s : σ} {b : β}, iterN f n s = some b → iterN f (n + 1) s = some b
 | 0, _, _, h => by cases h
 | n + 1, s, b, h => by
  unfold iterN at h ⊢
  cases hs : f s with
  | none => simp [hs] at h
  | some r =>
   cases r with
   | inl s' => simp only [hs] at h ⊢; exact iterN_succ h
   | inr b' => simpa [hs] using h
theorem iterN_le {σ β : Type} {f : σ → Option (σ ⊕ β)} {n k : Nat} {s : σ} {b : β} (h : iterN f n s = some b) (hk : n ≤ k) : iterN f k s = some b := by
 induction hk with
 | refl => exact h
 | step _ ih => exact iterN_succ ih
theorem iterN_one {σ β : Type} {f : σ → Option (σ ⊕ β)} {n k : Nat} {s : σ} {b c : β} (h : iterN f n s = some b) (h' : iterN f k s = some c) : b = c := by
 have h1 := iterN_le h (Nat.le_max_left n k)
 have h2 := iterN_le h' (Nat.le_max_right n k)
 rw [h1] at h2
 injection h2
theorem loopO_iff {σ β : Type} {f : σ → Option (σ ⊕ β)} {s : σ} {b : β} : loopO f s = some b ↔ ∃ n, iterN f n s = some b := by
 unfold loopO
 constructor
 ·intro h
  split at h
  ·rename_i hx
   injection h with h
   have := hx.choose_spec
   rw [h] at this
   exact this
  ·cases h
 ·intro ⟨n, hn⟩
  have hx : ∃ b, ∃ n, iterN f n s = some b := ⟨b, n, hn⟩
  rw [dif_pos hx]
  obtain ⟨k, hk⟩ := hx.choose_spec
  rw [iterN_one hk hn]
theorem loopO_eq {σ β : Type} (f : σ → Option (σ ⊕ β)) (s : σ) : loopO f s = match f s with | none => none | some (.inl s') => loopO f s' | some (.inr b) => some b := by
 apply Option.ext
 intro b
 rw [loopO_iff]
 constructor
 ·rintro ⟨n, hn⟩
  cases n with
  | zero => cases hn
  | succ n =>
   unfold iterN at hn
   cases hs : f s with
   | none => simp [hs] at hn
   | some r =>
    cases r with
    | inl s' => simp only [hs] at hn ⊢; exact loopO_iff.2 ⟨n, hn⟩
    | inr b' => simpa [hs] using hn
 ·intro h
  split at h
  ·cases h
  ·rename_i s' hs
   obtain ⟨n, hn⟩ := loopO_iff.1 h
   exact ⟨n + 1, by simp [iterN, hs, hn]⟩
  ·rename_i b' hs
   exact ⟨1, by simpa [iterN, hs] using h⟩
theorem loopO_go {σ β : Type} {f : σ → Option (σ ⊕ β)} {s s' : σ} (h : f s = some (.inl s')) : loopO f s = loopO f s' := by rw [loopO_eq, h]
theorem loopO_end {σ β : Type} {f : σ → Option (σ ⊕ β)} {s : σ} {b : β} (h : f s = some (.inr b)) : loopO f s = some b := by rw [loopO_eq, h]

section
variable {δ : List Nat} {ro : Option Nat} {P : Program} {n : Nat} {a : Act} {l : List (Nat × Value)} {w : World} {N Rt : Act → World → Prop} {X : List (Nat × (Act → World → Prop))} {c : Code}
theorem kloop {σ β : Type} {f : σ → Option (σ ⊕ β)} {s : σ} {o : β} (hl : loopO f s = some o) (I : σ → Act → World → Prop) (h0 : I s a w)
  (round : ∀ s a w, I s a w → ∀ r, f s = some r → (∀ o', r = .inr o' → o' = o) → K ro P c (fun a' w' => ∃ s', r = .inl s' ∧ I s' a' w') X Rt a w) : K ro P (.loop c) N X Rt a w := by
 obtain ⟨k, hk⟩ := loopO_iff.1 hl
 clear hl
 intro b kk cs hro hb hrm
 have key : ∀ k s a w, iterN f k s = some o → I s a w →
   ∃ e a' w', mkQ N X Rt e a' w' ∧ ArrivesIn (Machine.fenced P (Fr ro)) P (lone (b.atR a (.code c :: .inLoop c :: kk)) cs w) b kk cs e a' w' := by
  intro k
  induction k with
  | zero => intro s a w hk _; cases hk
  | succ k ih =>
   intro s a w hk hI
   rw [iterN] at hk
   cases hf : f s with
   | none => simp [hf] at hk
   | some r =>
    have hr := round s a w hI r hf (fun o' ho => by subst ho; simpa [hf] using hk) b (.inLoop c :: kk) cs hro hb hrm
    obtain ⟨e, a₁, w₁, hq, harr⟩ := hr
    cases e with
    | normal =>
     obtain ⟨s', hs', hI'⟩ := hq
     subst hs'
     simp only [hf] at hk
     obtain ⟨e₂, a₂, w₂, hq₂, harr₂⟩ := ih s' a₁ w₁ hk hI'
     exact ⟨e₂, a₂, w₂, hq₂, .of_steps (StepsIn.trans harr (.one (fenced_calm hb hrm rfl) stepR_inLoop)) harr₂⟩
    | exit id => exact ⟨.exit id, a₁, w₁, hq, .pass (x := .inLoop c) rfl (fun _ _ => .inl (by simp)) harr⟩
    | goto l => exact hq.elim
    | ret => exact ⟨.ret, a₁, w₁, hq, .pass (x := .inLoop c) rfl (fun _ _ => .inl (by simp)) harr⟩
    | panic ch => exact hq.elim
    | outgrown => exact hq.elim
 obtain ⟨e, a', w', hq, harr⟩ := key k s a w hk h0
 exact ⟨e, a', w', hq, .of_steps (.one (fenced_calm hb hrm rfl) stepR_loop) harr⟩

def Ret (R : Value → World → Prop) : Ending → World → Prop
 | .returned v, w => R v w
 | _, _ => False
def tup : List Value → Value
 | [v] => v
 | vs => .tuple vs.toArray
def Fin (P : Program) (fn : Func) (R : Value → World → Prop) (a : Act) (w : World) : Prop := ∃ vs, (results fn a.tmps).run P w = .ok vs w ∧ a.defers = [] ∧ R vs w
theorem env_args {fn : Func} {args : List Value} {n : Nat} (hn : fn.ntmps = n) (hle : args.length ≤ n) : Env n { tmps := args.toArray ++ Array.replicate (fn.ntmps - args.toArray.size) undef, defers := [] } ((List.range args.length).zip args) := by
 refine ⟨rfl, by simp [hn]; omega, fun j v hj => ?_⟩
 have key : ∀ (l : List Value) (k : Nat), lk ((List.range' k l.length).zip l) j = some v → k ≤ j ∧ l[j - k]? = some v := by
  intro l
  induction l with
  | nil => intro k h; simp [lk] at h
  | cons x r ih =>
   intro k h
   simp only [List.length_cons, List.range'_succ, List.zip_cons_cons, lk] at h
   split at h
   ·rename_i e
    have e' := Nat.eq_of_beq_eq_true e
    subst e'
    simpa using h
   ·obtain ⟨h1, h2⟩ := ih (k + 1) h
    refine ⟨by omega, ?_⟩
    rw [show j - k = (j - (k + 1)) + 1 by omega]
    simpa using h2
 rw [List.range_eq_range'] at hj
 obtain ⟨_, h2⟩ := key args 0 hj
 simp only [Nat.sub_zero] at h2
 have hlt : j < args.length := (List.getElem?_eq_some_iff.1 h2).1
 have h3 : args[j] = v := by simpa [hlt] using h2
 simp [Array.getD_eq_getD_getElem?, Array.getElem?_append, hlt, h3]
theorem kcall {P : Program} {f : FuncId} {fn : Func} {c : Code} {args : List Value} {n : Nat} {w : World} {R : Value → World → Prop} (hf : P.funcs[f]? = some fn) (hb : fn.body = some c) (hn : fn.ntmps = n) (hle : args.length ≤ n)
  (h : ∀ a, Env n a ((List.range args.length).zip args) → K none P c (Fin P fn R) [] (Fin P fn R) a w) :
  Calls P f args.toArray w (Ret R) := by
 refine calls_of_wp hf hb (wpIn_wide.1 (wpIn_mono (h _ (env_args hn hle)) fun e a w q => ?_))
 ·cases e with
  | normal => obtain ⟨vs, h1, h2, h3⟩ := q; exact ⟨h2, vs, h1, h3⟩
  | ret => obtain ⟨vs, h1, h2, h3⟩ := q; exact ⟨h2, vs, h1, h3⟩
  | exit id => simp [mkQ] at q
  | goto l => exact q.elim
  | panic ch => exact q.elim
  | outgrown => exact q.elim
end
section
variable {δ : List Nat} {ro : Option Nat} {P : Program} {n : Nat} {a : Act} {l : List (Nat × Value)} {w : World} {dst : Option Tmp} {ty : TypeId} {pos : String} {aft : Array Edge} {g : Option (Nat × Bool)}
def argl (l : List (Nat × Value)) (xs : Array Operand) : Option (List Value) := xs.toList.mapM (evl l)
theorem argl_eval (hE : EnvD δ n a l) {xs : Array Operand} {vs : List Value} (h : argl l xs = some vs) : xs.map a.eval = vs.toArray := by
 obtain ⟨xs⟩ := xs
 unfold argl at h
 simp only at h
 have : ∀ (xs : List Operand) (vs : List Value), xs.mapM (evl l) = some vs → xs.map a.eval = vs := by
  intro xs
  induction xs with
  | nil => intro vs h; simp at h; simp [h]
  | cons x r ih =>
   intro vs h
   simp only [List.mapM_cons, Option.bind_eq_bind, Option.pure_def] at h
   cases hx : evl l x with
   | none => simp [hx] at h
   | some v =>
    cases hr : r.mapM (evl l) with
    | none => simp [hx, hr] at h
    | some us =>
     simp [hx, hr] at h
     subst h
     simp [hE.eval hx, ih us hr]
 simp [this xs vs h]
end
end Go.Proofs.YthbonoagbeilkaaGreat.Hay
namespace Go.Proofs.YthbonoagbeilkaaGreat.Hay
open Go.RowKit (Below)

def Step (P : Program) (o : Oper) (a : Act) (w : World) (Post : Value → World → Prop) : Prop :=
 ∀ (ro : Option Nat) (Kk : Act → World → Prop) (Q : Exit → Act → World → Prop), (∀ v w', Post v w' → Kk (a.put o.dst v) w') → o.wpIn (Fr ro) 0 P a w Kk Q
section
variable {δ : List Nat} {ro : Option Nat} {P : Program} {ops : Array Oper} {Q : Exit → Act → World → Prop} {rest : List Oper} {a : Act} {w : World} {Post : Value → World → Prop} {n : Nat} {l : List (Nat × Value)} {d : Nat} {op : Op} {ty : TypeId} {pos : String} {aft : Array Edge}
theorem st (hE : EnvD δ n a l) (h : Step P ⟨some d, op, ty, pos, aft, none⟩ a w Post) (hd : Nat.blt d n = true) (k : ∀ v a' w', Post v w' → EnvD δ n a' ((d, v) :: l) → wpL ro P ops Q rest a' w') : wpL ro P ops Q (⟨some d, op, ty, pos, aft, none⟩ :: rest) a w :=
 wpListIn_plain rfl fun _ hK => h _ _ _ fun v w' hp => hK _ _ (k v _ w' hp (hE.put hd v))
theorem st0 (hE : EnvD δ n a l) (h : Step P ⟨none, op, ty, pos, aft, none⟩ a w Post) (k : ∀ v w', Post v w' → EnvD δ n a l → wpL ro P ops Q rest a w') : wpL ro P ops Q (⟨none, op, ty, pos, aft, none⟩ :: rest) a w :=
 wpListIn_plain rfl fun _ hK => h _ _ _ fun v w' hp => hK _ _ (k v w' hp hE)
theorem stg {og : Oper} {g dg : Nat} {b c : Bool} (hE : EnvD δ n a l) (hg : ops[g]? = some og) (ho : og.dst = some dg) (hdg : Nat.blt dg n = true) (hl : lk l dg = some (.bool c)) (hc : c = b)
  (h : Step P ⟨some d, op, ty, pos, aft, some (g, b)⟩ a w Post) (hd : Nat.blt d n = true) (k : ∀ v a' w', Post v w' → EnvD δ n a' ((d, v) :: l) → wpL ro P ops Q rest a' w') : wpL ro P ops Q (⟨some d, op, ty, pos, aft, some (g, b)⟩ :: rest) a w :=
 wpListIn_step fun Kk hK => by
  subst hc
  simp only [Region.wanted, yielded_of hE hg ho hdg hl, beq_self_eq_true, if_true]
  exact h _ _ _ fun v w' hp => hK _ _ (k v _ w' hp (hE.put hd v))
end
theorem Run1.step {P : Program} {o : Oper} {a : Act} {w w' : World} {v : Value} (h : Run1 P o a w v w') {Post : Value → World → Prop} (hp : Post v w') : Step P o a w Post :=
 fun _ _ _ k => h.wp (k _ _ hp)
theorem Run0.step {P : Program} {o : Oper} {a : Act} {w w' : World} (h : Run0 P o a w w') {Post : Value → World → Prop} (hp : Post undef w') : Step P o a w Post :=
 fun _ _ _ k => h.wp (k _ _ hp)
theorem Run1.pure {P : Program} {o : Oper} {a : Act} {w : World} {v : Value} (h : Run1 P o a w v w) : Step P o a w (fun u w' => v = u ∧ w = w') := h.step ⟨rfl, rfl⟩

theorem Step.imp {P : Program} {a : Act} {w : World} {o : Oper} {Post Post' : Value → World → Prop} (h : Step P o a w Post) (k : ∀ v w', Post v w' → Post' v w') : Step P o a w Post' := fun ro Kk Q hk => h ro Kk Q fun v w' hp => hk v w' (k v w' hp)
def bAnd (k : IntKind) (x y : Int) : Int := k.wrap ((BitVec.ofInt k.bits x &&& BitVec.ofInt k.bits y).toNat : Int)
def bOr (k : IntKind) (x y : Int) : Int := k.wrap ((BitVec.ofInt k.bits x ||| BitVec.ofInt k.bits y).toNat : Int)
def bXor (k : IntKind) (x y : Int) : Int := k.wrap ((BitVec.ofInt k.bits x ^^^ BitVec.ofInt k.bits y).toNat : Int)
def iShl (k : IntKind) (x y : Int) : Int := k.wrap (x * 2 ^ (min y.toNat k.bits))
def iShr (k : IntKind) (x y : Int) : Int := x.fdiv (2 ^ (min y.toNat k.bits))
def iNot (k : IntKind) (x : Int) : Int := bXor k (if k.signed then -1 else k.max) x
theorem wrap_wrap (k : IntKind) (x : Int) : k.wrap (k.wrap x) = k.wrap x := by
 cases k <;> simp only [IntKind.wrap, IntKind.bits, IntKind.signed] <;> simp <;> omega
theorem inR_wrap (k : IntKind) (x : Int) : inR k (k.wrap x) := wrap_wrap k x
theorem inR_and (k : IntKind) (x y : Int) : inR k (bAnd k x y) := wrap_wrap k _
theorem inR_or (k : IntKind) (x y : Int) : inR k (bOr k x y) := wrap_wrap k _
theorem inR_xor (k : IntKind) (x y : Int) : inR k (bXor k x y) := wrap_wrap k _
theorem inR_shl (k : IntKind) (x y : Int) : inR k (iShl k x y) := wrap_wrap k _
theorem inR_not (k : IntKind) (x : Int) : inR k (iNot k x) := wrap_wrap k _
theorem inR_bd {k : IntKind} {x : Int} : inR k x ↔ k.min ≤ x ∧ x ≤ k.max := by
 unfold inR
 cases k <;> simp only [IntKind.wrap, IntKind.bits, IntKind.signed, IntKind.min, IntKind.max] <;> simp <;> omega
theorem fdiv_bd {x : Int} {p : Int} (hp : 0 < p) {lo hi : Int} (hl : lo ≤ 0) (hh : 0 ≤ hi) (h1 : lo ≤ x) (h2 : x ≤ hi) : lo ≤ x.fdiv p ∧ x.fdiv p ≤ hi := by
 rw [Int.fdiv_eq_ediv_of_nonneg _ (by omega)]
 constructor
 ·exact (Int.le_ediv_iff_mul_le hp).2 (by
   have : lo * p ≤ lo * 1 := Int.mul_le_mul_of_nonpos_left hl (by omega)
   omega)
 ·have h3 := Int.ediv_le_self (b := p) (a := x)
  rcases Int.lt_or_le x 0 with hx | hx
  ·have : x / p < 0 := Int.ediv_neg_of_neg_of_pos hx hp
   omega
  ·have := Int.ediv_le_self p hx
   omega
theorem inR_shr {k : IntKind} {x : Int} (h : inR k x) (y : Int) : inR k (iShr k x y) := by
 rw [inR_bd] at *
 have hp : (0 : Int) < 2 ^ (min y.toNat k.bits) := Int.pow_pos (by decide)
 exact fdiv_bd hp (by cases k <;> decide) (by cases k <;> decide) h.1 h.2
theorem inR_mod {k : IntKind} {x y : Int} (h : inR k x) : inR k (x.tmod y) := by
 rw [inR_bd] at *
 have h1 : (x.tmod y).natAbs ≤ x.natAbs := by
  rw [Int.natAbs_tmod]
  exact Nat.mod_le _ _
 have h2 : 0 ≤ x → 0 ≤ x.tmod y := fun h => Int.tmod_nonneg _ h
 have h3 : x ≤ 0 → x.tmod y ≤ 0 := fun h => by
  have := Int.tmod_nonneg (a := -x) y (by omega)
  rw [Int.neg_tmod] at this
  omega
 have h4 : k.min ≤ 0 := by cases k <;> decide
 have h5 : 0 ≤ k.max := by cases k <;> decide
 rcases Int.le_total 0 x with hx | hx
 ·have := h2 hx; omega
 ·have := h3 hx; omega
theorem inR_len {n : Nat} (h : n ≤ maxSz) : inR .i64 (n : Int) := by
 rw [inR_bd]
 have : IntKind.max .i64 = 9223372036854775807 := by decide
 have : IntKind.min .i64 = -9223372036854775808 := by decide
 unfold maxSz at h
 omega

section
variable {δ : List Nat} {ro : Option Nat} {P : Program} {n : Nat} {a : Act} {l : List (Nat × Value)} {w : World} {dst : Option Tmp} {ty t t' : TypeId} {pos : String} {aft : Array Edge} {g : Option (Nat × Bool)} {x y z : Operand} {k : IntKind} {p q r : Int} {v u : Value} {b c e : Bool}
theorem r_move (hE : EnvD δ n a l) (hx : evl l x = some v) : Run1 P ⟨dst, .move x, ty, pos, aft, g⟩ a w v w := by
 simp [Run1, execOp, hE.eval hx]
theorem r_assign (hE : EnvD δ n a l) (hx : evl l x = some v) : Run1 P ⟨dst, .assign x, ty, pos, aft, g⟩ a w v w := by
 simp [Run1, execOp, hE.eval hx]
theorem r_pickT (hE : EnvD δ n a l) (hx : evl l x = some (.bool b)) (hb : b = true) (hy : evl l y = some v) : Run1 P ⟨dst, .pick x y z, ty, pos, aft, g⟩ a w v w := by
 subst hb; simp [Run1, execOp, hE.eval hx, hE.eval hy, asBool]
theorem r_pickF (hE : EnvD δ n a l) (hx : evl l x = some (.bool b)) (hb : b = false) (hz : evl l z = some u) : Run1 P ⟨dst, .pick x y z, ty, pos, aft, g⟩ a w u w := by
 subst hb; simp [Run1, execOp, hE.eval hx, hE.eval hz, asBool]
theorem r_bin {op : BinOp} {k' : IntKind} (hE : EnvD δ n a l) (hx : evl l x = some (.int k p)) (hy : evl l y = some (.int k' q)) (hr : ∀ w, (binOp op t (.int k p) (.int k' q)).run P w = .ok v w) :
  Run1 P ⟨dst, .binOp op t x y t', ty, pos, aft, g⟩ a w v w := by
 simp [Run1, execOp, hE.eval hx, hE.eval hy, eqGuard_at_int, hr]
theorem b_add (h : k.wrap (p + q) = r) : ∀ w, (binOp .add t (.int k p) (.int k q)).run P w = .ok (.int k r) w := fun w => by simp [binOp_add, Op.intArith, h]
theorem b_sub (h : k.wrap (p - q) = r) : ∀ w, (binOp .sub t (.int k p) (.int k q)).run P w = .ok (.int k r) w := fun w => by simp [binOp_sub, Op.intArith, h]
theorem b_mul (h : k.wrap (p * q) = r) : ∀ w, (binOp .mul t (.int k p) (.int k q)).run P w = .ok (.int k r) w := fun w => by simp [binOp_mul, Op.intArith, h]
theorem b_quo (h : k.wrap (p.tdiv q) = r) (h0 : q ≠ 0) : ∀ w, (binOp .quo t (.int k p) (.int k q)).run P w = .ok (.int k r) w := fun w => by simp [binOp_quo, Op.intDiv, h, h0]
theorem b_rem (h : p.tmod q = r) (h0 : q ≠ 0) : ∀ w, (binOp .rem t (.int k p) (.int k q)).run P w = .ok (.int k r) w := fun w => by simp [binOp_rem, Op.intDiv, h, h0]
theorem b_and (h : bAnd k p q = r) : ∀ w, (binOp .and t (.int k p) (.int k q)).run P w = .ok (.int k r) w := fun w => by simp [binOp_and, Op.intBits, ← h, bAnd]
theorem b_or (h : bOr k p q = r) : ∀ w, (binOp .or t (.int k p) (.int k q)).run P w = .ok (.int k r) w := fun w => by simp [binOp_or, Op.intBits, ← h, bOr]
theorem b_xor (h : bXor k p q = r) : ∀ w, (binOp .xor t (.int k p) (.int k q)).run P w = .ok (.int k r) w := fun w => by simp [binOp_xor, Op.intBits, ← h, bXor]
theorem b_shl {k' : IntKind} (h : iShl k p q = r) (h0 : 0 ≤ q) : ∀ w, (binOp .shl t (.int k p) (.int k' q)).run P w = .ok (.int k r) w := fun w => by
 simp [binOp, Op.shift, show ¬ q < 0 by omega, ← h, iShl]
theorem b_shr {k' : IntKind} (h : iShr k p q = r) (h0 : 0 ≤ q) : ∀ w, (binOp .shr t (.int k p) (.int k' q)).run P w = .ok (.int k r) w := fun w => by
 simp [binOp, Op.shift, show ¬ q < 0 by omega, ← h, iShr]
theorem b_eql : ∀ w, (binOp .eql t (.int k p) (.int k q)).run P w = .ok (.bool (p == q)) w := fun w => by simp [binOp_eql]
theorem b_neq : ∀ w, (binOp .neq t (.int k p) (.int k q)).run P w = .ok (.bool (p != q)) w := fun w => by simp [binOp_neq]
theorem b_lss : ∀ w, (binOp .lss t (.int k p) (.int k q)).run P w = .ok (.bool (decide (p < q))) w := fun w => by simp [binOp_lss]
theorem b_leq : ∀ w, (binOp .leq t (.int k p) (.int k q)).run P w = .ok (.bool (decide (p ≤ q))) w := fun w => by simp [binOp_leq]
theorem b_gtr : ∀ w, (binOp .gtr t (.int k p) (.int k q)).run P w = .ok (.bool (decide (q < p))) w := fun w => by simp [binOp_gtr]
theorem b_geq : ∀ w, (binOp .geq t (.int k p) (.int k q)).run P w = .ok (.bool (decide (q ≤ p))) w := fun w => by simp [binOp_geq]
theorem r_eqlB (hE : EnvD δ n a l) (hx : evl l x = some (.bool b)) (hy : evl l y = some (.bool c)) (ht : P.underlying t = some .bool) : Run1 P ⟨dst, .binOp .eql t x y t', ty, pos, aft, g⟩ a w (.bool (b == c)) w := by
 simp [Run1, execOp, hE.eval hx, hE.eval hy, eqGuard_at_bool, run_eql_bool _ _ _ _ ht]
theorem r_neqB (hE : EnvD δ n a l) (hx : evl l x = some (.bool b)) (hy : evl l y = some (.bool c)) (ht : P.underlying t = some .bool) : Run1 P ⟨dst, .binOp .neq t x y t', ty, pos, aft, g⟩ a w (.bool (!(b == c))) w := by
 simp [Run1, execOp, hE.eval hx, hE.eval hy, eqGuard_at_bool, run_neq_bool _ _ _ _ ht]
theorem r_not (hE : EnvD δ n a l) (hx : evl l x = some (.bool b)) : Run1 P ⟨dst, .unOp .not t x, ty, pos, aft, g⟩ a w (.bool (!b)) w := by
 simp [Run1, execOp, hE.eval hx, Op.unary]
theorem r_neg (hE : EnvD δ n a l) (hx : evl l x = some (.int k p)) (h : k.wrap (0 - p) = r) : Run1 P ⟨dst, .unOp .neg t x, ty, pos, aft, g⟩ a w (.int k r) w := by
 subst h; simp [Run1, execOp, hE.eval hx, Op.unary, Op.intArith]
theorem r_cpl (hE : EnvD δ n a l) (hx : evl l x = some (.int k p)) (h : iNot k p = r) : Run1 P ⟨dst, .unOp .xor t x, ty, pos, aft, g⟩ a w (.int k r) w := by
 subst h; simp [Run1, execOp, hE.eval hx, Op.unary, Op.intBits, iNot, bXor]
theorem r_conv {k' ks : IntKind} (hE : EnvD δ n a l) (hx : evl l x = some (.int k p)) (hs : P.underlying t = some (.int ks)) (hd : P.underlying t' = some (.int k')) (h : k'.wrap p = r) :
  Run1 P ⟨dst, .convert t t' x, ty, pos, aft, g⟩ a w (.int k' r) w := by
 subst h; simp [Run1, execOp, hE.eval hx, convert, run_underlying hs, run_underlying hd, Conv.intToInt]
theorem r_extract {vs : Array Value} {i : Nat} (hE : EnvD δ n a l) (hx : evl l x = some (.tuple vs)) (hi : vs[i]? = some v) : Run1 P ⟨dst, .extract x i, ty, pos, aft, g⟩ a w v w := by
 simp [Run1, execOp, hE.eval hx, Instr.extract, hi]
theorem r_nilCheck {ad : Addr} (hE : EnvD δ n a l) (hx : evl l x = some (.pointer (some ad))) : Run1 P ⟨dst, .nilCheck x, ty, pos, aft, g⟩ a w (.pointer (some ad)) w := by
 simp [Run1, execOp, hE.eval hx]
theorem r_makeFunc {fn : Fn} {fs cs : Array Operand} {v1 v2 : List Value} (hE : EnvD δ n a l) (h1 : argl l fs = some v1) (h2 : argl l cs = some v2) : Run1 P ⟨dst, .makeFunc fn fs cs, ty, pos, aft, g⟩ a w (.func fn v1.toArray v2.toArray) w := by
 simp [Run1, execOp, Instr.makeFunc, argl_eval hE h1, argl_eval hE h2]
theorem r_max2 {ts : Array TypeId} (hE : EnvD δ n a l) (hx : evl l x = some (.int k p)) (hy : evl l y = some (.int k q)) : Run1 P ⟨dst, .call ⟨.builtin .max, #[x, y], ts⟩, ty, pos, aft, g⟩ a w (.int k (if p < q then q else p)) w := by
 simp [Run1, execOp, resolve, invoke, builtin, hE.eval hx, hE.eval hy, run_max_int2]
theorem r_min2 {ts : Array TypeId} (hE : EnvD δ n a l) (hx : evl l x = some (.int k p)) (hy : evl l y = some (.int k q)) : Run1 P ⟨dst, .call ⟨.builtin .min, #[x, y], ts⟩, ty, pos, aft, g⟩ a w (.int k (if q < p then q else p)) w := by
 simp [Run1, execOp, resolve, invoke, builtin, hE.eval hx, hE.eval hy, run_min_int2]
end
end Go.Proofs.YthbonoagbeilkaaGreat.Hay
namespace Go.Proofs.YthbonoagbeilkaaGreat.Hay
open Go.RowKit (Below)

structure TyOK (P : Program) (t : TypeId) {α : Type} (d : Kd α) : Prop where
 size : ∀ w, (sizeOf t).run P w = .ok d.sz w
 agg : ∀ w, (isAgg t).run P w = .ok d.agg w
def At (w : World) (b o : Nat) (cs : List Value) : Prop := ∃ c t fr, w.heap[b]? = some (.cells c t fr) ∧ (c.toList.drop o).take cs.length = cs
theorem At.cell {w : World} {b o : Nat} {cs : List Value} (h : At w b o cs) {j : Nat} {v : Value} (hj : cs[j]? = some v) : w.cell? ⟨b, o + j, none⟩ = some v := by
 obtain ⟨c, t, fr, hb, hc⟩ := h
 have hlt : j < cs.length := (List.getElem?_eq_some_iff.1 hj).1
 rw [← hc] at hj
 simp only [List.getElem?_take, List.getElem?_drop, hlt, if_true] at hj
 simpa [World.cell?, hb] using hj
theorem add_eq (b o j : Nat) : (⟨b, o, none⟩ : Addr).add j = ⟨b, o + j, none⟩ := by
 unfold Addr.add; split <;> simp_all
theorem run_load_val {P : Program} {t : TypeId} {α : Type} {d : Kd α} {m : M} {w : World} {b o : Nat} {cs : List Value} {x : α} (hT : TyOK P t d) (hR : d.R m cs x) (hA : At w b o cs) :
  (loadVar t ⟨b, o, none⟩).run P w = .ok (d.val cs) w := by
 have hl := d.len hR
 have hcells := run_loadCells_list (P := P) w ⟨b, o, none⟩ cs (fun j v hj => by rw [add_eq]; exact hA.cell hj)
 unfold loadVar Kd.val
 cases ha : d.agg with
 | true =>
  have h1 := hT.agg w
  have h2 := hT.size w
  rw [ha] at h1
  rw [hl] at hcells
  simp [h1, h2, hcells]
 | false =>
  have h1 := hT.agg w
  rw [ha] at h1
  have hs := d.flat ha
  rw [hs] at hl
  match cs, hl with
  | [c], _ =>
   have := hA.cell (j := 0) (v := c) rfl
   simp only [Nat.add_zero] at this
   simp [h1, this]
section
variable {δ : List Nat} {ro : Option Nat} {P : Program} {W0 : Bse} {m : M} {L : List (Nat × List Value)} {TL : List (Nat × Value)} {n : Nat} {a : Act} {l : List (Nat × Value)} {w : World} {ty t : TypeId} {pos : String} {aft : Array Edge} {g : Option (Nat × Bool)} {x y : Operand} {d : Nat} {α β : Type} {k : Kd α} {k' : Kd β}
theorem S.atL (hS : S W0 m w L TL) {i b o : Nat} {cs cs' : List Value} (hL : L[i]? = some (b, cs)) (h : (cs.drop o).take cs'.length = cs') (hp : 0 < cs'.length) : At w b o cs' := by
 obtain ⟨_, _, t, ht⟩ := hS.own i _ hL (fun e => by simp only at e; subst e; simp at h; subst h; simp at hp)
 exact ⟨_, t, _, ht, by simpa using h⟩
theorem S.atM (hS : S W0 m w L TL) {b o sz : Nat} (h : (m.row b o sz).length = sz) (h0 : 0 < sz) : At w b o (m.row b o sz) := by
 unfold M.row at *
 cases hm : m b with
 | none => simp [hm] at h; omega
 | some r =>
  obtain ⟨c, t, fr, s, hc, hcs⟩ := hS.imm b r hm
  refine ⟨c, t, fr, hc, ?_⟩
  simp only [hm] at h ⊢
  rw [hcs, h, List.drop_append, List.take_append_of_le_length]
  simp at h ⊢; omega
theorem st_alloc (hS : S W0 m w L TL) {z : Value} {cs : List Value} (hz : ∀ w, (zeroValue t).run P w = .ok z w) (hc : z.cells = cs.toArray) :
  Step P ⟨some d, .alloc t, ty, pos, aft, g⟩ a w (fun v w' => ∃ b, v = .pointer (some ⟨b, 0, none⟩) ∧ S W0 m w' ((b, cs) :: L) TL) := by
 have hr : Run1 P ⟨some d, .alloc t, ty, pos, aft, g⟩ a w (.pointer (some ⟨w.heap.size, 0, none⟩)) (w.alloc (.cells cs.toArray t)) := by
  simp [Run1, execOp, Instr.alloc, hz, newVar, newRow, hc]
 exact hr.step ⟨_, rfl, hS.allocL cs t⟩
theorem st_box (hE : EnvD δ n a l) (hS : S W0 m w L TL) {v : Value} {xx : α} (hx : evl l x = some v) (hv : RV k m v xx) :
  Step P ⟨some d, .box t x, ty, pos, aft, g⟩ a w (fun v w' => ∃ b cs, v = .pointer (some ⟨b, 0, none⟩) ∧ k.R m cs xx ∧ S W0 m w' ((b, cs) :: L) TL) := by
 obtain ⟨cs, hR, rfl⟩ := hv
 have hr : Run1 P ⟨some d, .box t x, ty, pos, aft, g⟩ a w (.pointer (some ⟨w.heap.size, 0, none⟩)) (w.alloc (.cells cs.toArray t)) := by
  simp [Run1, execOp, Instr.box, hE.eval hx, newVar, newRow, k.val_cells hR]
 exact hr.step ⟨_, cs, rfl, hR, hS.allocL cs t⟩
theorem st_loadL (hE : EnvD δ n a l) (hS : S W0 m w L TL) (hT : TyOK P t k) {i b o : Nat} {cs : List Value} {xx : α} (hx : evl l x = some (.pointer (some ⟨b, o, none⟩))) (hL : L[i]? = some (b, cs)) (hR : k.R m ((cs.drop o).take k.sz) xx) :
  Step P ⟨some d, .load t x, ty, pos, aft, g⟩ a w (fun v w' => w = w' ∧ RV k m v xx) := by
 have hA : At w b o ((cs.drop o).take k.sz) := hS.atL hL (by rw [k.len hR]) (by rw [k.len hR]; exact k.pos)
 have hr : Run1 P ⟨some d, .load t x, ty, pos, aft, g⟩ a w (k.val ((cs.drop o).take k.sz)) w := by
  simp [Run1, execOp, Instr.loadAt, hE.eval hx, Instr.sureAddr, run_load_val hT hR hA]
 exact hr.step ⟨rfl, _, hR, rfl⟩
theorem st_loadM (hE : EnvD δ n a l) (hS : S W0 m w L TL) (hT : TyOK P t k) {v : Value} {xx : α} (hx : evl l x = some v) (hp : PR k m v xx) :
  Step P ⟨some d, .load t x, ty, pos, aft, g⟩ a w (fun v w' => w = w' ∧ RV k m v xx) := by
 obtain ⟨b, o, rfl, hR⟩ := hp
 have hA : At w b o (m.row b o k.sz) := hS.atM (k.len hR) k.pos
 have hr : Run1 P ⟨some d, .load t x, ty, pos, aft, g⟩ a w (k.val (m.row b o k.sz)) w := by
  simp [Run1, execOp, Instr.loadAt, hE.eval hx, Instr.sureAddr, run_load_val hT hR hA]
 exact hr.step ⟨rfl, _, hR, rfl⟩
structure FldOK (P : Program) (s : TypeId) (i off : Nat) : Prop where
 at_ : ∀ b o w, (Instr.fieldAt s (.pointer (some ⟨b, o, none⟩)) i).run P w = .ok (.pointer (some ⟨b, o + off, none⟩)) w
theorem fld_ok {s : TypeId} {i off : Nat} {fs : Array Field} {f : Field} {sz : Nat} (hu : P.underlying s = some (.struct fs)) (hf : fs[i]? = some f) (hs : ∀ w, (sizeOf f.type).run P w = .ok sz w) (h0 : sz ≠ 0) (ho : f.offset = off) : FldOK P s i off :=
 ⟨fun b o w => by
  subst ho
  simp only [Instr.fieldAt, Sem.run_bind, run_underlying hu, Result.andThen_ok, hf, Instr.sureAddr, Sem.run_pure, fieldPlace, hs]
  rw [if_neg h0]
  simp only [Sem.run_pure, Result.andThen_ok]
  rw [add_eq]⟩
theorem r_fieldL {s : TypeId} {i off b o : Nat} (hE : EnvD δ n a l) (hF : FldOK P s i off) (hx : evl l x = some (.pointer (some ⟨b, o, none⟩))) :
  Run1 P ⟨some d, .fieldAddr s x i, ty, pos, aft, g⟩ a w (.pointer (some ⟨b, o + off, none⟩)) w := by
 simp [Run1, execOp, hE.eval hx, hF.at_]
def Fld (k : Kd α) (k' : Kd β) (off : Nat) (f : α → β) : Prop := off + k'.sz ≤ k.sz ∧ ∀ m cs x, k.R m cs x → k'.R m ((cs.drop off).take k'.sz) (f x)
theorem row_sub {m : M} {b o off sz sz' : Nat} (h : off + sz' ≤ sz) : ((m.row b o sz).drop off).take sz' = m.row b (o + off) sz' := by
 unfold M.row
 cases m b with
 | none => simp
 | some r =>
  simp only []
  rw [List.drop_take, List.drop_drop, List.take_take]
  congr 1
  omega
theorem PR.fld {off : Nat} {f : α → β} (hf : Fld k k' off f) {v : Value} {xx : α} (h : PR k m v xx) : ∃ b o, v = .pointer (some ⟨b, o, none⟩) ∧ PR k' m (.pointer (some ⟨b, o + off, none⟩)) (f xx) := by
 obtain ⟨b, o, rfl, hR⟩ := h
 refine ⟨b, o, rfl, b, o + off, rfl, ?_⟩
 rw [← row_sub hf.1]
 exact hf.2 _ _ _ hR
theorem st_fieldM {s : TypeId} {i off : Nat} {f : α → β} (hE : EnvD δ n a l) (hF : FldOK P s i off) (hf : Fld k k' off f) {v : Value} {xx : α} (hx : evl l x = some v) (hp : PR k m v xx) :
  Step P ⟨some d, .fieldAddr s x i, ty, pos, aft, g⟩ a w (fun v w' => w = w' ∧ PR k' m v (f xx)) := by
 obtain ⟨b, o, rfl, hp'⟩ := hp.fld hf
 exact (r_fieldL hE hF hx).step ⟨rfl, hp'⟩
theorem Fld.R_drop {off o : Nat} {f : α → β} (hf : Fld k k' off f) {cs : List Value} {xx : α} (h : k.R m ((cs.drop o).take k.sz) xx) : k'.R m ((cs.drop (o + off)).take k'.sz) (f xx) := by
 have := hf.2 _ _ _ h
 rw [List.drop_take, List.drop_drop, List.take_take, Nat.min_eq_left (by have := hf.1; omega)] at this
 exact this
theorem R_whole {cs : List Value} {xx : α} (h : k.R m cs xx) : k.R m ((cs.drop 0).take k.sz) xx := by
 rw [List.drop_zero, List.take_of_length_le (by rw [k.len h]; exact Nat.le_refl _)]; exact h

theorem storeCells_run {P : Program} : ∀ (vs : List Value) (b o i : Nat) (c : List Value) (t : TypeId) (w : World), w.heap[b]? = some (.cells c.toArray t (0, 0)) → o + i + vs.length ≤ c.length → (∀ v ∈ vs, v.oneCell' = true) →
  (storeCells ⟨b, o, none⟩ vs i).run P w = .ok () (w.setRow b (c.take (o + i) ++ vs ++ c.drop (o + i + vs.length)).toArray)
 | [], b, o, i, c, t, w, hb, hl, _ => by
  simp only [storeCells, List.append_nil, List.length_nil, Nat.add_zero, List.take_append_drop]
  show Result.ok () w = _
  congr 1
  have hlt : b < w.heap.size := (Array.getElem?_eq_some_iff.1 hb).1
  have hv : w.heap[b] = .cells c.toArray t (0, 0) := (Array.getElem?_eq_some_iff.1 hb).2
  unfold World.setRow
  cases w with
  | mk heap tape drawn os output =>
   congr 1
   apply Array.ext
   ·simp
   ·intro j h1 h2
    simp only [Array.getElem_modify]
    split
    ·rename_i hk; subst hk; simp at hv; simp [hv]
    ·rfl
 | v :: rest, b, o, i, c, t, w, hb, hl, h1 => by
  simp only [List.length_cons] at hl
  have hi : o + i < c.length := by omega
  have hcell : w.cell? ⟨b, o + i, none⟩ = some c[o + i] := by simp [World.cell?, hb, hi]
  have hfro : w.frozen? ⟨b, o + i, none⟩ = false := by simp [World.frozen?, hb]
  have hst : (store ((⟨b, o, none⟩ : Addr).add i) v).run P w = .ok () (w.setRow b (c.toArray.setIfInBounds (o + i) v)) := by
   rw [add_eq, run_store P w _ v _ (h1 v (by simp)), hcell]
   simp [hfro, setCell_eq_setRow w b (o + i) c.toArray t (0, 0) v hb]
  have ih := storeCells_run (P := P) rest b o (i + 1) (c.set (o + i) v) t (w.setRow b (c.toArray.setIfInBounds (o + i) v))
   (by rw [List.setIfInBounds_toArray]; exact setRow_heap w b c.toArray _ t _ hb) (by simp; omega) (fun x hx => h1 x (by simp [hx]))
  simp only [storeCells, Sem.run_bind, hst, Result.andThen_ok, ih, setRow_setRow]
  congr 3
  rw [show o + (i + 1) = o + i + 1 by omega, List.take_set, List.drop_set_of_lt (by omega), List.length_cons, show o + i + 1 + rest.length = o + i + (rest.length + 1) by omega]
  rw [List.take_succ_eq_append_getElem (by omega)]
  rw [List.set_append_right _ _ (by simp; omega)]
  simp [Nat.min_eq_left (Nat.le_of_lt hi)]
theorem S.setL (hS : S W0 m w L TL) {i b : Nat} {cs : List Value} (hL : L[i]? = some (b, cs)) (hne : cs ≠ []) (cs' : List Value) : S W0 m (w.setRow b cs'.toArray) (L.set i (b, cs')) TL := by
 obtain ⟨hB, hm, t, ht⟩ := hS.own i _ hL hne
 have hold : ∀ j, j ≠ b → (w.setRow b cs'.toArray).heap[j]? = w.heap[j]? := fun j hj => setRow_other w b j _ hj
 simp only at hB hm ht
 refine ⟨hS.below.step ⟨⟨rfl, rfl, rfl, by simp, fun j hj => hold j (by omega)⟩, Nat.le_refl _⟩ (fun k o hk hc => by rw [hold k (fun e => by subst e; rw [ht] at hk; injection hk with hk; subst hk; cases hc)]; exact hk), fun j r hj => ?_, fun j e he hv => ?_, fun i' j e e' he he' hij hv hv' => ?_, fun j e he => ?_, hS.apart⟩
 ·rw [hold j (fun e => by subst e; rw [hm] at hj; cases hj)]
  exact hS.imm j r hj
 ·rw [List.getElem?_set] at he
  split at he
  ·rename_i e1; subst e1
   simp at he
   obtain ⟨_, rfl⟩ := he
   exact ⟨hB, hm, t, setRow_heap w b _ _ t _ ht⟩
  ·rename_i e1
   obtain ⟨h1, h2, t', h3⟩ := hS.own j e he hv
   have hne := hS.nodup i j _ _ hL he e1 hne hv
   exact ⟨h1, h2, t', by rw [hold _ (fun e => hne e.symm)]; exact h3⟩
 ·have key : ∀ (j : Nat) (e : Nat × List Value), (L.set i (b, cs'))[j]? = some e → e.2 ≠ [] → ∃ e0, L[j]? = some e0 ∧ e0.1 = e.1 ∧ e0.2 ≠ [] := fun j e he hv => by
   rw [List.getElem?_set] at he
   split at he
   ·rename_i e1; subst e1
    simp at he
    obtain ⟨_, rfl⟩ := he
    exact ⟨_, hL, rfl, hne⟩
   ·exact ⟨e, he, rfl, hv⟩
  obtain ⟨e0, h0, h1, h2⟩ := key i' e he hv
  obtain ⟨e0', h0', h1', h2'⟩ := key j e' he' hv'
  rw [← h1, ← h1']
  exact hS.nodup i' j e0 e0' h0 h0' hij h2 h2'
 ·have hT := hS.tails j e he
  obtain ⟨sz, v⟩ := e
  cases v <;> try exact hT
  rename_i ad len cap
  cases ad with
  | none => trivial
  | some ad =>
   obtain ⟨hlt', hT⟩ := hT
   refine ⟨by simpa using hlt', ?_⟩
   rcases hT with h | ⟨h0, h1, r, c, t', h2, h3, h4, h5⟩
   ·exact .inl h
   ·exact .inr ⟨h0, h1, r, c, t', h2, h3, by rw [hold _ (fun e => by rw [e, hm] at h2; cases h2)]; exact h4, h5⟩
theorem st_store (hE : EnvD δ n a l) (hS : S W0 m w L TL) (hT : TyOK P t k) {i b o : Nat} {cs : List Value} {v : Value} {xx : α} (hx : evl l x = some (.pointer (some ⟨b, o, none⟩))) (hy : evl l y = some v) (hv : RV k m v xx) (hL : L[i]? = some (b, cs)) (hb : o + k.sz ≤ cs.length) :
  Step P ⟨none, .store t x y, ty, pos, aft, g⟩ a w (fun _ w' => ∃ vs, k.R m vs xx ∧ S W0 m w' (L.set i (b, cs.take o ++ vs ++ cs.drop (o + k.sz))) TL) := by
 obtain ⟨vs, hR, rfl⟩ := hv
 have hl := k.len hR
 have hne : cs ≠ [] := fun e => by have := k.pos; subst e; simp at hb; omega
 obtain ⟨hB, hm, t', ht⟩ := hS.own i _ hL hne
 have hrun := storeCells_run (P := P) vs b o 0 cs t' w ht (by omega) (k.one hR)
 have hr : Run0 P ⟨none, .store t x y, ty, pos, aft, g⟩ a w (w.setRow b (cs.take o ++ vs ++ cs.drop (o + k.sz)).toArray) := by
  simp only [Nat.add_zero, hl] at hrun
  have hsz := hT.size w
  simp only [Run0, execOp, hE.eval hx, hE.eval hy, Instr.storeAt, Instr.sureAddr, Sem.run_bind, Sem.run_pure, Result.andThen_ok, storeVar, k.val_cells hR, hsz]
  simp [hl, hrun]
 exact hr.step ⟨vs, hR, hS.setL hL hne _⟩
end
end Go.Proofs.YthbonoagbeilkaaGreat.Hay
namespace Go.Proofs.YthbonoagbeilkaaGreat.Hay
open Go.RowKit (Below)

def Rl {α : Type} (d : Kd α) (m : M) (cs : List Value) (xs : List α) : Prop := cs.length = xs.length * d.sz ∧ ∀ i (h : i < xs.length), d.R m ((cs.drop (i * d.sz)).take d.sz) xs[i]
section
variable {δ : List Nat} {ro : Option Nat} {α : Type} {d : Kd α} {m m' : M} {cs ds : List Value} {xs ys : List α}
theorem Rl.mono (h : Rl d m cs xs) (hm : M.le m m') : Rl d m' cs xs := ⟨h.1, fun i hi => d.mono hm (h.2 i hi)⟩
theorem Rl.nil : Rl d m [] [] := ⟨by simp, fun i h => by simp at h⟩
theorem Rl.single {x : α} (h : d.R m cs x) : Rl d m cs [x] := ⟨by simp [d.len h], fun i hi => by
 have : i = 0 := by simp at hi; omega
 subst this
 simp only [Nat.zero_mul, List.drop_zero, List.getElem_cons_zero]
 rw [List.take_of_length_le (by rw [d.len h]; exact Nat.le_refl _)]
 exact h⟩
theorem Rl.app (h : Rl d m cs xs) (k : Rl d m ds ys) : Rl d m (cs ++ ds) (xs ++ ys) := by
 refine ⟨by simp [h.1, k.1, Nat.add_mul], fun i hi => ?_⟩
 have hp := d.pos
 by_cases h1 : i < xs.length
 ·rw [List.getElem_append_left h1]
  have h2 : i * d.sz + d.sz ≤ xs.length * d.sz := by
   have := Nat.mul_le_mul_right d.sz (show i + 1 ≤ xs.length by omega)
   rw [Nat.add_mul] at this; omega
  rw [List.drop_append_of_le_length (by rw [h.1]; omega), List.take_append_of_le_length (by simp [h.1]; omega)]
  exact h.2 i h1
 ·rw [List.getElem_append_right (by omega)]
  have h2 : xs.length * d.sz ≤ i * d.sz := Nat.mul_le_mul_right _ (by omega)
  have h3 : i * d.sz - xs.length * d.sz = (i - xs.length) * d.sz := by rw [Nat.sub_mul]
  rw [List.drop_append, List.drop_eq_nil_of_le (by rw [h.1]; exact h2), List.nil_append, h.1, h3]
  exact k.2 _ (by simp at hi; omega)
theorem Rl.one (h : Rl d m cs xs) : ∀ c ∈ cs, c.oneCell' = true := by
 intro c hc
 obtain ⟨j, hj, rfl⟩ := List.mem_iff_getElem.1 hc
 have hp := d.pos
 have hi : j / d.sz < xs.length := by
  rw [Nat.div_lt_iff_lt_mul hp, ← h.1]; exact hj
 have hR := h.2 _ hi
 refine d.one hR _ ?_
 have e1 := Nat.div_add_mod j d.sz
 have e2 := Nat.mod_lt j hp
 rw [Nat.mul_comm] at e1
 rw [List.mem_iff_getElem?]
 refine ⟨j % d.sz, ?_⟩
 rw [List.getElem?_take, if_pos e2, List.getElem?_drop, e1, List.getElem?_eq_getElem hj]
theorem RV_sl {v : Value} (h : RV (kSl d) m v xs) : ∃ a cap, v = .slice a xs.length cap ∧ xs.length ≤ cap ∧ xs.length ≤ maxSz ∧ (match a with | none => cap = 0 | some ad => (0 < cap → ad.spot = none) ∧ ∀ i (h : i < xs.length), d.R m (m.row ad.block (ad.off + i * d.sz) d.sz) xs[i]) := by
 obtain ⟨cs, ⟨a, len, cap, h1, h2, h3, h4, h5⟩, rfl⟩ := h
 subst h1; subst h2
 exact ⟨a, cap, rfl, h3, h4, h5⟩
theorem RV_of_sl {a : Option Addr} {cap : Nat} (h1 : xs.length ≤ cap) (h2 : xs.length ≤ maxSz) (h3 : match a with | none => cap = 0 | some ad => (0 < cap → ad.spot = none) ∧ ∀ i (h : i < xs.length), d.R m (m.row ad.block (ad.off + i * d.sz) d.sz) xs[i]) : RV (kSl d) m (.slice a xs.length cap) xs :=
 ⟨[_], ⟨a, _, cap, rfl, rfl, h1, h2, h3⟩, rfl⟩
theorem Rl_of_row {b o : Nat} (h : ∀ i (h : i < xs.length), d.R m (m.row b (o + i * d.sz) d.sz) xs[i]) : Rl d m (m.row b o (xs.length * d.sz)) xs := by
 have hp := d.pos
 have hlen : (m.row b o (xs.length * d.sz)).length = xs.length * d.sz := by
  rcases Nat.eq_zero_or_pos xs.length with h0 | h0
  ·unfold M.row; cases m b <;> simp [h0]
  ·have h1 := d.len (h (xs.length - 1) (by omega))
   unfold M.row at h1 ⊢
   cases hm : m b with
   | none => simp [hm] at h1; omega
   | some l =>
    simp [hm] at h1 ⊢
    have e : (xs.length - 1) * d.sz + d.sz = xs.length * d.sz := by
     rw [← Nat.succ_mul]; congr 1; omega
    omega
 refine ⟨hlen, fun i hi => ?_⟩
 have h2 : i * d.sz + d.sz ≤ xs.length * d.sz := by
  have := Nat.mul_le_mul_right d.sz (show i + 1 ≤ xs.length by omega)
  rw [Nat.add_mul] at this; omega
 rw [row_sub h2]
 exact h i hi
theorem row_of_Rl {b o : Nat} {l : List Value} (hm : m b = some l) (h : Rl d m cs xs) (hl : (l.drop o).take cs.length = cs) : ∀ i (h : i < xs.length), d.R m (m.row b (o + i * d.sz) d.sz) xs[i] := by
 intro i hi
 have h2 : i * d.sz + d.sz ≤ xs.length * d.sz := by
  have := Nat.mul_le_mul_right d.sz (show i + 1 ≤ xs.length by omega)
  rw [Nat.add_mul] at this; omega
 have := h.2 i hi
 rw [← hl, List.drop_take, List.drop_drop, List.take_take, Nat.min_eq_left (by rw [h.1]; omega)] at this
 unfold M.row
 rw [hm]
 exact this
end

def idx {α : Type} (xs : List α) (i : Int) : Option α := if 0 ≤ i then xs[i.toNat]? else none
theorem idx_some {α : Type} {xs : List α} {i : Int} {x : α} (h : idx xs i = some x) : 0 ≤ i ∧ ∃ hi : i.toNat < xs.length, xs[i.toNat] = x := by
 unfold idx at h
 split at h
 ·rename_i h0
  exact ⟨h0, List.getElem?_eq_some_iff.1 h⟩
 ·cases h
def sub {α : Type} (xs : List α) (lo hi : Int) : Option (List α) := if 0 ≤ lo ∧ lo ≤ hi ∧ hi ≤ (xs.length : Int) then some ((xs.take hi.toNat).drop lo.toNat) else none
theorem sub_some {α : Type} {xs ys : List α} {lo hi : Int} (h : sub xs lo hi = some ys) : 0 ≤ lo ∧ lo ≤ hi ∧ hi ≤ (xs.length : Int) ∧ ys = (xs.take hi.toNat).drop lo.toNat := by
 unfold sub at h
 split at h
 ·rename_i h0
  injection h with h
  exact ⟨h0.1, h0.2.1, h0.2.2, h.symm⟩
 ·cases h
def app {α : Type} (N : Nat) (xs ys : List α) : Option (List α) := if xs.length + ys.length ≤ N then some (xs ++ ys) else none
theorem app_some {α : Type} {N : Nat} {xs ys zs : List α} (h : app N xs ys = some zs) : xs.length + ys.length ≤ N ∧ zs = xs ++ ys := by
 unfold app at h
 split at h
 ·rename_i h0
  injection h with h
  exact ⟨h0, h.symm⟩
 ·cases h

section
variable {δ : List Nat} {ro : Option Nat} {P : Program} {W0 : Bse} {m : M} {L : List (Nat × List Value)} {TL : List (Nat × Value)} {n : Nat} {a : Act} {l : List (Nat × Value)} {w : World} {ty t e : TypeId} {pos : String} {aft : Array Edge} {g : Option (Nat × Bool)} {x y : Operand} {d : Nat} {α : Type} {k : Kd α}
theorem r_lenSl {ts : Array TypeId} {xs : List α} {v : Value} (hE : EnvD δ n a l) (hx : evl l x = some v) (ht : ts[0]? = some t) (hu : P.underlying t = some (.slice e)) (hv : RV (kSl k) m v xs) :
  Run1 P ⟨some d, .call ⟨.builtin .len, #[x], ts⟩, ty, pos, aft, g⟩ a w (.int .i64 (xs.length : Int)) w := by
 obtain ⟨ad, cap, rfl, _⟩ := RV_sl hv
 simp [Run1, execOp, resolve, invoke, builtin, hE.eval hx, Builtin.len_, ht, run_underlying hu, goInt]
theorem bts_size (s : List Int) : (bts s).size = s.length := by
 show ((s.map _).toArray).size = _
 simp
theorem r_lenStr {ts : Array TypeId} {s : List Int} (hE : EnvD δ n a l) (hx : evl l x = some (.string (bts s))) (ht : ts[0]? = some t) (hu : P.underlying t = some .string) :
  Run1 P ⟨some d, .call ⟨.builtin .len, #[x], ts⟩, ty, pos, aft, g⟩ a w (.int .i64 (s.length : Int)) w := by
 simp [Run1, execOp, resolve, invoke, builtin, hE.eval hx, Builtin.len_, ht, run_underlying hu, goInt, bts_size]
theorem st_index {kk : IntKind} {i : Int} {xs : List α} {xx : α} {v : Value} (hE : EnvD δ n a l) (hx : evl l x = some v) (hy : evl l y = some (.int kk i)) (hu : P.underlying t = some (.slice e)) (hs : ∀ w, (sizeOf e).run P w = .ok k.sz w) (hv : RV (kSl k) m v xs) (hi : idx xs i = some xx) :
  Step P ⟨some d, .indexAddr t x y, ty, pos, aft, g⟩ a w (fun v w' => w = w' ∧ PR k m v xx) := by
 obtain ⟨h0, h1, h2⟩ := idx_some hi
 obtain ⟨ad, cap, rfl, h3, h4, h5⟩ := RV_sl hv
 cases ad with
 | none => simp only at h5; omega
 | some ad =>
  obtain ⟨b, o, sp⟩ := ad
  obtain ⟨hsp, hR⟩ := h5
  replace hsp := hsp (by omega)
  simp only at hsp; subst hsp
  have hlt : i < (xs.length : Int) := by omega
  have hr : Run1 P ⟨some d, .indexAddr t x y, ty, pos, aft, g⟩ a w (.pointer (some ⟨b, o + i.toNat * k.sz, none⟩)) w := by
   simp [Run1, execOp, hE.eval hx, hE.eval hy, Instr.indexAt, asIntOf, run_underlying hu, h0, hlt, hs, add_eq]
  refine hr.step ⟨rfl, b, _, rfl, ?_⟩
  rw [← h2]
  exact hR _ h1
theorem sl_sub {v : Value} {xs ys : List α} {lo hi : Int} (hv : RV (kSl k) m v xs) (hs : sub xs lo hi = some ys) :
  ∃ a cap, v = .slice a xs.length cap ∧ hi ≤ cap ∧ RV (kSl k) m (.slice (if cap = lo.toNat then a else a.map (·.add (lo.toNat * k.sz))) (hi.toNat - lo.toNat) (cap - lo.toNat)) ys := by
 obtain ⟨h0, h1, h2, rfl⟩ := sub_some hs
 obtain ⟨ad, cap, rfl, h3, h4, h5⟩ := RV_sl hv
 have hl : ((xs.take hi.toNat).drop lo.toNat).length = hi.toNat - lo.toNat := by simp; omega
 refine ⟨ad, cap, rfl, by omega, ?_⟩
 rw [← hl]
 refine RV_of_sl (by omega) (by omega) ?_
 by_cases hc : cap = lo.toNat
 ·rw [if_pos hc]
  cases ad with
  | none => simp only at h5 ⊢; omega
  | some ad => exact ⟨fun h => h5.1 (by omega), fun i hi' => by rw [hl] at hi'; omega⟩
 ·rw [if_neg hc]
  cases ad with
  | none => simp only at h5 ⊢; simp; omega
  | some ad =>
   obtain ⟨b, o, sp⟩ := ad
   obtain ⟨hsp, hR⟩ := h5
   replace hsp := hsp (by omega)
   simp only at hsp; subst hsp
   simp only [Option.map_some, add_eq]
   refine ⟨fun _ => trivial, fun i hi' => ?_⟩
   rw [hl] at hi'
   have := hR (lo.toNat + i) (by omega)
   rw [Nat.add_mul, ← Nat.add_assoc] at this
   simpa using this
theorem sliceAt_run {a : Option Addr} {len cap : Nat} {lo hi : Option Value} {lo' hi' : Nat} (hu : P.underlying t = some (.slice e)) (hs : ∀ w, (sizeOf e).run P w = .ok k.sz w)
  (hlo : match lo with | some (.int _ i) => i = lo' | none => lo' = 0 | _ => False) (hhi : match hi with | some (.int _ i) => i = hi' | none => hi' = len | _ => False) (h1 : lo' ≤ hi') (h2 : hi' ≤ cap) :
  (Instr.sliceAt t (.slice a len cap) lo hi none).run P w = .ok (.slice (if cap = lo' then a else a.map (·.add (lo' * k.sz))) (hi' - lo') (cap - lo')) w := by
 have key : (Instr.sliceBounds true len cap lo hi none).run P w = .ok (lo', hi', cap) w := by
  unfold Instr.sliceBounds
  have b1 : ∀ (kk : IntKind) (code : BoundsCode), (Instr.sliceBound (.int kk (hi' : Int)) cap code).run P w = .ok hi' w := fun kk code => by
   simp [Instr.sliceBound, asIntOf, h2]
  have b2 : ∀ (kk : IntKind) (code : BoundsCode), (Instr.sliceBound (.int kk (lo' : Int)) hi' code).run P w = .ok lo' w := fun kk code => by
   simp [Instr.sliceBound, asIntOf, h1]
  rcases hi with _ | hv
  ·simp only at hhi; subst hhi
   rcases lo with _ | lv
   ·simp only at hlo; subst hlo; simp
   ·cases lv <;> try exact hlo.elim
    simp only at hlo; subst hlo
    simp [b2]
  ·cases hv <;> try exact hhi.elim
   simp only at hhi; subst hhi
   rcases lo with _ | lv
   ·simp only at hlo; subst hlo; simp [b1]
   ·cases lv <;> try exact hlo.elim
    simp only at hlo; subst hlo
    simp [b1, b2]
 simp [Instr.sliceAt, run_underlying hu, Instr.slice, key, hs]
theorem st_slice {v : Value} {xs ys : List α} {xl xh : Option Operand} {lo hi : Int} (hE : EnvD δ n a l) (hx : evl l x = some v) (hu : P.underlying t = some (.slice e)) (hs : ∀ w, (sizeOf e).run P w = .ok k.sz w) (hv : RV (kSl k) m v xs)
  (hl : match xl with | some o => ∃ kk, evl l o = some (.int kk lo) | none => lo = 0) (hh : match xh with | some o => ∃ kk, evl l o = some (.int kk hi) | none => hi = (xs.length : Int)) (hsub : sub xs lo hi = some ys) :
  Step P ⟨some d, .slice t x xl xh none, ty, pos, aft, g⟩ a w (fun v w' => w = w' ∧ RV (kSl k) m v ys) := by
 obtain ⟨h0, h1, h2, _⟩ := sub_some hsub
 obtain ⟨ad, cap, rfl, h3, h4⟩ := sl_sub hv hsub
 have hr : Run1 P ⟨some d, .slice t x xl xh none, ty, pos, aft, g⟩ a w (.slice (if cap = lo.toNat then ad else ad.map (·.add (lo.toNat * k.sz))) (hi.toNat - lo.toNat) (cap - lo.toNat)) w := by
  have := sliceAt_run (w := w) (a := ad) (len := xs.length) (cap := cap) (lo := xl.map a.eval) (hi := xh.map a.eval) (lo' := lo.toNat) (hi' := hi.toNat) hu hs
   (by cases xl with
     | none => simp at hl ⊢; omega
     | some o => obtain ⟨kk, hk⟩ := hl; simp only [Option.map_some, hE.eval hk]; omega)
   (by cases xh with
     | none => simp at hh ⊢; omega
     | some o => obtain ⟨kk, hk⟩ := hh; simp only [Option.map_some, hE.eval hk]; omega) (by omega) (by omega)
  simp [Run1, execOp, hE.eval hx, this]
 exact hr.step ⟨rfl, h4⟩
end
end Go.Proofs.YthbonoagbeilkaaGreat.Hay
namespace Go.Proofs.YthbonoagbeilkaaGreat.Hay
open Go.RowKit (Below)

structure ElOK (P : Program) (e : TypeId) (sz by_ : Nat) : Prop where
 ok : ∃ i z, P.info? e = some i ∧ i.size = sz ∧ i.bytes = by_ ∧ i.zero = some z ∧ z.cells.size = sz
section
variable {δ : List Nat} {ro : Option Nat} {P : Program} {W0 : Bse} {m : M} {L : List (Nat × List Value)} {TL : List (Nat × Value)} {w : World} {α : Type} {k : Kd α}
theorem firstCells_run {v : Value} {xs : List α} (hS : S W0 m w L TL) (hv : RV (kSl k) m v xs) : ∃ cs, Rl k m cs xs ∧ (∀ w', (∀ b, b < w.heap.size → w'.heap[b]? = w.heap[b]?) → (Builtin.firstCells k.sz xs.length v).run P w' = .ok cs.toArray w') ∧
  (∀ a cap ad, v = .slice a xs.length cap → a = some ad → cs = m.row ad.block ad.off (xs.length * k.sz)) ∧ (∀ l c, v = .slice none l c → cs = []) := by
 obtain ⟨ad, cap, rfl, h3, h4, h5⟩ := RV_sl hv
 cases ad with
 | none =>
  simp only at h5
  have h0 : xs.length = 0 := by omega
  have : xs = [] := List.eq_nil_of_length_eq_zero h0
  subst this
  refine ⟨[], Rl.nil, fun w' _ => run_firstCells_none w' _ _ _ _, ?_, fun l c h => rfl⟩
  intro a cap ad h h'
  injection h with h
  rw [← h] at h'; cases h'
 | some ad =>
  obtain ⟨b, o, sp⟩ := ad
  obtain ⟨hsp, hR⟩ := h5
  have hRl := Rl_of_row hR
  refine ⟨_, hRl, fun w' hw => ?_, fun a cap ad h h' => ?_, fun l c h => by cases h⟩
  ·rcases Nat.eq_zero_or_pos xs.length with h0 | h0
   ·have hc : m.row b o (xs.length * k.sz) = [] := by unfold M.row; cases m b <;> simp [h0]
    rw [hc]
    have : (Builtin.firstCells k.sz xs.length (.slice (some ⟨b, o, sp⟩) xs.length cap)).run P w' = .ok #[] w' := by
     simp [Builtin.firstCells, h0, loadCells, loadCellsFrom]
    simpa using this
   ·replace hsp := hsp (by omega)
    simp only at hsp; subst hsp
    have hp : 0 < xs.length * k.sz := Nat.mul_pos h0 k.pos
    have hA := hS.atM (b := b) (o := o) hRl.1 hp
    obtain ⟨c, t, fr, hb, hc⟩ := hA
    have hlt := (Array.getElem?_eq_some_iff.1 hb).1
    have hA' : At w' b o (m.row b o (xs.length * k.sz)) := ⟨c, t, fr, by rw [hw b hlt]; exact hb, hc⟩
    exact run_firstCells_some w' _ _ _ _ _ _ hRl.1 (fun j v hj => by rw [add_eq]; exact hA'.cell hj)
  ·injection h with h
   rw [← h] at h'; injection h' with h'; subst h'; rfl

theorem S.grow (hS : S W0 m w L TL) {i b sz : Nat} {l ms : List Value} {c : List Value} {t : TypeId} {v v' : Value} (hT : TL[i]? = some (sz, v)) (hb : m b = some l) (hB : W0.heap.size ≤ b) (hw : w.heap[b]? = some (.cells c.toArray t (0, 0))) (hv : sblk v = some b)
  (hsb : sblk v' = some b)
  (hT' : Tail W0.heap.size (m.put b (l ++ ms)) (w.setRow b (c.take l.length ++ ms ++ c.drop (l.length + ms.length)).toArray) sz v') :
  M.le m (m.put b (l ++ ms)) ∧ S W0 (m.put b (l ++ ms)) (w.setRow b (c.take l.length ++ ms ++ c.drop (l.length + ms.length)).toArray) L (TL.set i (sz, v')) := by
 generalize hcs : (c.take l.length ++ ms ++ c.drop (l.length + ms.length)) = cs at *
 have hold : ∀ j, j ≠ b → (w.setRow b cs.toArray).heap[j]? = w.heap[j]? := fun j hj => setRow_other w b j _ hj
 have hnew := setRow_heap w b _ cs.toArray t _ hw
 obtain ⟨c0, t0, fr0, r0, h1, h2⟩ := hS.imm b l hb
 rw [hw] at h1; injection h1 with h1; injection h1 with h1 _ _; subst h1
 simp only at h2
 refine ⟨fun j r hj => ?_, hS.below.step ⟨⟨rfl, rfl, rfl, by simp, fun j hj => hold j (by omega)⟩, Nat.le_refl _⟩ (fun k o hk hc => by rw [hold k (fun e => by subst e; rw [hw] at hk; injection hk with hk; subst hk; cases hc)]; exact hk), fun j r hj => ?_, fun j e he hv => ?_, hS.nodup, fun j e he => ?_, fun j j' e e' he he' hij => ?_⟩
 ·by_cases e : j = b
  ·subst e; rw [hb] at hj; injection hj with hj; subst hj
   exact ⟨ms, M.put_same _ _ _⟩
  ·exact ⟨[], by rw [M.put_other _ _ e]; simpa using hj⟩
 ·by_cases e : j = b
  ·subst e
   rw [M.put_same] at hj; injection hj with hj; subst hj
   refine ⟨_, t, _, c.drop (l.length + ms.length), hnew, ?_⟩
   have : c.take l.length = l := by rw [h2]; simp
   rw [← hcs, this]
  ·rw [M.put_other _ _ e] at hj
   rw [hold j e]; exact hS.imm j r hj
 ·obtain ⟨h3, h4, t', h5⟩ := hS.own j e he hv
  have hne : e.1 ≠ b := fun x => by rw [x, hb] at h4; cases h4
  exact ⟨h3, by rw [M.put_other _ _ hne]; exact h4, t', by rw [hold _ hne]; exact h5⟩
 ·rw [List.getElem?_set] at he
  split at he
  ·rename_i e1; subst e1
   simp at he; obtain ⟨_, rfl⟩ := he
   exact hT'
  ·rename_i e1
   have h3 := hS.tails j e he
   have h4 := hS.apart i j _ _ hT he e1 b hv
   obtain ⟨sz', u⟩ := e
   cases u <;> try exact h3
   rename_i ad len cap
   cases ad with
   | none => trivial
   | some ad =>
    have hne : ad.block ≠ b := fun x => h4 (by simp [sblk, x])
    obtain ⟨hlt', h3⟩ := h3
    refine ⟨by simpa using hlt', ?_⟩
    rcases h3 with h | ⟨h0, h1, r, c', t', h5, h6, h7, h8⟩
    ·exact .inl h
    ·exact .inr ⟨h0, h1, r, c', t', by rw [M.put_other _ _ hne]; exact h5, h6, by rw [hold _ hne]; exact h7, h8⟩
 ·have key : ∀ (j : Nat) (e : Nat × Value), (TL.set i (sz, v'))[j]? = some e → ∃ e0, TL[j]? = some e0 ∧ sblk e0.2 = sblk e.2 := fun j e he => by
   rw [List.getElem?_set] at he
   split at he
   ·rename_i e1; subst e1
    simp at he; obtain ⟨_, rfl⟩ := he
    exact ⟨_, hT, by rw [hv, hsb]⟩
   ·exact ⟨e, he, rfl⟩
  obtain ⟨e0, h3, h4⟩ := key j e he
  obtain ⟨e0', h3', h4'⟩ := key j' e' he'
  have := hS.apart j j' e0 e0' h3 h3' hij
  unfold Apart at *
  rw [← h4, ← h4']
  exact this
theorem S.allocT (hS : S W0 m w L TL) {i sz : Nat} {v' : Value} (cs rs : List Value) (t : TypeId) (hsb : sblk v' = some w.heap.size)
  (hT' : Tail W0.heap.size (m.put w.heap.size cs) (w.drew.alloc (.cells (cs ++ rs).toArray t)) sz v') :
  M.le m (m.put w.heap.size cs) ∧ S W0 (m.put w.heap.size cs) (w.drew.alloc (.cells (cs ++ rs).toArray t)) L (TL.set i (sz, v')) := by
 have hB := hS.below.size
 have hn : m w.heap.size = none := hS.fresh (Nat.le_refl _)
 have hold : ∀ j, j < w.heap.size → (w.drew.alloc (.cells (cs ++ rs).toArray t)).heap[j]? = w.heap[j]? := fun j hj => alloc_old w.drew _ j hj
 refine ⟨M.le_put _ hn, hS.below.drew.alloc hB _, fun b r hb => ?_, fun j e he hv => ?_, hS.nodup, fun j e he => ?_, fun j j' e e' he he' hij => ?_⟩
 ·by_cases e : b = w.heap.size
  ·subst e
   rw [M.put_same] at hb; injection hb with hb; subst hb
   exact ⟨_, t, (0, 0), rs, alloc_new w.drew _, by simp⟩
  ·rw [M.put_other _ _ e] at hb
   rw [hold b (hS.lt hb)]; exact hS.imm b r hb
 ·obtain ⟨h1, h2, t', h3⟩ := hS.own j e he hv
  have hlt := (Array.getElem?_eq_some_iff.1 h3).1
  exact ⟨h1, by rw [M.put_other _ _ (by omega)]; exact h2, t', by rw [hold _ hlt]; exact h3⟩
 ·rw [List.getElem?_set] at he
  split at he
  ·rename_i e1; subst e1
   simp at he; obtain ⟨_, rfl⟩ := he
   exact hT'
  ·exact tail_heap hold (tail_m (w := w) (m := m) (fun b hb => M.put_other _ _ (by omega)) (hS.tails j e he))
 ·have key : ∀ (j : Nat) (e : Nat × Value), (TL.set i (sz, v'))[j]? = some e → (j = i ∧ sblk e.2 = some w.heap.size) ∨ (j ≠ i ∧ TL[j]? = some e) := fun j e he => by
   rw [List.getElem?_set] at he
   split at he
   ·rename_i e1; subst e1
    simp at he
    obtain ⟨_, rfl⟩ := he
    exact .inl ⟨rfl, hsb⟩
   ·rename_i e1; exact .inr ⟨fun x => e1 x.symm, he⟩
  intro b hb hb'
  rcases key j e he with ⟨h1, h2⟩ | ⟨h1, h2⟩ <;> rcases key j' e' he' with ⟨h3, h4⟩ | ⟨h3, h4⟩
  ·omega
  ·have := tail_lt (hS.tails j' e' h4) hb'
   rw [h2] at hb; injection hb with hb; omega
  ·have := tail_lt (hS.tails j e h2) hb
   rw [h4] at hb'; injection hb' with hb'; omega
  ·exact hS.apart j j' e e' h2 h4 hij b hb hb'
theorem append_cells {e t tx ty : TypeId} {by_ : Nat} (hS : S W0 m w L TL) (hu : P.underlying t = some (.slice e)) (hux : (∃ e', P.underlying tx = some (.slice e')) ∨ P.underlying tx = some .string) (hel : ElOK P e k.sz by_) {i : Nat} {v u : Value} {xs ys : List α} {news : List Value} (hT : TL[i]? = some (k.sz, v)) (hv : RV (kSl k) m v xs)
  (hn : (Builtin.lenOf u).run P w = .ok ys.length w) (hf : ∀ w', (∀ b, b < w.heap.size → w'.heap[b]? = w.heap[b]?) → (Builtin.firstCells k.sz ys.length u).run P w' = .ok news.toArray w') (hR : Rl k m news ys)
  (hN : (xs.length + ys.length) * by_ ≤ 140737488355328) (hM : xs.length + ys.length ≤ maxSz) :
  ∃ v' m' w', (Builtin.append_ #[t, tx] ty #[v, u]).run P w = .ok v' w' ∧ M.le m m' ∧ S W0 m' w' L (TL.set i (k.sz, v')) ∧ RV (kSl k) m' v' (xs ++ ys) := by
 obtain ⟨inf, z, hi, hsz, hby, hz, hzc⟩ := hel.ok
 obtain ⟨cs, hcs, hfc, hrow, hnil⟩ := firstCells_run (P := P) hS hv
 have hTl := hS.tails i _ hT
 obtain ⟨ad, cap, rfl, h3, h4, h5⟩ := RV_sl hv
 have hMx : xs.length + ys.length ≤ 281474976710656 := hM
 have hp := k.pos
 by_cases hfit : xs.length + ys.length ≤ cap
 ·cases ad with
  | none =>
   simp only at h5
   subst h5
   have hy : ys = [] := List.eq_nil_of_length_eq_zero (by omega)
   have hx : xs = [] := List.eq_nil_of_length_eq_zero (by omega)
   subst hy; subst hx
   refine ⟨.slice none 0 0, m, w, ?_, M.le.refl m, ?_, ?_⟩
   ·have hf0 := hf w (fun _ _ => rfl)
    simp only [List.length_nil] at hf0 hn
    rcases hux with ⟨_, hux⟩ | hux <;> simp [Builtin.append_, run_underlying hu, run_underlying hux, sizeOf, typeInfo, hi, hn, hsz, hf0]
   ·have : TL.set i (k.sz, .slice none 0 0) = TL := by
     have hlt := (List.getElem?_eq_some_iff.1 hT)
     obtain ⟨hlt, he⟩ := hlt
     apply List.ext_getElem
     ·simp
     ·intro j h1 h2
      rw [List.getElem_set]
      split
      ·rename_i e; subst e; exact he.symm
      ·rfl
    rw [this]; exact hS
   ·simpa using hv
  | some ad =>
   obtain ⟨b, o, sp⟩ := ad
   obtain ⟨hsp, hRx⟩ := h5
   rcases Nat.eq_zero_or_pos ys.length with h0 | h0
   ·have hy : ys = [] := List.eq_nil_of_length_eq_zero h0
    subst hy
    have hnw : news = [] := List.eq_nil_of_length_eq_zero (by rw [hR.1]; simp)
    subst hnw
    refine ⟨.slice (some ⟨b, o, sp⟩) xs.length cap, m, w, ?_, M.le.refl m, ?_, ?_⟩
    ·have hf0 := hf w (fun _ _ => rfl)
     simp at hfit hf0 hn
     rcases hux with ⟨_, hux⟩ | hux <;> simp [Builtin.append_, run_underlying hu, run_underlying hux, sizeOf, typeInfo, hi, hn, hsz, hf0, hfit, storeCells]
    ·have : TL.set i (k.sz, .slice (some ⟨b, o, sp⟩) xs.length cap) = TL := by
      obtain ⟨hlt, he⟩ := (List.getElem?_eq_some_iff.1 hT)
      apply List.ext_getElem
      ·simp
      ·intro j h1 h2
       rw [List.getElem_set]
       split
       ·rename_i e; subst e; exact he.symm
       ·rfl
     rw [this]; exact hS
    ·simpa using hv
   ·replace hsp := hsp (by omega)
    simp only at hsp; subst hsp
    obtain ⟨hlt, hTl⟩ := hTl
    rcases hTl with hfull | ⟨_, hB, l, c, t0, hml, hll, hwb, hcap⟩
    ·omega
    ·simp only at hB hml hll hwb hcap hlt
     have hrun := storeCells_run (P := P) news b (o + xs.length * k.sz) 0 c.toList t0 w (by simpa using hwb) (by
      rw [hR.1]
      have := Nat.mul_le_mul_right k.sz hfit
      rw [Nat.add_mul] at this
      simp; omega) hR.one
     simp only [Nat.add_zero] at hrun
     rw [← hll] at hrun
     have hv' : RV (kSl k) (m.put b (l ++ news)) (.slice (some ⟨b, o, none⟩) (xs ++ ys).length cap) (xs ++ ys) := by
      refine RV_of_sl (by simpa using hfit) (by simpa using hM) ⟨fun _ => rfl, ?_⟩
      have hle : M.le m (m.put b (l ++ news)) := fun j r hj => by
       by_cases e : j = b
       ·subst e; rw [hml] at hj; injection hj with hj; subst hj
        exact ⟨news, M.put_same _ _ _⟩
       ·exact ⟨[], by rw [M.put_other _ _ e]; simpa using hj⟩
      refine row_of_Rl (cs := cs ++ news) (M.put_same _ _ _) (Rl.app (hcs.mono hle) (hR.mono hle)) ?_
      have hc1 : cs = (l.drop o).take (xs.length * k.sz) := by
       have := hrow _ _ _ rfl rfl
       simpa [M.row, hml] using this
      have hc2 : cs = l.drop o := by rw [hc1]; apply List.take_of_length_le; simp; omega
      show (((l ++ news).drop o).take (cs ++ news).length) = cs ++ news
      rw [List.drop_append_of_le_length (by omega), ← hc2]
      exact List.take_of_length_le (by simp)
     have hg := hS.grow (v' := .slice (some ⟨b, o, none⟩) (xs ++ ys).length cap) (ms := news) hT hml hB (c := c.toList) (t := t0) (by simpa using hwb) rfl rfl (by
      refine ⟨by simpa using hlt, .inr ⟨rfl, hB, _, _, t0, M.put_same _ _ _, ?_, setRow_heap w b _ _ t0 _ hwb, ?_⟩⟩
      ·simp [hll, hR.1, Nat.add_mul, Nat.add_assoc]
      ·have h9 := Nat.mul_le_mul_right k.sz hfit
       have h10 := hR.1
       rw [Nat.add_mul] at h9
       simp; omega)
     refine ⟨_, _, _, ?_, hg.1, hg.2, hv'⟩
     rcases hux with ⟨_, hux⟩ | hux <;> simp [Builtin.append_, run_underlying hu, run_underlying hux, sizeOf, typeInfo, hi, hn, hsz, hf w (fun _ _ => rfl), hfit, add_eq, ← hll, hrun]
 ·have hgt : cap < xs.length + ys.length := by omega
  have h63 : ¬ (9223372036854775807 < ((xs.length : Int) + (ys.length : Int))) := by omega
  have h48 : ¬ (281474976710656 < Builtin.nextslicecap (xs.length + ys.length) cap * inf.bytes) := by
   have := growslice_fits hgt (bytes := inf.bytes) (by rw [hby]; exact hN)
   omega
  have hnot : ¬ (xs.length + ys.length ≤ cap) := hfit
  generalize hcapn : grownCap w (xs.length + ys.length) cap e = cap' at *
  have hcap' : xs.length + ys.length ≤ cap' := by
   rw [← hcapn]; simp [grownCap, Question.cut]
  let rest := (Builtin.zeroCells z.cells (cap' - (xs.length + ys.length))).toList
  have hrl : rest.length = (cap' - (xs.length + ys.length)) * k.sz := by simp [rest, Builtin.zeroCells, hzc]
  have hv' : RV (kSl k) (m.put w.heap.size (cs ++ news)) (.slice (some ⟨w.heap.size, 0, none⟩) (xs ++ ys).length cap') (xs ++ ys) := by
   refine RV_of_sl (by simpa using hcap') (by simpa using hM) ⟨fun _ => rfl, ?_⟩
   have hle : M.le m (m.put w.heap.size (cs ++ news)) := M.le_put _ (hS.fresh (Nat.le_refl _))
   exact row_of_Rl (cs := cs ++ news) (M.put_same _ _ _) (Rl.app (hcs.mono hle) (hR.mono hle)) (by rw [List.drop_zero]; exact List.take_of_length_le (Nat.le_refl _))
  have hg := hS.allocT (i := i) (sz := k.sz) (v' := .slice (some ⟨w.heap.size, 0, none⟩) (xs ++ ys).length cap') (cs ++ news) rest e rfl (by
   refine ⟨by simp, .inr ⟨rfl, hS.below.size, _, _, e, M.put_same _ _ _, ?_, alloc_new w.drew _, ?_⟩⟩
   ·simp [hcs.1, hR.1, Nat.add_mul]
   ·have e1 : xs.length * k.sz + ys.length * k.sz + (cap' - (xs.length + ys.length)) * k.sz = cap' * k.sz := by
     rw [← Nat.add_mul, ← Nat.add_mul]; congr 1; omega
    simp [hcs.1, hR.1, hrl]; omega)
  refine ⟨_, _, _, ?_, hg.1, hg.2, hv'⟩
  have hfd := hfc w.drew (fun _ _ => rfl)
  have hfd' := hf w.drew (fun _ _ => rfl)
  have e2 : cs.toArray ++ (news.toArray ++ Builtin.zeroCells z.cells (cap' - (xs.length + ys.length))) = (cs ++ (news ++ rest)).toArray := by
   apply Array.ext'; simp [rest]
  have hcapn' : (Question.appendCap (xs.length + ys.length) cap e).cut (w.tape w.drawn (Question.appendCap (xs.length + ys.length) cap e)) = cap' := hcapn
  rcases hux with ⟨_, hux⟩ | hux <;> simp [Builtin.append_, run_underlying hu, run_underlying hux, sizeOf, typeInfo, zeroValue, hi, hz, hn, hsz, hnot, h63, h48, Question.forced, hfd, hfd', newRow, hcapn', e2]
end
end Go.Proofs.YthbonoagbeilkaaGreat.Hay
namespace Go.Proofs.YthbonoagbeilkaaGreat.Hay
open Go.RowKit (Below)

def num : Nat → List Value → List (Nat × Value)
 | _, [] => []
 | k, v :: vs => (k, v) :: num (k + 1) vs
def RVl {α : Type} (k : Kd α) (m : M) : List Value → List α → Prop
 | [], [] => True
 | v :: vs, x :: xs => RV k m v x ∧ RVl k m vs xs
 | _, _ => False
def vcells (vs : List Value) : List Value := vs.flatMap fun v => v.cells.toList
theorem RVl.cells {α : Type} {k : Kd α} {m : M} : ∀ {vs : List Value} {xs : List α}, RVl k m vs xs → Rl k m (vcells vs) xs
 | [], [], _ => Rl.nil
 | v :: vs, x :: xs, h => by
  obtain ⟨⟨cs, hR, rfl⟩, h2⟩ := h
  have h1 : Rl k m (k.val cs).cells.toList [x] := by rw [k.val_cells hR]; exact Rl.single hR
  exact Rl.app h1 (RVl.cells h2)
theorem RVl.size {α : Type} {k : Kd α} {m : M} : ∀ {vs : List Value} {xs : List α}, RVl k m vs xs → ∀ v ∈ vs, v.cells.size = k.sz
 | [], _, _, v, hv => by simp at hv
 | u :: vs, x :: xs, h, v, hv => by
  obtain ⟨⟨cs, hR, rfl⟩, h2⟩ := h
  rcases List.mem_cons.1 hv with rfl | hv
  ·rw [k.val_cells hR]; simpa using k.len hR
  ·exact RVl.size h2 v hv
theorem RVl.length {α : Type} {k : Kd α} {m : M} : ∀ {vs : List Value} {xs : List α}, RVl k m vs xs → vs.length = xs.length
 | [], [], _ => rfl
 | u :: vs, x :: xs, h => by simp [RVl.length h.2]
theorem foldl_set (off : Nat) : ∀ (vs : List Value) (j : Nat) (cs : List Value), off + j + vs.length ≤ cs.length →
  (vs.zipIdx j).foldl (fun (cs : Array Value) (p : Value × Nat) => cs.setIfInBounds (off + p.2) p.1) cs.toArray = (cs.take (off + j) ++ vs ++ cs.drop (off + j + vs.length)).toArray
 | [], j, cs, _ => by simp
 | v :: vs, j, cs, h => by
  simp only [List.length_cons] at h
  rw [List.zipIdx_cons, List.foldl_cons]
  simp only [List.setIfInBounds_toArray]
  rw [foldl_set off vs (j + 1) _ (by simp; omega)]
  congr 1
  rw [show off + (j + 1) = off + j + 1 by omega, List.take_set, List.drop_set_of_lt (by omega), List.length_cons, show off + j + 1 + vs.length = off + j + (vs.length + 1) by omega]
  rw [List.take_succ_eq_append_getElem (by omega), List.set_append_right _ _ (by simp; omega)]
  simp [Nat.min_eq_left (show off + j ≤ cs.length by omega)]
theorem fill_num {sz : Nat} : ∀ (vs : List Value) (k : Nat) (cs : List Value), (∀ v ∈ vs, v.cells.size = sz) → (k + vs.length) * sz ≤ cs.length →
  Instr.fill (fun i => some (i * sz, sz)) cs.toArray (num k vs) = some (cs.take (k * sz) ++ vcells vs ++ cs.drop ((k + vs.length) * sz)).toArray
 | [], k, cs, _, _ => by simp [Instr.fill, num, vcells]
 | v :: vs, k, cs, h, hl => by
  have hv := h v (by simp)
  have e1 : (k + 1) * sz + vs.length * sz = (k + (v :: vs).length) * sz := by rw [← Nat.add_mul]; congr 1; simp; omega
  have e2 : (k + 1) * sz = k * sz + sz := by rw [Nat.add_mul]; simp
  have hle : k * sz + sz ≤ cs.length := by
   have : (k + 1) * sz ≤ (k + (v :: vs).length) * sz := Nat.mul_le_mul_right _ (by simp)
   omega
  simp only [num, Instr.fill]
  have hz : ((v.cells.zipIdx).foldl (fun (cs : Array Value) (p : Value × Nat) => cs.setIfInBounds (k * sz + p.2) p.1) cs.toArray) = (cs.take (k * sz) ++ v.cells.toList ++ cs.drop (k * sz + sz)).toArray := by
   have := foldl_set (k * sz) v.cells.toList 0 cs (by simp [hv]; omega)
   simp only [Nat.add_zero, Array.length_toList, hv] at this
   rw [← this, ← Array.foldl_toList, Array.toList_zipIdx]
  have hc : (decide (v.cells.size ≠ sz) || decide (k * sz + v.cells.size > cs.toArray.size)) = false := by simp [hv]; omega
  rw [if_neg (by rw [hc]; simp)]
  have := fill_num vs (k + 1) (cs.take (k * sz) ++ v.cells.toList ++ cs.drop (k * sz + sz)) (fun u hu => h u (by simp [hu])) (by
   have h9 : (k + 1 + vs.length) * sz = (k + (v :: vs).length) * sz := by congr 1; simp; omega
   have h10 : (cs.take (k * sz) ++ v.cells.toList ++ cs.drop (k * sz + sz)).length = cs.length := by simp [hv]; omega
   rw [h9, h10]
   exact hl)
  refine Eq.trans ?_ (this.trans ?_)
  ·congr 1
  ·congr 2
   have l1 : (cs.take (k * sz) ++ v.cells.toList).length = (k + 1) * sz := by simp [hv]; omega
   rw [List.take_append_of_le_length (by omega), List.take_of_length_le (by omega)]
   have l2 : (k + 1 + vs.length) * sz = (k + 1) * sz + vs.length * sz := by rw [Nat.add_mul]
   rw [List.drop_append, List.drop_eq_nil_of_le (by rw [l1]; omega), l1, List.nil_append, List.drop_drop]
   simp only [vcells, List.flatMap_cons, List.append_assoc]
   congr 4
   rw [← e1]; omega
section
variable {δ : List Nat} {ro : Option Nat} {P : Program} {W0 : Bse} {m : M} {L : List (Nat × List Value)} {TL : List (Nat × Value)} {n : Nat} {a : Act} {l : List (Nat × Value)} {w : World} {ty t t2 e : TypeId} {pos : String} {aft : Array Edge} {g : Option (Nat × Bool)} {x y : Operand} {d : Nat} {α : Type} {k : Kd α} {by_ N : Nat}
theorem lenOf_sl {v : Value} {xs : List α} (hv : RV (kSl k) m v xs) (w : World) : (Builtin.lenOf v).run P w = .ok xs.length w := by
 obtain ⟨ad, cap, rfl, _⟩ := RV_sl hv
 simp [Builtin.lenOf]
theorem st_app {i : Nat} {v u : Value} {xs ys zs : List α} (hE : EnvD δ n a l) (hS : S W0 m w L TL) (hx : evl l x = some v) (hy : evl l y = some u) (hu : P.underlying t = some (.slice e)) (hu2 : P.underlying t2 = some (.slice e)) (hel : ElOK P e k.sz by_) (hT : TL[i]? = some (k.sz, v)) (hv : RV (kSl k) m v xs) (hw : RV (kSl k) m u ys) (happ : app N xs ys = some zs)
  (hN : Nat.ble (N * by_) 140737488355328 = true) (hM : Nat.ble N 281474976710656 = true) :
  Step P ⟨some d, .call ⟨.builtin .append, #[x, y], #[t, t2]⟩, ty, pos, aft, g⟩ a w (fun v' w' => ∃ m', M.le m m' ∧ S W0 m' w' L (TL.set i (k.sz, v')) ∧ RV (kSl k) m' v' zs) := by
 obtain ⟨hle, rfl⟩ := app_some happ
 obtain ⟨news, hR, hf, _⟩ := firstCells_run (P := P) hS hw
 obtain ⟨v', m', w', hrun, h1, h2, h3⟩ := append_cells (tx := t2) (ty := ty) hS hu (.inl ⟨e, hu2⟩) hel hT hv (lenOf_sl hw w) hf hR
  (by have := Nat.mul_le_mul_right by_ hle; have := Nat.le_of_ble_eq_true hN; omega) (by have := Nat.le_of_ble_eq_true hM; unfold maxSz; omega)
 have hr : Run1 P ⟨some d, .call ⟨.builtin .append, #[x, y], #[t, t2]⟩, ty, pos, aft, g⟩ a w v' w' := by
  simp [Run1, execOp, resolve, invoke, builtin, hE.eval hx, hE.eval hy, hrun]
 exact hr.step ⟨m', h1, h2, h3⟩
theorem bts_cells {m : M} {s : List Int} (hs : ∀ n ∈ s, 0 ≤ n ∧ n < 256) : Rl (kInt .u8) m (s.map (Value.int .u8)) s := by
 refine ⟨by simp [kInt], fun i hi => ?_⟩
 have hb := hs s[i] (List.getElem_mem hi)
 refine ⟨?_, ?_⟩
 ·simp only [kInt, Nat.mul_one]
  rw [List.drop_eq_getElem_cons (by simpa using hi)]
  simp
 ·unfold inR IntKind.wrap
  simp [IntKind.bits, IntKind.signed]
  omega
theorem u8_back {n : Int} (h : 0 ≤ n ∧ n < 256) : ((UInt8.ofNat n.toNat).toNat : Int) = n := by
 simp [UInt8.toNat_ofNat']
 omega
def prt (l : List (Nat × Value)) (ps : Array (Nat × Operand)) : Option (List (Nat × Value)) := ps.toList.mapM fun p => (evl l p.2).map fun v => (p.1, v)
theorem prt_eval (hE : EnvD δ n a l) {ps : Array (Nat × Operand)} {vs : List (Nat × Value)} (h : prt l ps = some vs) : (ps.map fun p => (p.1, a.eval p.2)).toList = vs := by
 obtain ⟨ps⟩ := ps
 unfold prt at h
 simp only at h
 have : ∀ (ps : List (Nat × Operand)) (vs : List (Nat × Value)), (ps.mapM fun p => (evl l p.2).map fun v => (p.1, v)) = some vs → ps.map (fun p => (p.1, a.eval p.2)) = vs := by
  intro ps
  induction ps with
  | nil => intro vs h; simp at h; simp [h]
  | cons p r ih =>
   intro vs h
   simp only [List.mapM_cons, Option.bind_eq_bind, Option.pure_def] at h
   cases hx : evl l p.2 with
   | none => simp [hx] at h
   | some v =>
    cases hr : r.mapM (fun p => (evl l p.2).map fun v => (p.1, v)) with
    | none => simp [hx, hr] at h
    | some us =>
     simp [hx, hr] at h
     subst h
     simp [hE.eval hx, ih us hr]
 simp [this ps vs h]
theorem st_lit {ps : Array (Nat × Operand)} {vs : List Value} {xs : List α} {z : Value} (hE : EnvD δ n a l) (hS : S W0 m w L TL) (hp : prt l ps = some (num 0 vs)) (hu : P.underlying t = some (.slice e)) (hs : ∀ w, (sizeOf e).run P w = .ok k.sz w) (hz : ∀ w, (zeroValue e).run P w = .ok z w) (hv : RVl k m vs xs)
  {len : Nat} (hlen : vs.length = len) (hsmall : Nat.ble (len * k.sz) 16777216 = true) :
  Step P ⟨some d, .buildSlice t len ps, ty, pos, aft, g⟩ a w (fun v' w' => ∃ m', M.le m m' ∧ S W0 m' w' L ((k.sz, v') :: TL) ∧ RV (kSl k) m' v' xs) := by
 have hR := hv.cells
 have hlx := hv.length
 have hsm := Nat.le_of_ble_eq_true hsmall
 subst hlen
 have hpos := k.pos
 have hzl : ∃ zs : List Value, zs.length = vs.length * k.sz ∧ (Instr.buildSlice t vs.length (ps.map fun p => (p.1, a.eval p.2))).run P w = .ok (.slice (some ⟨w.heap.size, 0, none⟩) vs.length vs.length) (w.alloc (.cells (vcells vs).toArray e)) := by
  refine ⟨List.replicate (vs.length * k.sz) undef, by simp, ?_⟩
  have hfill := fun (cs : Array Value) (hcs : cs.size = vs.length * k.sz) => by
   have := fill_num (sz := k.sz) vs 0 cs.toList hv.size (by simp [hcs])
   simpa [hcs, List.take_zero, List.drop_eq_nil_of_le (show cs.toList.length ≤ vs.length * k.sz by simp [hcs])] using this
  simp only [Instr.buildSlice, Sem.run_bind, run_underlying hu, Result.andThen_ok, hs, prt_eval hE hp]
  rw [if_neg (by omega)]
  by_cases h0 : vs.length * k.sz = 0
  ·simp only [h0, if_true, Sem.run_bind, Sem.run_pure, Result.andThen_ok]
   have := hfill ((Array.range 0).map (fun x => (#[] : Array Value)[x % (#[] : Array Value).size]!)) (by simp [h0])
   rw [this]
   simp [newRow]
  ·simp only [h0, if_false, Sem.run_bind, hz, Sem.run_pure, Result.andThen_ok]
   have := hfill ((Array.range (vs.length * k.sz)).map (fun x => z.cells[x % z.cells.size]!)) (by simp)
   rw [this]
   simp [newRow]
 obtain ⟨_, _, hrun⟩ := hzl
 have hr : Run1 P ⟨some d, .buildSlice t vs.length ps, ty, pos, aft, g⟩ a w (.slice (some ⟨w.heap.size, 0, none⟩) vs.length vs.length) (w.alloc (.cells (vcells vs).toArray e)) := by
  simp [Run1, execOp, hrun]
 obtain ⟨hle, hS'⟩ := hS.allocM (vcells vs) e
 refine hr.step ⟨_, hle, ?_, ?_⟩
 ·refine ⟨hS'.below, hS'.imm, hS'.own, hS'.nodup, fun i e' he => ?_, fun i j e1 e2 he1 he2 hij => ?_⟩
  ·cases i with
   | zero => simp at he; subst he; exact ⟨by simp, .inl rfl⟩
   | succ i => exact hS'.tails i e' (by simpa using he)
  ·have old : ∀ (i : Nat) (e' : Nat × Value), TL[i]? = some e' → sblk e'.2 ≠ some w.heap.size := fun i e' he hb => by
    have := tail_lt (hS.tails i e' he) hb; omega
   intro b hb hb'
   cases i with
   | zero =>
    simp at he1; subst he1
    cases j with
    | zero => omega
    | succ j => simp [sblk] at hb; subst hb; exact old j e2 (by simpa using he2) hb'
   | succ i =>
    cases j with
    | zero => simp at he2; subst he2; simp [sblk] at hb'; subst hb'; exact old i e1 (by simpa using he1) hb
    | succ j => exact hS'.apart i j e1 e2 (by simpa using he1) (by simpa using he2) (by omega) b hb hb'
 ·rw [hlx]
  refine RV_of_sl (Nat.le_refl _) (by unfold maxSz; have := Nat.mul_le_mul_left vs.length hpos; simp at this; omega) ⟨fun _ => rfl, ?_⟩
  exact row_of_Rl (M.put_same _ _ _) (hR.mono hle) (by simp)
def mk {α : Type} (N : Nat) (n : Int) (z : α) : Option (List α) := if 0 ≤ n ∧ n ≤ (N : Int) then some (List.replicate n.toNat z) else none
theorem st_make {kk kc : IntKind} {i : Int} {xs : List α} {x0 : α} {inf : TypeInfo} {z : Value} (hE : EnvD δ n a l) (hS : S W0 m w L TL) (hx : evl l x = some (.int kk i)) (hy : evl l y = some (.int kc i)) (hu : P.underlying t = some (.slice e)) (hi : P.info? e = some inf) (hz : inf.zero = some z) (hsz : inf.size = k.sz) (hby : inf.bytes = by_) (hz0 : ∀ m, k.R m z.cells.toList x0)
  (hmk : mk N i x0 = some xs) (hN : Nat.ble (N * by_) 281474976710656 = true) (hM : Nat.ble N 281474976710656 = true) :
  Step P ⟨some d, .makeSlice t x y, ty, pos, aft, g⟩ a w (fun v w' => ∃ b cs, v = .slice (some ⟨b, 0, none⟩) xs.length xs.length ∧ Rl k m cs xs ∧ S W0 m w' ((b, cs) :: L) TL) := by
 unfold mk at hmk
 split at hmk
 ·rename_i h0
  injection hmk with hmk
  subst hmk
  have hb := Nat.le_of_ble_eq_true hN
  have hM' := Nat.le_of_ble_eq_true hM
  have hrun := run_make (P := P) w t e inf z hu hi hz kk kc i i h0.1 (Int.le_refl _) (by
   rw [hby]
   have h1 : (by_ : Int) * i ≤ by_ * N := Int.mul_le_mul_of_nonneg_left h0.2 (by omega)
   have h2 : ((N * by_ : Nat) : Int) = by_ * N := by rw [Int.natCast_mul, Int.mul_comm]
   omega) (by omega)
  have hr : Run1 P ⟨some d, .makeSlice t x y, ty, pos, aft, g⟩ a w (.slice (some ⟨w.heap.size, 0, none⟩) i.toNat i.toNat) (w.alloc (.cells (madeCells z.cells (i.toNat * inf.size)) e)) := by
   simp [Run1, execOp, hE.eval hx, hE.eval hy, hrun]
  have hzl := k.len (hz0 m)
  have hpos := k.pos
  have hcells : ∀ q : Nat, Rl k m (madeCells z.cells (q * k.sz)).toList (List.replicate q x0) := fun q => by
   refine ⟨by simp [madeCells], fun j hj => ?_⟩
   simp only [List.getElem_replicate]
   have hj' : j < q := by simpa using hj
   have e1 : ((madeCells z.cells (q * k.sz)).toList.drop (j * k.sz)).take k.sz = z.cells.toList := by
    apply List.ext_getElem?
    intro r
    rw [List.getElem?_take, List.getElem?_drop]
    have h2 : j * k.sz + k.sz ≤ q * k.sz := by
     have := Nat.mul_le_mul_right k.sz (show j + 1 ≤ q by omega)
     rw [Nat.add_mul] at this; omega
    by_cases hr' : r < k.sz
    ·rw [if_pos hr']
     have hzs : z.cells.size = k.sz := by simpa using hzl
     have h3 : (j * k.sz + r) % k.sz = r := by rw [Nat.mul_comm, Nat.mul_add_mod]; exact Nat.mod_eq_of_lt hr'
     have h4 : j * k.sz + r < q * k.sz := by omega
     have hrz : r < z.cells.size := by omega
     have h5 : z.cells[r]! = z.cells[r] := getElem!_pos z.cells r hrz
     simp [madeCells, h4, hzs, h3, h5, Array.getElem?_eq_getElem hrz]
    ·rw [if_neg hr']
     have hzs : z.cells.toList.length = k.sz := hzl
     rw [List.getElem?_eq_none (by omega)]
   rw [e1]; exact hz0 m
  refine hr.step ⟨w.heap.size, _, by simp, hcells i.toNat, ?_⟩
  have := hS.allocL (madeCells z.cells (i.toNat * k.sz)).toList e
  rw [hsz]
  simpa using this
 ·cases hmk
theorem r_bytes {v : Value} {xs : List Int} (hE : EnvD δ n a l) (hS : S W0 m w L TL) (hx : evl l x = some v) (hs : P.underlying t = some (.slice e)) (he : P.underlying e = some (.int .u8)) (h2 : P.underlying t2 = some .string) (hv : RV (kSl (kInt .u8)) m v xs) :
  Run1 P ⟨some d, .convert t t2 x, ty, pos, aft, g⟩ a w (.string (bts xs)) w := by
 obtain ⟨ad, cap, rfl, h3, h4, h5⟩ := RV_sl hv
 cases ad with
 | none =>
  simp only at h5
  have : xs = [] := List.eq_nil_of_length_eq_zero (by omega)
  subst this
  have hr := run_convert_bytes_nil (P := P) w t e hs he ([] : List Int).length cap t2 h2
  simp only [Run1, execOp, hE.eval hx, Sem.run_bind, hr]
  rfl
 | some ad =>
  obtain ⟨b, o, sp⟩ := ad
  obtain ⟨hsp, hR⟩ := h5
  rcases Nat.eq_zero_or_pos cap with hc0 | hc0
  ·have : xs = [] := List.eq_nil_of_length_eq_zero (by omega)
   subst this
   have hr : (convert t t2 (.slice (some ⟨b, o, sp⟩) 0 cap)).run P w = .ok (.string (bts [])) w := by
    rw [run_convert_bytes_string w t t2 e _ 0 cap hs he h2]
    simp [Conv.bytesToString, loadCells, loadCellsFrom]
    rfl
   simp only [Run1, execOp, hE.eval hx, Sem.run_bind, List.length_nil, hr]
   rfl
  replace hsp := hsp hc0
  simp only at hsp; subst hsp
  have hcell : ∀ i, i < xs.length → w.cell? ⟨b, o + i, none⟩ = some (.int .u8 (xs.getD i 0)) := fun i hi => by
   have h1 := hR i hi
   simp only [kInt, Nat.mul_one] at h1
   have hA := hS.atM (b := b) (o := o + i) (sz := 1) (by rw [h1.1]; rfl) (by decide)
   rw [h1.1] at hA
   have := hA.cell (j := 0) rfl
   simpa [List.getD, List.getElem?_eq_getElem hi] using this
  have hr := run_convert_bytes_arg (P := P) w t e hs he b o xs.length cap xs rfl hcell t2 h2
  simp only [Run1, execOp, hE.eval hx, Sem.run_bind, hr]
  rfl
theorem bts_inj {s u : List Int} (hs : ∀ n ∈ s, 0 ≤ n ∧ n < 256) (hu : ∀ n ∈ u, 0 ≤ n ∧ n < 256) : ((bts s).toList == (bts u).toList) = decide (s = u) := by
 rw [ByteArray.toList_eq, ByteArray.toList_eq]
 show (s.map (fun n => UInt8.ofNat n.toNat) == u.map (fun n => UInt8.ofNat n.toNat)) = _
 rw [Bool.eq_iff_iff, beq_iff_eq, decide_eq_true_iff]
 constructor
 ·intro h
  have h1 := congrArg (List.map fun c : UInt8 => (c.toNat : Int)) h
  simp only [List.map_map] at h1
  have key : ∀ s : List Int, (∀ n ∈ s, 0 ≤ n ∧ n < 256) → s.map ((fun c : UInt8 => (c.toNat : Int)) ∘ fun n => UInt8.ofNat n.toNat) = s := fun s hs => by
   conv => rhs; rw [← List.map_id s]
   exact List.map_congr_left fun n hn => u8_back (hs n hn)
  rw [key s hs, key u hu] at h1
  exact h1
 ·intro h; rw [h]
theorem r_eqlS {s u : List Int} (hE : EnvD δ n a l) (hx : evl l x = some (.string (bts s))) (hy : evl l y = some (.string (bts u))) (hs : ∀ n ∈ s, 0 ≤ n ∧ n < 256) (hu : ∀ n ∈ u, 0 ≤ n ∧ n < 256) :
  Run1 P ⟨some d, .binOp .eql t x y t2, ty, pos, aft, g⟩ a w (.bool (decide (s = u))) w := by
 simp [Run1, execOp, hE.eval hx, hE.eval hy, eqGuard_at_string, binOp_string_eql, ← bts_inj hs hu]
theorem r_neqS {s u : List Int} (hE : EnvD δ n a l) (hx : evl l x = some (.string (bts s))) (hy : evl l y = some (.string (bts u))) (hs : ∀ n ∈ s, 0 ≤ n ∧ n < 256) (hu : ∀ n ∈ u, 0 ≤ n ∧ n < 256) :
  Run1 P ⟨some d, .binOp .neq t x y t2, ty, pos, aft, g⟩ a w (.bool (!decide (s = u))) w := by
 simp [Run1, execOp, hE.eval hx, hE.eval hy, eqGuard_at_string, binOp_string_neq, ← bts_inj hs hu]
def ltB : List Int → List Int → Bool
 | _, [] => false
 | [], _ :: _ => true
 | a :: x, b :: y => decide (a < b) || (a == b && ltB x y)
theorem ltB_bts : ∀ {s u : List Int}, (∀ n ∈ s, 0 ≤ n ∧ n < 256) → (∀ n ∈ u, 0 ≤ n ∧ n < 256) → Op.bytesLess (bts s).toList (bts u).toList = ltB s u := by
 intro s u hs hu
 rw [ByteArray.toList_eq, ByteArray.toList_eq]
 show Op.bytesLess (s.map (fun n => UInt8.ofNat n.toNat)) (u.map (fun n => UInt8.ofNat n.toNat)) = _
 induction s generalizing u with
 | nil => cases u <;> simp [Op.bytesLess, ltB]
 | cons a x ih =>
  cases u with
  | nil => simp [Op.bytesLess, ltB]
  | cons b y =>
   have ha := hs a (by simp)
   have hb := hu b (by simp)
   have hih := ih (u := y) (fun n hn => hs n (by simp [hn])) (fun n hn => hu n (by simp [hn]))
   simp only [List.map_cons, Op.bytesLess, ltB, hih]
   have h1 : decide (UInt8.ofNat a.toNat < UInt8.ofNat b.toNat) = decide (a < b) := by
    rw [decide_eq_decide, UInt8.lt_iff_toNat_lt]
    have e1 := u8_back ha
    have e2 := u8_back hb
    omega
   have h2 : (UInt8.ofNat a.toNat == UInt8.ofNat b.toNat) = (a == b) := by
    rw [Bool.eq_iff_iff, beq_iff_eq, beq_iff_eq]
    constructor
    ·intro h
     have := congrArg (fun c : UInt8 => (c.toNat : Int)) h
     simp only [u8_back ha, u8_back hb] at this
     exact this
    ·intro h; rw [h]
   rw [h1, h2]
theorem r_lssS {s u : List Int} (hE : EnvD δ n a l) (hx : evl l x = some (.string (bts s))) (hy : evl l y = some (.string (bts u))) (hs : ∀ n ∈ s, 0 ≤ n ∧ n < 256) (hu : ∀ n ∈ u, 0 ≤ n ∧ n < 256) :
  Run1 P ⟨some d, .binOp .lss t x y t2, ty, pos, aft, g⟩ a w (.bool (ltB s u)) w := by
 simp [Run1, execOp, hE.eval hx, hE.eval hy, eqGuard_at_string, binOp_string_lss, ltB_bts hs hu]
theorem st_call {f : FuncId} {xs : Array Operand} {tys : Array TypeId} {vs : List Value} {R : Value → World → Prop} (hE : EnvD δ n a l) (ha : argl l xs = some vs) (hcall : ∀ vs w, (callFunc f vs).run P w = .ok (.enter f vs) w) (hc : Calls P f vs.toArray w (Ret R)) :
  Step P ⟨some d, .call ⟨.value (.func f), xs, tys⟩, ty, pos, aft, g⟩ a w R := by
 intro ro Kk Q hk
 have hrun : (execOp a.eval ⟨some d, .call ⟨.value (.func f), xs, tys⟩, ty, pos, aft, g⟩).run P w = .ok (.enter f vs.toArray) w := by
  simp [execOp, resolve, Act.eval, Deferred.ofValue, invoke, argl_eval hE ha, hcall]
 refine wpR_enter hrun (hc.mono fun e w' he => ?_)
 cases e with
 | returned v => exact hk v w' he
 | panicked ch => exact he.elim
 | outgrown => exact he.elim
end
end Go.Proofs.YthbonoagbeilkaaGreat.Hay
namespace Go.Proofs.YthbonoagbeilkaaGreat.Hay
open Go.RowKit (Below)

inductive ResL (P : Program) (a : Act) (w : World) : List ResultVar → List Value → Prop
 | nil : ResL P a w [] []
 | cons {r : ResultVar} {rs : List ResultVar} {v : Value} {vs : List Value} (h : (match r with | .tmp t => (pure (a.tmps.getD t undef) : Sem Value) | .cell b t => do loadVar t (← asAddr (a.tmps.getD b undef))).run P w = .ok v w) (k : ResL P a w rs vs) : ResL P a w (r :: rs) (v :: vs)
section
variable {δ : List Nat} {ro : Option Nat} {P : Program} {W0 : Bse} {m : M} {L : List (Nat × List Value)} {TL : List (Nat × Value)} {n : Nat} {a : Act} {l : List (Nat × Value)} {w : World}
theorem ResL.tmp {t : Nat} {rs : List ResultVar} {v : Value} {vs : List Value} (hE : EnvD δ n a l) (h : lk l t = some v) (k : ResL P a w rs vs) : ResL P a w (.tmp t :: rs) (v :: vs) :=
 .cons (by simp only; rw [hE.at_ t v h]; rfl) k
theorem ResL.cell {α : Type} {k : Kd α} {b c t i o : Nat} {cs : List Value} {xx : α} {rs : List ResultVar} {vs : List Value} (hE : EnvD δ n a l) (hS : S W0 m w L TL) (hT : TyOK P t k) (h : lk l c = some (.pointer (some ⟨b, o, none⟩))) (hL : L[i]? = some (b, cs)) (hR : k.R m ((cs.drop o).take k.sz) xx) (kk : ResL P a w rs vs) :
  ResL P a w (.cell c t :: rs) (k.val ((cs.drop o).take k.sz) :: vs) :=
 .cons (by
  have hA : At w b o ((cs.drop o).take k.sz) := hS.atL hL (by rw [k.len hR]) (by rw [k.len hR]; exact k.pos)
  simp only; rw [hE.at_ c _ h]
  simp [asAddr, run_load_val hT hR hA]) kk
theorem run_mapM_res (rs : List ResultVar) (vs : List Value) (h : ResL P a w rs vs) : ∀ (f : ResultVar → Sem Value), (∀ r, f r = (match r with | .tmp t => (pure (a.tmps.getD t undef) : Sem Value) | .cell b t => do loadVar t (← asAddr (a.tmps.getD b undef)))) → (rs.mapM f).run P w = .ok vs w := by
 intro f hf
 induction h with
 | nil => simp
 | cons h1 _ ih => rw [← hf] at h1; simp [List.mapM_cons, h1, ih]
theorem Fin.mk {fn : Func} {rs : List ResultVar} {vs : List Value} {R : Value → World → Prop} (hE : Env n a l) (hr : fn.results.toList = rs) (h : ResL P a w rs vs) (hR : R (tup vs) w) : Fin P fn R a w := by
 refine ⟨_, ?_, hE.defers, hR⟩
 unfold results
 rw [Array.mapM_eq_mapM_toList]
 simp only [Sem.run_bind, Sem.run_map]
 rw [hr, run_mapM_res rs vs h _ (fun r => by cases r <;> rfl)]
 simp only [Result.andThen_ok, Sem.run_pure]
 congr 1
 match vs with
 | [] => rfl
 | [v] => rfl
 | v :: u :: r => simp [tup]
theorem RV_int {k : IntKind} {v : Value} {x : Int} (h : RV (kInt k) m v x) : v = .int k x ∧ inR k x := by
 obtain ⟨cs, ⟨rfl, hr⟩, rfl⟩ := h
 exact ⟨rfl, hr⟩
theorem RV_bool {v : Value} {x : Bool} (h : RV kBool m v x) : v = .bool x := by
 obtain ⟨cs, rfl, rfl⟩ := h
 rfl
theorem RV_str {v : Value} {x : List Int} (h : RV kStr m v x) : v = .string (bts x) ∧ (∀ n ∈ x, 0 ≤ n ∧ n < 256) ∧ x.length ≤ maxSz := by
 obtain ⟨cs, ⟨rfl, hr⟩, rfl⟩ := h
 exact ⟨rfl, hr⟩
theorem RV_of_int {k : IntKind} {x : Int} (h : inR k x) : RV (kInt k) m (.int k x) x := ⟨_, ⟨rfl, h⟩, rfl⟩
theorem RV_of_bool {x : Bool} : RV kBool m (.bool x) x := ⟨_, rfl, rfl⟩
theorem RV_of_str {x : List Int} (h : ∀ n ∈ x, 0 ≤ n ∧ n < 256) (h2 : x.length ≤ maxSz) : RV kStr m (.string (bts x)) x := ⟨_, ⟨rfl, h, h2⟩, rfl⟩
theorem RV_nil {α : Type} {k : Kd α} : RV (kSl k) m (.slice none 0 0) [] := RV_of_sl (a := none) (by simp) (by simp) rfl
theorem RV_of_R {α : Type} {k : Kd α} {cs : List Value} {x : α} (h : k.R m cs x) : RV k m (k.val cs) x := ⟨cs, h, rfl⟩
theorem RV_bytes {v : Value} {xs : List Int} (h : RV (kSl (kInt .u8)) m v xs) : ∀ n ∈ xs, 0 ≤ n ∧ n < 256 := by
 obtain ⟨ad, cap, rfl, h3, h4, h5⟩ := RV_sl h
 intro n hn
 obtain ⟨i, hi, rfl⟩ := List.mem_iff_getElem.1 hn
 cases ad with
 | none => simp only at h5; omega
 | some ad =>
  have := (h5.2 i hi).2
  unfold inR IntKind.wrap at this
  simp [IntKind.bits, IntKind.signed] at this
  omega
theorem RV_len {α : Type} {k : Kd α} {v : Value} {xs : List α} (h : RV (kSl k) m v xs) : xs.length ≤ maxSz := by
 obtain ⟨ad, cap, rfl, h3, h4, h5⟩ := RV_sl h
 exact h4

def Sub (l : List (Nat × Value)) : List (Nat × Value) → Prop
 | [] => True
 | (i, v) :: r => lk l i = some v ∧ Sub l r
theorem Sub.all : ∀ {l l' : List (Nat × Value)}, Sub l l' → ∀ e ∈ l', lk l e.1 = some e.2
 | _, [], _, e, h => by simp at h
 | l, (i, v) :: r, h, e, he => by
  rcases List.mem_cons.1 he with rfl | he
  ·exact h.1
  ·exact Sub.all h.2 e he
def preds (o : Oper) : List Nat := (o.after.toList.filter fun e => Region.binds .any e).map (·.on)
def dstOf (ops : Array Oper) (i : Nat) : Option Nat := (ops[i]?).bind (·.dst)
def edgesOK (os : List Oper) : Bool := os.zipIdx.all fun p => (preds p.1).all fun e => Nat.blt e p.2
theorem edgesOK_at {os : List Oper} (h : edgesOK os = true) {i : Nat} {o : Oper} (hi : os[i]? = some o) : ∀ e ∈ preds o, e < i := by
 intro e he
 have h1 := List.all_eq_true.1 h (o, i) (by rw [List.mem_zipIdx_iff_getElem?]; simp [hi])
 exact Nat.le_of_ble_eq_true (List.all_eq_true.1 h1 e he)
theorem ready_iff {os : List Oper} {listed : Array Bool} {i : Nat} : i ∈ Region.ready .any os.toArray listed ↔ ∃ o, os[i]? = some o ∧ listed.getD i true = false ∧ ∀ e ∈ preds o, listed.getD e false = true := by
 unfold Region.ready
 simp only [List.mem_filter, List.mem_range, List.size_toArray, Bool.and_eq_true, Bool.not_eq_true']
 constructor
 ·rintro ⟨h1, h2, h3⟩
  obtain ⟨o, ho⟩ : ∃ o, os[i]? = some o := ⟨os[i], by simp [h1]⟩
  refine ⟨o, ho, h2, fun e he => ?_⟩
  simp only [List.getElem?_toArray, ho, Option.map_some, Option.getD_some] at h3
  rw [Array.all_eq_true_iff_forall_mem] at h3
  unfold preds at he
  simp only [List.mem_map, List.mem_filter, Array.mem_toList_iff] at he
  obtain ⟨ed, ⟨hm, hb⟩, rfl⟩ := he
  have := h3 ed hm
  simpa [hb] using this
 ·rintro ⟨o, ho, h2, h3⟩
  refine ⟨(List.getElem?_eq_some_iff.1 ho).1, h2, ?_⟩
  simp only [List.getElem?_toArray, ho, Option.map_some, Option.getD_some]
  rw [Array.all_eq_true_iff_forall_mem]
  intro ed hm
  cases hb : Region.binds .any ed with
  | false => simp
  | true =>
   have := h3 ed.on (by unfold preds; simp only [List.mem_map, List.mem_filter, Array.mem_toList_iff]; exact ⟨ed, ⟨hm, hb⟩, rfl⟩)
   simp [this]
def cov (os : List Oper) : Nat → List Nat → List Nat
 | 0, js => js
 | f + 1, js => js ++ cov os f (js.flatMap fun j => match os[j]? with | some o => preds o | none => [])
def tailOK (os : List Oper) (k : Nat) : Bool :=
 (match os[k]? with | some o => (let c := cov os 12 (preds o); (List.range k).all fun j => c.any fun e => Nat.beq j e) | none => true) &&
 (os.zipIdx.all fun p => Nat.ble p.2 k || (preds p.1).any fun e => Nat.beq (e + 1) p.2)
def upd (s : Nat → Bool) (i : Nat) : Nat → Bool := fun j => if j = i then true else s j
theorem kany {os : List Oper} {id k : Nat} {N Rt : Act → World → Prop} {X : List (Nat × (Act → World → Prop))} (hm : P.follows .mixedOrders = true) (hed : edgesOK os = true) (htl : tailOK os k = true) (J : (Nat → Bool) → Act → World → Prop)
  (h0 : J (fun _ => false) a w.drew)
  (step : ∀ (i : Nat) (o : Oper), os[i]? = some o → i < k → ∀ s a w, J s a w → s i = false → (∀ e ∈ preds o, s e = true) → (∀ (j : Nat) (o' : Oper), os[j]? = some o' → s j = true → ∀ e ∈ preds o', s e = true) →
   if Region.wanted o (yielded os.toArray a.tmps) = true then Step P o a w (fun v w' => J (upd s i) (a.put o.dst v) w') else J (upd s i) (a.put o.dst undef) w)
  (fin : ∀ s a w, J s a w → (∀ j, j < k → j < os.length → s j = true) → wpL ro P os.toArray (mkQ N X Rt) (os.drop k) a w) : K ro P (.region id os.toArray true) N X Rt a w := by
 refine wpIn_region_any hm ?_
 unfold tailOK at htl
 rw [Bool.and_eq_true] at htl
 have hcl : ∀ (s : Nat → Bool), (∀ (j : Nat) (o' : Oper), os[j]? = some o' → s j = true → ∀ e ∈ preds o', s e = true) → ∀ f js, (∀ e ∈ js, s e = true) → ∀ e ∈ cov os f js, s e = true := by
  intro s hc f
  induction f with
  | zero => exact fun js h => h
  | succ f ih =>
   intro js h e he
   rcases List.mem_append.1 he with he | he
   ·exact h e he
   ·refine ih _ (fun e' he' => ?_) e he
    obtain ⟨j, hj, hj'⟩ := List.mem_flatMap.1 he'
    cases ho : os[j]? with
    | none => simp [ho] at hj'
    | some o' => simp [ho] at hj'; exact hc j o' ho (h j hj) e' hj'
 have same : ∀ (listed : Array Bool), listed.size = os.length → ∀ j, j < os.length → listed.getD j true = listed.getD j false := fun listed hsz j hj => by
  simp [Array.getD, show j < listed.size by omega]
 have get : ∀ (listed : Array Bool) i j q, i < listed.size → (listed.setIfInBounds i true).getD j q = if j = i then true else listed.getD j q := fun listed i j q hi => by
  simp only [Array.getD_eq_getD_getElem?, Array.getElem?_setIfInBounds]
  by_cases e : i = j
  ·subst e; simp [hi]
  ·simp [e, show ¬ j = i from fun x => e x.symm]
 have closedUpd : ∀ (s : Nat → Bool) i o, os[i]? = some o → (∀ e ∈ preds o, s e = true) → (∀ (j : Nat) (o' : Oper), os[j]? = some o' → s j = true → ∀ e ∈ preds o', s e = true) → (∀ (j : Nat) (o' : Oper), os[j]? = some o' → upd s i j = true → ∀ e ∈ preds o', upd s i e = true) := by
  intro s i o ho hp hc j o' hj hs e he
  unfold upd at *
  by_cases e1 : e = i
  ·simp [e1]
  ·rw [if_neg e1]
   by_cases e2 : j = i
   ·subst e2; rw [ho] at hj; injection hj with hj; subst hj; exact hp e he
   ·rw [if_neg e2] at hs; exact hc j o' hj hs e he
 -- the operations behind the others, one by one
 have suffix : ∀ (fuel i : Nat) (listed : Array Bool) (a : Act) (w : World), listed.size = os.length → k ≤ i → i + fuel = os.length → (∀ j, j < i → j < os.length → listed.getD j false = true) → (∀ j, i ≤ j → listed.getD j false = false) →
   wpL ro P os.toArray (mkQ N X Rt) (os.drop i) a w → wpAnyIn (Fr ro) 0 P .any os.toArray (mkQ N X Rt) fuel listed a w := by
  intro fuel
  induction fuel with
  | zero =>
   intro i listed a w hsz hki hlen hall hrest h
   refine ⟨?_, ?_⟩
   ·rw [List.eq_nil_iff_forall_not_mem]
    intro j hj
    obtain ⟨o, ho, h1, _⟩ := ready_iff.1 hj
    have hlt := (List.getElem?_eq_some_iff.1 ho).1
    rw [same listed hsz j hlt, hall j (by omega) hlt] at h1
    cases h1
   ·rw [List.drop_eq_nil_of_le (by omega)] at h
    exact h
  | succ fuel ih =>
   intro i listed a w hsz hki hlen hall hrest h
   have hi : i < os.length := by omega
   have hr : ∀ j, j ∈ Region.ready .any os.toArray listed → j = i := by
    intro j hj
    obtain ⟨o, ho, h1, h2⟩ := ready_iff.1 hj
    have hlt := (List.getElem?_eq_some_iff.1 ho).1
    rw [same listed hsz j hlt] at h1
    rcases Nat.lt_trichotomy j i with hji | hji | hji
    ·rw [hall j hji hlt] at h1; cases h1
    ·exact hji
    ·exfalso
     have h3 := List.all_eq_true.1 htl.2 (o, j) (by rw [List.mem_zipIdx_iff_getElem?]; simp [ho])
     simp only [Bool.or_eq_true] at h3
     rcases h3 with h3 | h3
     ·have := Nat.le_of_ble_eq_true h3; omega
     ·obtain ⟨e, he, hb⟩ := List.any_eq_true.1 h3
      have he1 := Nat.eq_of_beq_eq_true hb
      have := h2 e he
      rw [hrest e (by omega)] at this
      cases this
   have hio : os[i]? = some os[i] := by simp [hi]
   have hin : i ∈ Region.ready .any os.toArray listed := ready_iff.2 ⟨os[i], hio, by rw [same listed hsz i hi]; exact hrest i (Nat.le_refl _), fun e he => by
    have := edgesOK_at hed hio e he
    exact hall e this (by omega)⟩
   refine ⟨fun hnil => by rw [hnil] at hin; simp at hin, fun j hj => ?_⟩
   have := hr j hj; subst this
   have hset : (listed.setIfInBounds j true).size = os.length := by simpa using hsz
   rw [List.drop_eq_getElem_cons hi] at h
   unfold wpL wpListIn at h
   unfold wpOpIn
   simp only [List.getElem?_toArray, hio]
   have next : ∀ a w, wpL ro P os.toArray (mkQ N X Rt) (os.drop (j + 1)) a w → wpAnyIn (Fr ro) 0 P .any os.toArray (mkQ N X Rt) fuel (listed.setIfInBounds j true) a w := fun a w hh =>
    ih (j + 1) _ a w hset (by omega) (by omega) (fun q hq hq' => by rw [get _ _ _ _ (by omega)]; split; rfl; exact hall q (by omega) hq') (fun q hq => by rw [get _ _ _ _ (by omega)]; rw [if_neg (by omega)]; exact hrest q (by omega)) hh
   split
   ·rename_i hw
    rw [if_pos hw] at h
    exact Oper.wpIn_mono next h
   ·rename_i hw
    rw [if_neg hw] at h
    exact ⟨fun _ _ => trivial, next _ _ h.2⟩
 have key : ∀ (fuel : Nat) (listed : Array Bool) (a : Act) (w : World), listed.size = os.length → J (fun j => listed.getD j false) a w →
   (∀ (j : Nat) (o' : Oper), os[j]? = some o' → listed.getD j false = true → ∀ e ∈ preds o', listed.getD e false = true) → (∀ j, k ≤ j → listed.getD j false = false) →
   ((List.range os.length).filter (fun j => !listed.getD j true)).length = fuel →
   wpAnyIn (Fr ro) 0 P .any os.toArray (mkQ N X Rt) fuel listed a w := by
  intro fuel
  induction fuel with
  | zero =>
   intro listed a w hsz hJ hc hk hcount
   have all : ∀ j, j < os.length → listed.getD j false = true := by
    intro j hj
    have h0 := List.eq_nil_of_length_eq_zero hcount
    have := List.eq_nil_iff_forall_not_mem.1 h0 j
    simp only [List.mem_filter, List.mem_range, Bool.not_eq_true', not_and] at this
    have := this hj
    rw [same listed hsz j hj] at this
    simpa using this
   have hkl : os.length ≤ k := by
    rcases Nat.lt_or_ge k os.length with h | h
    ·have := all k h; rw [hk k (Nat.le_refl _)] at this; cases this
    ·exact h
   have := fin _ a w hJ (fun j _ hj => all j hj)
   rw [List.drop_eq_nil_of_le hkl] at this
   refine ⟨?_, this⟩
   rw [List.eq_nil_iff_forall_not_mem]
   intro j hj
   obtain ⟨o, ho, h1, _⟩ := ready_iff.1 hj
   have hlt := (List.getElem?_eq_some_iff.1 ho).1
   rw [same listed hsz j hlt, all j hlt] at h1
   cases h1
  | succ fuel ih =>
   intro listed a w hsz hJ hc hk hcount
   by_cases hpre : ∀ j, j < k → j < os.length → listed.getD j false = true
   · -- all of the first are done
    have hf := fin _ a w hJ hpre
    have hklt : k < os.length := by
     rcases Nat.lt_or_ge k os.length with h | h
     ·exact h
     ·exfalso
      have : (List.range os.length).filter (fun j => !listed.getD j true) = [] := by
       rw [List.filter_eq_nil_iff]
       intro j hj
       have hj' : j < os.length := by simpa using hj
       rw [same listed hsz j hj', hpre j (by omega) hj']
       simp
      rw [this] at hcount
      simp at hcount
    have hfu : fuel + 1 = os.length - k := by
     have e1 : (List.range os.length).filter (fun j => !listed.getD j true) = (List.range' k (os.length - k)) := by
      have e2 : List.range os.length = List.range' 0 k ++ List.range' k (os.length - k) := by
       rw [List.range_eq_range']
       have := List.range'_append (s := 0) (m := k) (n := os.length - k) (step := 1)
       simp only [Nat.one_mul, Nat.zero_add] at this
       rw [this]; congr 1; omega
      rw [e2, List.filter_append]
      have e3 : (List.range' 0 k).filter (fun j => !listed.getD j true) = [] := by
       rw [List.filter_eq_nil_iff]
       intro j hj
       have hj' : j < k := by simpa [List.mem_range'] using hj
       rw [same listed hsz j (by omega), hpre j hj' (by omega)]
       simp
      have e4 : (List.range' k (os.length - k)).filter (fun j => !listed.getD j true) = List.range' k (os.length - k) := by
       rw [List.filter_eq_self]
       intro j hj
       have hj' : k ≤ j ∧ j < os.length := by
        have := List.mem_range'.1 hj
        obtain ⟨q, hq, rfl⟩ := this
        omega
       rw [same listed hsz j hj'.2, hk j hj'.1]
       rfl
      rw [e3, e4, List.nil_append]
     rw [e1] at hcount
     simpa using hcount.symm
    exact suffix (fuel + 1) k listed a w hsz (Nat.le_refl _) (by omega) (fun j hj hj' => hpre j hj hj') hk hf
   ·have inpre : ∀ i, i ∈ Region.ready .any os.toArray listed → i < k := by
     intro i hi
     obtain ⟨o, ho, h1, h2⟩ := ready_iff.1 hi
     have hlt := (List.getElem?_eq_some_iff.1 ho).1
     rcases Nat.lt_or_ge i k with h | h
     ·exact h
     ·exfalso
      rcases Nat.lt_or_eq_of_le h with h | h
      ·have h3 := List.all_eq_true.1 htl.2 (o, i) (by rw [List.mem_zipIdx_iff_getElem?]; simp [ho])
       simp only [Bool.or_eq_true] at h3
       rcases h3 with h3 | h3
       ·have := Nat.le_of_ble_eq_true h3; omega
       ·obtain ⟨e, he, hb⟩ := List.any_eq_true.1 h3
        have he1 := Nat.eq_of_beq_eq_true hb
        have := h2 e he
        rw [hk e (by omega)] at this
        cases this
      ·subst h
       have h3 := htl.1
       rw [ho] at h3
       simp only at h3
       exact hpre fun j hj hj' => by
        have := List.all_eq_true.1 h3 j (by simpa using hj)
        obtain ⟨e, he, hb⟩ := List.any_eq_true.1 this
        have he1 := Nat.eq_of_beq_eq_true hb
        subst he1
        exact hcl (fun j => listed.getD j false) hc 12 _ h2 j he
    have hne : Region.ready .any os.toArray listed ≠ [] := by
     intro hnil
     apply hpre
     intro j
     induction j using Nat.strongRecOn with
     | _ j ihj =>
      intro hj hj'
      cases hb : listed.getD j false with
      | true => rfl
      | false =>
       exfalso
       have : j ∈ Region.ready .any os.toArray listed := ready_iff.2 ⟨os[j], by simp [hj'], by rw [same listed hsz j hj']; exact hb, fun e he => by
        have := edgesOK_at hed (i := j) (o := os[j]) (by simp [hj']) e he
        exact ihj e this (by omega) (by omega)⟩
       rw [hnil] at this
       simp at this
    refine ⟨fun h => absurd h hne, fun i hi => ?_⟩
    obtain ⟨o, ho, h1, h2⟩ := ready_iff.1 hi
    have hlt := (List.getElem?_eq_some_iff.1 ho).1
    have hik := inpre i hi
    rw [same listed hsz i hlt] at h1
    have hst := step i o ho hik _ a w hJ h1 h2 hc
    have hsize : (listed.setIfInBounds i true).size = os.length := by simpa using hsz
    have hu : (fun j => (listed.setIfInBounds i true).getD j false) = upd (fun j => listed.getD j false) i := by
     funext j
     rw [get _ _ _ _ (by omega)]
     rfl
    have hcount' : ((List.range os.length).filter (fun j => !(listed.setIfInBounds i true).getD j true)).length = fuel := by
     have e1 : (List.range os.length).filter (fun j => !(listed.setIfInBounds i true).getD j true) = ((List.range os.length).filter (fun j => !listed.getD j true)).erase i := by
      rw [List.Nodup.erase_eq_filter ((List.nodup_range).filter _), List.filter_filter]
      apply List.filter_congr
      intro j hj
      rw [get _ _ _ _ (by omega)]
      by_cases e : j = i <;> simp [e]
     have hin : i ∈ (List.range os.length).filter (fun j => !listed.getD j true) := by simp only [List.mem_filter, List.mem_range, Bool.not_eq_true']; exact ⟨hlt, by rw [same listed hsz i hlt]; exact h1⟩
     rw [e1, List.length_erase_of_mem hin, hcount]
     rfl
    have next : ∀ a w, J (upd (fun j => listed.getD j false) i) a w → wpAnyIn (Fr ro) 0 P .any os.toArray (mkQ N X Rt) fuel (listed.setIfInBounds i true) a w := fun a w hh =>
     ih _ a w hsize (by rw [hu]; exact hh) (by
      have := closedUpd _ i o ho h2 hc
      rw [← hu] at this
      exact this) (fun j hj => by rw [get _ _ _ _ (by omega)]; rw [if_neg (by omega)]; exact hk j hj) hcount'
    unfold wpOpIn
    simp only [List.getElem?_toArray, ho]
    split
    ·rename_i hw
     rw [if_pos hw] at hst
     exact hst _ _ _ fun v w' hh => next _ _ hh
    ·rename_i hw
     rw [if_neg hw] at hst
     exact ⟨fun _ _ => trivial, next _ _ hst⟩
 have hrep : ∀ j q, (Array.replicate os.toArray.size false).getD j q = if j < os.length then false else q := fun j q => by
  simp [Array.getD]
 refine key _ _ a _ (by simp) ?_ (fun j o' ho hj => by rw [hrep] at hj; split at hj <;> cases hj) (fun j hj => by rw [hrep]; split <;> rfl) ?_
 ·have : (fun j => (Array.replicate os.toArray.size false).getD j false) = fun _ => false := by
   funext j; rw [hrep]; split <;> rfl
  rw [this]; exact h0
 ·rw [List.filter_eq_self.2]
  ·simp
  ·intro j hj
   rw [hrep, if_pos (by simpa using hj)]
   rfl
end
end Go.Proofs.YthbonoagbeilkaaGreat.Hay
namespace Go.Proofs.YthbonoagbeilkaaGreat.Hay
open Go.RowKit (Below)

section
variable {δ : List Nat} {ro : Option Nat} {α β γ : Type} {m : M}
theorem Fld_self {k : Kd α} : Fld k k 0 id := ⟨by omega, fun m cs x h => R_whole h⟩
theorem Fld_fst {d : Kd α} {e : Kd β} : Fld (kPair d e) d 0 Prod.fst := ⟨by show 0 + d.sz ≤ d.sz + e.sz; omega, fun m cs x h => by
 rw [List.drop_zero]; exact h.1⟩
theorem Fld_snd {d : Kd α} {e : Kd β} {k' : Kd γ} {off : Nat} {f : β → γ} (h : Fld e k' off f) : Fld (kPair d e) k' (d.sz + off) (fun x => f x.2) :=
 ⟨by show d.sz + off + k'.sz ≤ d.sz + e.sz; have := h.1; omega, fun m cs x hx => by
  have := h.2 m _ _ hx.2
  rw [List.drop_drop] at this
  exact this⟩
theorem Fld_map {g : β → α} {d : Kd α} {k' : Kd γ} {off : Nat} {f : α → γ} (h : Fld d k' off f) : Fld (kMap g d) k' off (fun x => f (g x)) := ⟨h.1, fun m cs x hx => h.2 m cs (g x) hx⟩
theorem Fld_trans {k : Kd α} {k' : Kd β} {k'' : Kd γ} {o o' : Nat} {f : α → β} {g : β → γ} (h : Fld k k' o f) (h' : Fld k' k'' o' g) : Fld k k'' (o + o') (fun x => g (f x)) :=
 ⟨by have := h.1; have := h'.1; omega, fun m cs x hx => h'.R_drop (h.2 m cs x hx)⟩
def StF (k : Kd α) (k' : Kd β) (off : Nat) (s : α → β → α) : Prop := off + k'.sz ≤ k.sz ∧ ∀ m cs vs x y, k.R m cs x → k'.R m vs y → k.R m (cs.take off ++ vs ++ cs.drop (off + k'.sz)) (s x y)
theorem StF_self {k : Kd α} : StF k k 0 (fun _ y => y) := ⟨by omega, fun m cs vs x y hx hy => by
 have h1 := k.len hx
 rw [List.take_zero, List.nil_append, List.drop_eq_nil_of_le (by omega), List.append_nil]
 exact hy⟩
theorem StF_fst {d : Kd α} {e : Kd β} : StF (kPair d e) d 0 (fun x y => (y, x.2)) := ⟨by show 0 + d.sz ≤ d.sz + e.sz; omega, fun m cs vs x y hx hy => by
 have h1 := d.len hy
 have h2 := (kPair d e).len hx
 refine ⟨?_, ?_⟩
 ·simp only [List.take_zero, List.nil_append]
  rw [List.take_append_of_le_length (by omega), List.take_of_length_le (by omega)]
  exact hy
 ·simp only [List.take_zero, List.nil_append, Nat.zero_add]
  rw [List.drop_append, List.drop_eq_nil_of_le (by omega), List.nil_append, h1, Nat.sub_self, List.drop_zero]
  exact hx.2⟩
theorem StF_snd {d : Kd α} {e : Kd β} {k' : Kd γ} {off : Nat} {s : β → γ → β} (h : StF e k' off s) : StF (kPair d e) k' (d.sz + off) (fun x y => (x.1, s x.2 y)) :=
 ⟨by show d.sz + off + k'.sz ≤ d.sz + e.sz; have := h.1; omega, fun m cs vs x y hx hy => by
  have h2 := (kPair d e).len hx
  have hsz : (kPair d e).sz = d.sz + e.sz := rfl
  have hoff := h.1
  have key := h.2 m _ vs _ y hx.2 hy
  refine ⟨?_, ?_⟩
  ·have : (cs.take (d.sz + off) ++ vs ++ cs.drop (d.sz + off + k'.sz)).take d.sz = cs.take d.sz := by
    rw [List.append_assoc, List.take_append_of_le_length (by simp; omega), List.take_take, Nat.min_eq_left (by omega)]
   rw [this]; exact hx.1
  ·have : (cs.take (d.sz + off) ++ vs ++ cs.drop (d.sz + off + k'.sz)).drop d.sz = (cs.drop d.sz).take off ++ vs ++ (cs.drop d.sz).drop (off + k'.sz) := by
    rw [List.append_assoc, List.drop_append_of_le_length (by simp; omega), List.drop_take, show d.sz + off - d.sz = off by omega, List.drop_drop, List.append_assoc]
    congr 3
    omega
   rw [this]; exact key⟩
theorem StF_map {g : β → α} {d : Kd α} {k' : Kd γ} {off : Nat} {s : α → γ → α} {s' : β → γ → β} (h : StF d k' off s) (hg : ∀ x y, g (s' x y) = s (g x) y) : StF (kMap g d) k' off s' :=
 ⟨h.1, fun m cs vs x y hx hy => by
  show d.R m _ (g (s' x y))
  rw [hg]
  exact h.2 m cs vs (g x) y hx hy⟩
theorem StF_in {k : Kd α} {k' : Kd β} {k'' : Kd γ} {o o' : Nat} {f : α → β} {s : α → β → α} {s' : β → γ → β} (hf : Fld k k' o f) (h : StF k k' o s) (h' : StF k' k'' o' s') : StF k k'' (o + o') (fun x y => s x (s' (f x) y)) :=
 ⟨by have := h.1; have := h'.1; omega, fun m cs vs x y hx hy => by
  have h1 := h'.2 m _ vs _ y (hf.2 m cs x hx) hy
  have h2 := h.2 m cs _ x _ hx h1
  have hl := k.len hx
  have hb := hf.1
  have hb' := h'.1
  have e1 : cs.take o ++ (((cs.drop o).take k'.sz).take o' ++ vs ++ ((cs.drop o).take k'.sz).drop (o' + k''.sz)) ++ cs.drop (o + k'.sz) = cs.take (o + o') ++ vs ++ cs.drop (o + o' + k''.sz) := by
   rw [List.take_take, Nat.min_eq_left (by omega), List.drop_take, List.drop_drop]
   have e2 : cs.take (o + o') = cs.take o ++ (cs.drop o).take o' := by rw [List.take_add]
   have e3 : cs.drop (o + (o' + k''.sz)) = (cs.drop (o + (o' + k''.sz))).take (k'.sz - (o' + k''.sz)) ++ cs.drop (o + k'.sz) := by
    conv => lhs; rw [← List.take_append_drop (k'.sz - (o' + k''.sz)) (cs.drop (o + (o' + k''.sz)))]
    rw [List.drop_drop]
    congr 2
    omega
   rw [e2, show o + o' + k''.sz = o + (o' + k''.sz) by omega]
   conv => rhs; rw [e3]
   simp only [List.append_assoc]
  rw [e1] at h2
  exact h2⟩
inductive Parts (places : Nat → Option (Nat × Nat)) (k : Kd α) (m : M) : List (Nat × Value) → α → α → Prop
 | nil {x : α} : Parts places k m [] x x
 | cons {β : Type} {k' : Kd β} {i off : Nat} {v : Value} {ps : List (Nat × Value)} {s : α → β → α} {x z : α} {y : β} (hp : places i = some (off, k'.sz)) (hs : StF k k' off s) (hv : RV k' m v y) (rest : Parts places k m ps (s x y) z) : Parts places k m ((i, v) :: ps) x z
theorem Parts.fill {places : Nat → Option (Nat × Nat)} {k : Kd α} {ps : List (Nat × Value)} {x z : α} (h : Parts places k m ps x z) : ∀ cs : List Value, k.R m cs x → ∃ cs' : List Value, Instr.fill places cs.toArray ps = some cs'.toArray ∧ k.R m cs' z := by
 induction h with
 | nil => exact fun cs hc => ⟨cs, rfl, hc⟩
 | @cons β k' i off v ps s x z y hp hs hv _ ih =>
  intro cs hc
  obtain ⟨vs, hR, rfl⟩ := hv
  have hl := k'.len hR
  have hcl := k.len hc
  have hoff := hs.1
  obtain ⟨cs', h1, h2⟩ := ih _ (hs.2 m cs vs x y hc hR)
  refine ⟨cs', ?_, h2⟩
  have hfold : ((k'.val vs).cells.zipIdx).foldl (fun (cs : Array Value) (p : Value × Nat) => cs.setIfInBounds (off + p.2) p.1) cs.toArray = (cs.take off ++ vs ++ cs.drop (off + k'.sz)).toArray := by
   have := foldl_set off vs 0 cs (by omega)
   simp only [Nat.add_zero, hl] at this
   rw [← this, k'.val_cells hR, ← Array.foldl_toList, Array.toList_zipIdx]
  simp only [Instr.fill, hp]
  rw [if_neg (by rw [k'.val_cells hR]; simp [hl]; omega)]
  rw [← h1]
  congr 1
end
section
variable {δ : List Nat} {ro : Option Nat} {P : Program} {W0 : Bse} {m : M} {L : List (Nat × List Value)} {TL : List (Nat × Value)} {n : Nat} {a : Act} {l : List (Nat × Value)} {w : World} {ty t : TypeId} {pos : String} {aft : Array Edge} {g : Option (Nat × Bool)} {x y : Operand} {d : Nat} {α : Type} {k : Kd α}
theorem st_build {ps : Array (Nat × Operand)} {pv : List (Nat × Value)} {fs : Array Field} {pl : List (Nat × Nat)} {z : Value} {x0 xx : α} (hE : EnvD δ n a l) (hp : prt l ps = some pv) (hu : P.underlying t = some (.struct fs)) (hpl : fs.toList.mapM (fun f => (P.info? f.type).map fun i => (f.offset, i.size)) = some pl)
  (hz : ∀ w, (zeroValue t).run P w = .ok z w) (hz0 : ∀ m, k.R m z.cells.toList x0) (ha : k.agg = true) (hP : Parts (pl.toArray[·]?) k m pv x0 xx) :
  Step P ⟨some d, .build t ps, ty, pos, aft, g⟩ a w (fun v w' => w = w' ∧ RV k m v xx) := by
 obtain ⟨cs, hf, hR⟩ := hP.fill _ (hz0 m)
 have hpv : (ps.map fun p => (p.1, a.eval p.2)).toList = pv := prt_eval hE hp
 have hmap : (fs.mapM fun f : Field => (do pure (f.offset, ← sizeOf f.type) : Sem (Nat × Nat))).run P w = .ok pl.toArray w := by
  rw [Array.mapM_eq_mapM_toList]
  have := run_places (P := P) w fs.toList pl hpl
  simp only [Sem.run_map]
  have e1 : (fs.toList.mapM fun f : Field => (do pure (f.offset, ← sizeOf f.type) : Sem (Nat × Nat))).run P w = .ok pl w := by
   have h2 : (fun f : Field => (do pure (f.offset, ← sizeOf f.type) : Sem (Nat × Nat))) = (fun f : Field => Prod.mk f.offset <$> sizeOf f.type) := by
    funext f; rfl
   rw [h2]; exact this
  rw [e1]
  rfl
 have hrun : (Instr.build t (ps.map fun p => (p.1, a.eval p.2))).run P w = .ok (.agg cs.toArray) w := by
  simp only [Instr.build, Sem.run_bind, hz, Result.andThen_ok, run_underlying hu]
  rw [hmap]
  simp only [Result.andThen_ok, hpv]
  have : Instr.fill (fun x => pl.toArray[x]?) z.cells pv = some cs.toArray := by
   simpa using hf
  rw [this]
  rfl
 have hr : Run1 P ⟨some d, .build t ps, ty, pos, aft, g⟩ a w (.agg cs.toArray) w := by
  simp [Run1, execOp, hrun]
 exact hr.step ⟨rfl, cs, hR, by simp [Kd.val, ha]⟩
theorem EnvD.cut (h : EnvD δ n a l) {l' : List (Nat × Value)} (hs : Sub l l') : EnvD δ n a l' := h.sub hs.all
theorem EnvD.add (h : EnvD δ n a l) {i : Nat} {v : Value} (hv : a.tmps.getD i undef = v) : EnvD δ n a ((i, v) :: l) :=
 ⟨h.defers, h.size, fun j u hj => by
  simp only [lk] at hj
  split at hj
  ·rename_i e
   have e' := Nat.eq_of_beq_eq_true e
   subst e'
   injection hj with hj
   rw [← hj]; exact hv
  ·exact h.at_ j u hj⟩
def nodupB (is : List Nat) : Bool := match is with | [] => true | i :: r => !(r.any fun j => Nat.beq i j) && nodupB r
theorem pick_inj {γ : Type} {X : List γ} : ∀ {is : List Nat} {Y : List γ}, nodupB is = true → is.mapM (fun i => X[i]?) = some Y → ∃ f : Nat → Nat, (∀ i e, Y[i]? = some e → X[f i]? = some e) ∧ (∀ i j, i < Y.length → j < Y.length → f i = f j → i = j) ∧ (∀ i, i < Y.length → f i ∈ is)
 | [], Y, _, h => by simp at h; subst h; exact ⟨id, by simp, by simp, by simp⟩
 | i :: is, Y, hn, h => by
  simp only [List.mapM_cons, Option.bind_eq_bind, Option.pure_def] at h
  cases hx : X[i]? with
  | none => simp [hx] at h
  | some x =>
   cases hr : is.mapM (fun i => X[i]?) with
   | none => simp [hx, hr] at h
   | some ys =>
    simp [hx, hr] at h
    subst h
    simp only [nodupB, Bool.and_eq_true, Bool.not_eq_true'] at hn
    obtain ⟨f, h1, h2, h3⟩ := pick_inj hn.2 hr
    have hni : i ∉ is := fun hm => by
     have := List.any_eq_false.1 hn.1 i hm
     simp at this
    refine ⟨fun j => match j with | 0 => i | j + 1 => f j, ?_, ?_, ?_⟩
    ·intro j e he
     cases j with
     | zero => simp at he; subst he; exact hx
     | succ j => exact h1 j e (by simpa using he)
    ·intro j j' hj hj' hf
     cases j with
     | zero =>
      cases j' with
      | zero => rfl
      | succ j' => exact absurd (by have h9 := h3 j' (by simpa using hj'); simp only at hf; rw [← hf] at h9; exact h9) hni
     | succ j =>
      cases j' with
      | zero => exact absurd (by have h9 := h3 j (by simpa using hj); simp only at hf; rw [hf] at h9; exact h9) hni
      | succ j' => exact congrArg _ (h2 j j' (by simpa using hj) (by simpa using hj') hf)
    ·intro j hj
     cases j with
     | zero => simp
     | succ j => exact List.mem_cons_of_mem _ (h3 j (by simpa using hj))
theorem pick_inj' {γ : Type} {X : List γ} {k : Nat} {is : List Nat} {Y : List γ} (hn : nodupB is = true) (hk : is.all (fun i => Nat.blt i k) = true) (h : is.mapM (fun i => X[i]?) = some Y) :
  ∃ f : Nat → Nat, (∀ i e, (Y ++ X.drop k)[i]? = some e → X[f i]? = some e) ∧ (∀ i j, f i = f j → i = j) := by
 obtain ⟨f, h1, h2, h3⟩ := pick_inj hn h
 refine ⟨fun i => if i < Y.length then f i else k + (i - Y.length), fun i e he => ?_, fun i j hij => ?_⟩
 ·simp only
  split
  ·rename_i hi
   rw [List.getElem?_append_left hi] at he
   exact h1 i e he
  ·rename_i hi
   rw [List.getElem?_append_right (by omega), List.getElem?_drop] at he
   exact he
 ·have lt : ∀ i, i < Y.length → f i < k := fun i hi => Nat.le_of_ble_eq_true (List.all_eq_true.1 hk _ (h3 i hi))
  simp only at hij
  split at hij <;> split at hij
  ·rename_i hi hj; exact h2 i j hi hj hij
  ·rename_i hi hj; have := lt i hi; omega
  ·rename_i hi hj; have := lt j hj; omega
  ·omega
theorem S.pickL (h : S W0 m w L TL) (k : Nat) (is : List Nat) (hn : nodupB is = true) (hk : is.all (fun i => Nat.blt i k) = true) {L' : List (Nat × List Value)} (hL : is.mapM (fun i => L[i]?) = some L') : S W0 m w (L' ++ L.drop k) TL := by
 obtain ⟨f, h1, h2⟩ := pick_inj' hn hk hL
 exact h.selL _ f h1 h2
theorem S.pickT (h : S W0 m w L TL) (k : Nat) (is : List Nat) (hn : nodupB is = true) (hk : is.all (fun i => Nat.blt i k) = true) {TL' : List (Nat × Value)} (hL : is.mapM (fun i => TL[i]?) = some TL') : S W0 m w L (TL' ++ TL.drop k) := by
 obtain ⟨f, h1, h2⟩ := pick_inj' hn hk hL
 exact h.selT _ f h1 h2
theorem st_storeF {α β : Type} {kT : Kd α} {k' : Kd β} {off : Nat} {s : α → β → α} {i b : Nat} {cs : List Value} {v : Value} {xx : α} {yy : β} (hE : EnvD δ n a l) (hS : S W0 m w L TL) (hT : TyOK P t k') (hf : StF kT k' off s) (hx : evl l x = some (.pointer (some ⟨b, off, none⟩))) (hy : evl l y = some v) (hv : RV k' m v yy) (hL : L[i]? = some (b, cs)) (hR : kT.R m cs xx) :
  Step P ⟨none, .store t x y, ty, pos, aft, g⟩ a w (fun _ w' => ∃ cs', kT.R m cs' (s xx yy) ∧ S W0 m w' (L.set i (b, cs')) TL) :=
 (st_store hE hS hT hx hy hv hL (by rw [kT.len hR]; exact hf.1)).imp fun _ _ ⟨vs, h1, h2⟩ => ⟨_, hf.2 m cs vs xx yy hR h1, h2⟩
structure EqOK (P : Program) (t : TypeId) {α : Type} [DecidableEq α] (k : Kd α) : Prop where
 eq : ∀ m cs ds (x y : α) d w, k.R m cs x → k.R m ds y → (Op.equalIn (d + 20) t (k.val cs) (k.val ds)).run P w = .ok (decide (x = y)) w
 plain : ∀ op o o' cs ds w, (eqGuard op t o o' (k.val cs) (k.val ds)).run P w = .ok () w
theorem r_eqlK {α : Type} [DecidableEq α] {k : Kd α} {u v : Value} {xx yy : α} {t' : TypeId} (hE : EnvD δ n a l) (hq : EqOK P t k) (hx : evl l x = some u) (hy : evl l y = some v) (hu : RV k m u xx) (hv : RV k m v yy) (ha : k.agg = true) : Run1 P ⟨some d, .binOp .eql t x y t', ty, pos, aft, g⟩ a w (.bool (decide (xx = yy))) w := by
 obtain ⟨cs, hc, rfl⟩ := hu
 obtain ⟨ds, hd, rfl⟩ := hv
 have h1 := hq.eq m cs ds xx yy 9980 w hc hd
 have h2 := hq.plain .eql x y cs ds w
 have h3 : k.val cs = .agg cs.toArray := by simp [Kd.val, ha]
 have h4 : k.val ds = .agg ds.toArray := by simp [Kd.val, ha]
 simp only [Run1, execOp, hE.eval hx, hE.eval hy, Sem.run_bind, h2, Result.andThen_ok]
 rw [h3, h4] at h1 ⊢
 simp [binOp, Op.equal, Op.maxDepth, h1]
theorem r_neqK {α : Type} [DecidableEq α] {k : Kd α} {u v : Value} {xx yy : α} {t' : TypeId} (hE : EnvD δ n a l) (hq : EqOK P t k) (hx : evl l x = some u) (hy : evl l y = some v) (hu : RV k m u xx) (hv : RV k m v yy) (ha : k.agg = true) : Run1 P ⟨some d, .binOp .neq t x y t', ty, pos, aft, g⟩ a w (.bool (!decide (xx = yy))) w := by
 obtain ⟨cs, hc, rfl⟩ := hu
 obtain ⟨ds, hd, rfl⟩ := hv
 have h1 := hq.eq m cs ds xx yy 9980 w hc hd
 have h2 := hq.plain .neq x y cs ds w
 have h3 : k.val cs = .agg cs.toArray := by simp [Kd.val, ha]
 have h4 : k.val ds = .agg ds.toArray := by simp [Kd.val, ha]
 simp only [Run1, execOp, hE.eval hx, hE.eval hy, Sem.run_bind, h2, Result.andThen_ok]
 rw [h3, h4] at h1 ⊢
 simp [binOp, Op.equal, Op.maxDepth, h1]
def chk (b : Bool) : Option Unit := if b then some () else none
theorem chk_some {b : Bool} {u : Unit} (h : chk b = some u) : b = true := by
 unfold chk at h; split at h
 ·assumption
 ·cases h
theorem inR_lit {k : IntKind} {x : Int} (h : k.wrap x = x) : inR k x := h
theorem inR_nonneg8 {x : Int} (h : inR .u8 x) : 0 ≤ x := by rw [inR_bd] at h; exact h.1
theorem inR_nonneg32 {x : Int} (h : inR .u32 x) : 0 ≤ x := by rw [inR_bd] at h; exact h.1
theorem inR_nonneg64 {x : Int} (h : inR .u64 x) : 0 ≤ x := by rw [inR_bd] at h; exact h.1
theorem inR_max {k : IntKind} {x y : Int} (hx : inR k x) (hy : inR k y) : inR k (if x < y then y else x) := by split <;> assumption
theorem inR_min {k : IntKind} {x y : Int} (hx : inR k x) (hy : inR k y) : inR k (if y < x then y else x) := by split <;> assumption
theorem S.tail0 (h : S W0 m w L TL) (sz : Nat) : S W0 m w L ((sz, .slice none 0 0) :: TL) := h.nilT sz 0 0
end
section
variable {δ : List Nat} {ro : Option Nat} {α σ β : Type} {A B : Option α} {r : α} {c : Bool}
theorem ite_T (hc : c = true) (h : (if c = true then A else B) = some r) : A = some r := by rw [if_pos hc] at h; exact h
theorem ite_F (hc : c = false) (h : (if c = true then A else B) = some r) : B = some r := by rw [if_neg (by simp [hc])] at h; exact h
theorem unwrap {e : Option β} {r : σ ⊕ β} {o : β} (h : e.map Sum.inr = some r) (hb : ∀ o', r = .inr o' → o' = o) : e = some o := by
 cases e with
 | none => simp at h
 | some x => simp at h; rw [hb x h.symm]
end
section
variable {δ : List Nat} {ro : Option Nat} {P : Program} {os : List Oper} {Φ : Nat → Option Nat → M → Value → Prop} {Ψ : M → List Value → Prop} {W0 : Bse} {m : M} {LF : Option Nat → List Value → List (Nat × List Value)} {TL : List (Nat × Value)} {n ks : Nat} {cs0 : List Value} {l : List (Nat × Value)} {i : Nat} {dst : Option Tmp} {op : Op} {ty : TypeId} {pos : String} {aft : Array Edge}
theorem yielded_told {ops : Array Oper} {a : Act} {g dg : Nat} {b : Bool} (hE : EnvD δ n a l) (hd : dstOf ops g = some dg) (hn : Nat.blt dg n = true) (hq : a.tmps.getD dg undef = .bool b) : yielded ops a.tmps g = some b := by
 have hlt : dg < a.tmps.size := by rw [hE.size]; exact Nat.le_of_ble_eq_true hn
 unfold dstOf at hd
 unfold yielded
 rw [hd]
 simp only [Option.bind_some]
 rw [Array.getD_eq_getD_getElem?, Array.getElem?_eq_getElem hlt] at hq
 rw [Array.getElem?_eq_getElem hlt]
 simp at hq
 rw [hq]
theorem EnvD.of {a : Act} {l' : List (Nat × Value)} (h1 : a.defers = δ.map fun D => { target := .collected D, args := #[] }) (h2 : a.tmps.size = n) {ops : Array Oper} {k : Nat} (h3 : ∀ d v, lk l d = some v → (∀ j, j < k → dstOf ops j ≠ some d) → a.tmps.getD d undef = v) (hs : Sub l l') (hk : (List.range k).all (fun j => match dstOf ops j with | some d => l'.all (fun e => !(Nat.beq e.1 d)) | none => true) = true) : EnvD δ n a l' := by
 have hl := hs.all
 clear hs
 refine ⟨h1, h2, fun j v hj => ?_⟩
 have : ∃ e ∈ l', e = (j, v) := by
  clear hl hk
  induction l' with
  | nil => simp [lk] at hj
  | cons e r ih =>
   obtain ⟨i', u⟩ := e
   simp only [lk] at hj
   split at hj
   ·rename_i hb
    have := Nat.eq_of_beq_eq_true hb
    subst this
    injection hj with hj
    subst hj
    exact ⟨_, by simp, rfl⟩
   ·obtain ⟨e, he, rfl⟩ := ih hj
    exact ⟨_, by simp [he], rfl⟩
 obtain ⟨e, he, rfl⟩ := this
 refine h3 j v (hl _ he) fun q hq hqd => ?_
 have h5 := List.all_eq_true.1 hk q (by simpa using hq)
 rw [hqd] at h5
 have h6 := List.all_eq_true.1 h5 _ he
 simp at h6
end
end Go.Proofs.YthbonoagbeilkaaGreat.Hay
namespace Go.Proofs.YthbonoagbeilkaaGreat.Hay
open Go.RowKit (Below)

def GS {α : Type} (k : Kd α) (m : M) (b : Nat) (cs : List Value) (v : Value) (xs : List α) : Prop :=
 xs.length ≤ maxSz ∧ ((xs = [] ∧ cs = [] ∧ ∃ a : Option Addr, v = .slice a 0 0 ∧ ∀ ad, a = some ad → ad.spot = none) ∨
  ∃ cap, v = .slice (some ⟨b, 0, none⟩) xs.length cap ∧ xs.length ≤ cap ∧ cs.length = cap * k.sz ∧ Rl k m (cs.take (xs.length * k.sz)) xs)
section
variable {δ : List Nat} {ro : Option Nat} {α : Type} {k : Kd α} {m m' : M} {b : Nat} {cs : List Value} {v : Value} {xs : List α}
theorem GS.mono (h : GS k m b cs v xs) (hm : M.le m m') : GS k m' b cs v xs := by
 obtain ⟨h0, h | ⟨cap, h1, h2, h3, h4⟩⟩ := h
 ·exact ⟨h0, .inl h⟩
 ·exact ⟨h0, .inr ⟨cap, h1, h2, h3, h4.mono hm⟩⟩
theorem GS.len (h : GS k m b cs v xs) : xs.length ≤ maxSz := h.1
theorem GS.val (h : GS k m b cs v xs) : ∃ (a : Option Addr) (cap : Nat), v = .slice a xs.length cap ∧ xs.length ≤ cap := by
 obtain ⟨h0, ⟨rfl, rfl, a, rfl, _⟩ | ⟨cap, rfl, h2, h3, h4⟩⟩ := h
 ·exact ⟨a, 0, rfl, Nat.le_refl _⟩
 ·exact ⟨_, cap, rfl, h2⟩
theorem GS.void : GS k m b [] (.slice none 0 0) ([] : List α) := ⟨by simp, .inl ⟨rfl, rfl, none, rfl, fun _ h => by cases h⟩⟩
theorem mul_le_of {i n sz : Nat} (h : i < n) : i * sz + sz ≤ n * sz := by
 have := Nat.mul_le_mul_right sz (show i + 1 ≤ n by omega)
 rw [Nat.add_mul] at this; omega
theorem GS.elem (h : GS k m b cs v xs) {j : Nat} {x : α} (hj : xs[j]? = some x) : k.R m ((cs.drop (j * k.sz)).take k.sz) x := by
 obtain ⟨hj', rfl⟩ := List.getElem?_eq_some_iff.1 hj
 obtain ⟨h0, ⟨rfl, _⟩ | ⟨cap, rfl, h2, h3, h4⟩⟩ := h
 ·simp at hj'
 ·have := h4.2 j hj'
  have hle := mul_le_of (sz := k.sz) hj'
  rw [List.drop_take, List.take_take, Nat.min_eq_left (by omega)] at this
  exact this
theorem GS.set {x y : α} {vs : List Value} (h : GS k m b cs v xs) {j : Nat} (hj : xs[j]? = some x) (hv : k.R m vs y) : GS k m b (cs.take (j * k.sz) ++ vs ++ cs.drop (j * k.sz + k.sz)) v (xs.set j y) := by
 obtain ⟨hj', rfl⟩ := List.getElem?_eq_some_iff.1 hj
 obtain ⟨h0, ⟨rfl, _⟩ | ⟨cap, rfl, h2, h3, h4⟩⟩ := h
 ·simp at hj'
 have hle := mul_le_of (sz := k.sz) hj'
 have hle2 : xs.length * k.sz ≤ cap * k.sz := Nat.mul_le_mul_right _ h2
 have hl := k.len hv
 refine ⟨by simpa using h0, .inr ⟨cap, by simp, by simpa using h2, by simp; omega, ?_⟩⟩
 have hlen : (cs.take (j * k.sz) ++ vs ++ cs.drop (j * k.sz + k.sz)).length = cs.length := by simp; omega
 refine ⟨by rw [List.length_take, hlen]; simp; omega, fun i hi => ?_⟩
 have hi' : i < xs.length := by simpa using hi
 have hlei := mul_le_of (sz := k.sz) hi'
 rw [List.length_set, List.drop_take, List.take_take, Nat.min_eq_left (by omega)]
 by_cases e : i = j
 ·subst e
  rw [List.getElem_set_self, List.append_assoc, List.drop_append_of_le_length (by simp; omega), List.drop_of_length_le (by simp; omega), List.nil_append, List.take_append_of_le_length (by omega), List.take_of_length_le (by omega)]
  exact hv
 ·rw [List.getElem_set_ne (fun h => e h.symm)]
  have h5 := h4.2 i hi'
  rw [List.drop_take, List.take_take, Nat.min_eq_left (by omega)] at h5
  rcases Nat.lt_or_gt_of_ne e with h6 | h6
  ·have h7 := mul_le_of (sz := k.sz) h6
   rw [List.append_assoc, List.drop_append_of_le_length (by simp; omega), List.take_append_of_le_length (by simp; omega), List.drop_take, List.take_take, Nat.min_eq_left (by omega)]
   exact h5
  ·have h7 := mul_le_of (sz := k.sz) h6
   rw [List.drop_append, List.drop_of_length_le (by simp; omega), List.nil_append, List.drop_drop]
   rw [show j * k.sz + k.sz + (i * k.sz - (cs.take (j * k.sz) ++ vs).length) = i * k.sz by simp; omega]
   exact h5
end
def ix {α : Type} (xs : List α) (i : Int) : Option Nat := if 0 ≤ i ∧ i < (xs.length : Int) then some i.toNat else none
theorem ix_some {α : Type} {xs : List α} {i : Int} {j : Nat} (h : ix xs i = some j) : 0 ≤ i ∧ i.toNat = j ∧ j < xs.length := by
 unfold ix at h
 split at h
 ·injection h with h; omega
 ·cases h
def cpy {α : Type} (xs ys : List α) : List α := ys.take xs.length ++ xs.drop ys.length
section
variable {δ : List Nat} {ro : Option Nat} {P : Program} {W0 : Bse} {m : M} {L : List (Nat × List Value)} {TL : List (Nat × Value)} {n : Nat} {a : Act} {l : List (Nat × Value)} {w : World} {ty t t2 e : TypeId} {pos : String} {aft : Array Edge} {g : Option (Nat × Bool)} {x y : Operand} {d : Nat} {α β : Type} {k : Kd α} {k' : Kd β} {by_ N b i : Nat} {cs : List Value} {v : Value} {xs ys : List α}
theorem S.void (h : S W0 m w L TL) (b : Nat) : S W0 m w ((b, []) :: L) TL := by
 refine ⟨h.below, h.imm, fun i e he hv => ?_, fun i j e e' he he' hij hv hv' => ?_, h.tails, h.apart⟩
 ·cases i with
  | zero => simp at he; subst he; exact absurd rfl hv
  | succ i => exact h.own i e (by simpa using he) hv
 ·cases i with
  | zero => simp at he; subst he; exact absurd rfl hv
  | succ i =>
   cases j with
   | zero => simp at he'; subst he'; exact absurd rfl hv'
   | succ j => exact h.nodup i j e e' (by simpa using he) (by simpa using he') (by omega) hv hv'
theorem S.freeze (h : S W0 m w ((b, cs) :: L) TL) (hg : GS k m b cs v xs) : ∃ m', M.le m m' ∧ S W0 m' w L TL ∧ RV (kSl k) m' v xs := by
 have h1 := h.dropL 1
 simp only [List.drop_succ_cons, List.drop_zero] at h1
 obtain ⟨h0, ⟨rfl, rfl, a, rfl, ha⟩ | ⟨cap, rfl, h2, h3, h4⟩⟩ := hg
 ·refine ⟨m, M.le.refl m, h1, ?_⟩
  have := RV_of_sl (d := k) (m := m) (xs := []) (a := a) (cap := 0) (Nat.le_refl _) (by simp) (by cases a with | none => rfl | some ad => exact ⟨fun _ => ha ad rfl, fun i hi => by simp at hi⟩)
  exact this
 ·by_cases hc : cs = []
  ·subst hc
   have hp := k.pos
   have hcap : cap = 0 := by
    rcases Nat.eq_zero_or_pos cap with h | h
    ·exact h
    ·have := Nat.mul_pos h hp; simp at h3; omega
   subst hcap
   have hx : xs = [] := List.eq_nil_of_length_eq_zero (by omega)
   subst hx
   exact ⟨m, M.le.refl m, h1, RV_of_sl (Nat.le_refl _) (by simp) ⟨fun _ => rfl, fun i hi => by simp at hi⟩⟩
  ·obtain ⟨hB, hm, t, ht⟩ := h.own 0 (b, cs) rfl hc
   have hle : M.le m (m.put b (cs.take (xs.length * k.sz))) := M.le_put _ hm
   refine ⟨m.put b (cs.take (xs.length * k.sz)), hle, ⟨h1.below, fun b' r hb => ?_, fun i e he hv => ?_, h1.nodup, fun i e he => ?_, h1.apart⟩, RV_of_sl h2 h0 ⟨fun _ => rfl, ?_⟩⟩
   ·by_cases hbb : b' = b
    ·subst hbb
     rw [M.put_same] at hb; injection hb with hb; subst hb
     exact ⟨_, t, _, cs.drop (xs.length * k.sz), ht, by simp⟩
    ·rw [M.put_other _ _ hbb] at hb; exact h1.imm b' r hb
   ·obtain ⟨q1, q2, q3⟩ := h1.own i e he hv
    have hne := h.nodup 0 (i + 1) (b, cs) e rfl (by simpa using he) (by omega) hc hv
    exact ⟨q1, by rw [M.put_other _ _ (fun e => hne e.symm)]; exact q2, q3⟩
   ·have hT := h1.tails i e he
    obtain ⟨sz, u⟩ := e
    cases u <;> try exact hT
    rename_i ad len' cap'
    cases ad with
    | none => trivial
    | some ad =>
     obtain ⟨hlt, hT⟩ := hT
     refine ⟨hlt, ?_⟩
     rcases hT with hf | ⟨p0, p1, r, c, t', p2, p3, p4, p5⟩
     ·exact .inl hf
     ·exact .inr ⟨p0, p1, r, c, t', by rw [M.put_other _ _ (fun e => by rw [e, hm] at p2; cases p2)]; exact p2, p3, p4, p5⟩
   ·have := h4.mono hle
    exact row_of_Rl (M.put_same _ _ _) this (by rw [List.drop_zero]; exact List.take_of_length_le (Nat.le_refl _))
theorem st_makeG {kk kc : IntKind} {i : Int} {xs : List α} {x0 : α} {inf : TypeInfo} {z : Value} (hE : EnvD δ n a l) (hS : S W0 m w L TL) (hx : evl l x = some (.int kk i)) (hy : evl l y = some (.int kc i)) (hu : P.underlying t = some (.slice e)) (hi : P.info? e = some inf) (hz : inf.zero = some z) (hsz : inf.size = k.sz) (hby : inf.bytes = by_) (hz0 : ∀ m, k.R m z.cells.toList x0)
  (hmk : mk N i x0 = some xs) (hN : Nat.ble (N * by_) 281474976710656 = true) (hM : Nat.ble N 281474976710656 = true) :
  Step P ⟨some d, .makeSlice t x y, ty, pos, aft, g⟩ a w (fun v w' => ∃ b cs, GS k m b cs v xs ∧ S W0 m w' ((b, cs) :: L) TL) := by
 refine (st_make hE hS hx hy hu hi hz hsz hby hz0 hmk hN hM).imp fun v w' ⟨b, cs, h1, h2, h3⟩ => ⟨b, cs, ?_, h3⟩
 have hle : xs.length ≤ maxSz := by
  unfold mk at hmk
  split at hmk
  ·rename_i h0
   injection hmk with hmk; subst hmk
   have := Nat.le_of_ble_eq_true hM
   unfold maxSz; simp; omega
  ·cases hmk
 exact ⟨hle, .inr ⟨_, h1, Nat.le_refl _, h2.1, by rw [List.take_of_length_le (by rw [h2.1]; exact Nat.le_refl _)]; exact h2⟩⟩
theorem GS.of_Rl {cs : List Value} (h : Rl k m cs xs) (hl : xs.length ≤ maxSz) : GS k m b cs (.slice (some ⟨b, 0, none⟩) xs.length xs.length) xs :=
 ⟨hl, .inr ⟨_, rfl, Nat.le_refl _, h.1, by rw [List.take_of_length_le (by rw [h.1]; exact Nat.le_refl _)]; exact h⟩⟩
theorem r_lenG {ts : Array TypeId} (hE : EnvD δ n a l) (hx : evl l x = some v) (ht : ts[0]? = some t) (hu : P.underlying t = some (.slice e)) (hg : GS k m b cs v xs) :
  Run1 P ⟨some d, .call ⟨.builtin .len, #[x], ts⟩, ty, pos, aft, g⟩ a w (.int .i64 (xs.length : Int)) w := by
 obtain ⟨ad, cap, rfl, _⟩ := hg.val
 simp [Run1, execOp, resolve, invoke, builtin, hE.eval hx, Builtin.len_, ht, run_underlying hu, goInt]
theorem r_indexG {kk : IntKind} {i : Int} {j sz : Nat} (hE : EnvD δ n a l) (hx : evl l x = some v) (hy : evl l y = some (.int kk i)) (hu : P.underlying t = some (.slice e)) (hs : ∀ w, (sizeOf e).run P w = .ok k.sz w) (hg : GS k m b cs v xs) (hi : ix xs i = some j) (hz : k.sz = sz) :
  Run1 P ⟨some d, .indexAddr t x y, ty, pos, aft, g⟩ a w (.pointer (some ⟨b, j * sz, none⟩)) w := by
 obtain ⟨h0, h1, h2⟩ := ix_some hi
 subst hz
 obtain ⟨_, ⟨rfl, _⟩ | ⟨cap, rfl, h3, _, _⟩⟩ := hg
 ·simp at h2
 ·have hlt : i < (xs.length : Int) := by omega
  simp [Run1, execOp, hE.eval hx, hE.eval hy, Instr.indexAt, asIntOf, run_underlying hu, h0, hlt, hs, add_eq, h1]
theorem r_indexA {kk : IntKind} {i : Int} {j sz len : Nat} (hE : EnvD δ n a l) (hx : evl l x = some (.pointer (some ⟨b, 0, none⟩))) (hy : evl l y = some (.int kk i)) (hu : P.underlying t = some (.array len e)) (hs : ∀ w, (sizeOf e).run P w = .ok k.sz w) (hl : xs.length = len) (hi : ix xs i = some j) (hz : k.sz = sz) :
  Run1 P ⟨some d, .indexAddr t x y, ty, pos, aft, g⟩ a w (.pointer (some ⟨b, j * sz, none⟩)) w := by
 obtain ⟨h0, h1, h2⟩ := ix_some hi
 subst hz; subst hl
 have hlt : i < (xs.length : Int) := by omega
 simp [Run1, execOp, hE.eval hx, hE.eval hy, Instr.indexAt, asIntOf, run_underlying hu, h0, hlt, hs, add_eq, h1, Instr.sureAddr]
theorem r_sliceA {len : Nat} (hE : EnvD δ n a l) (hx : evl l x = some (.pointer (some ⟨b, 0, none⟩))) (hu : P.underlying t = some (.array len e)) (hs : ∀ w, (sizeOf e).run P w = .ok k.sz w) :
  Run1 P ⟨some d, .slice t x none none none, ty, pos, aft, g⟩ a w (.slice (some ⟨b, 0, none⟩) len len) w := by
 simp [Run1, execOp, hE.eval hx, Instr.sliceAt, run_underlying hu, hs, Instr.sureAddr, Instr.sliceBounds, add_eq]
theorem st_storeG {off j : Nat} {s : α → β → α} {u : Value} {xx : α} {yy : β} (hE : EnvD δ n a l) (hS : S W0 m w L TL) (hT : TyOK P t k') (hf : StF k k' off s) (hg : GS k m b cs v xs) (hj : xs[j]? = some xx) (hx : evl l x = some (.pointer (some ⟨b, j * k.sz + off, none⟩))) (hy : evl l y = some u) (hv : RV k' m u yy) (hL : L[i]? = some (b, cs)) :
  Step P ⟨none, .store t x y, ty, pos, aft, g⟩ a w (fun _ w' => ∃ cs', GS k m b cs' v (xs.set j (s xx yy)) ∧ S W0 m w' (L.set i (b, cs')) TL) := by
 have hR := hg.elem hj
 have hl := k.len hR
 have hb : j * k.sz + off + k'.sz ≤ cs.length := by have := hf.1; simp at hl; have := k.pos; omega
 refine (st_store hE hS hT hx hy hv hL hb).imp fun _ w' ⟨vs, h1, h2⟩ => ⟨_, ?_, h2⟩
 have h3 := hf.2 m _ vs xx yy hR h1
 have h4 := hg.set hj h3
 have hvs := k'.len h1
 have e1 : (cs.drop (j * k.sz)).take off = (cs.take (j * k.sz + off)).drop (j * k.sz) := by rw [List.drop_take, Nat.add_sub_cancel_left]
 have e2 : cs.take (j * k.sz) ++ (((cs.drop (j * k.sz)).take k.sz).take off ++ vs ++ ((cs.drop (j * k.sz)).take k.sz).drop (off + k'.sz)) ++ cs.drop (j * k.sz + k.sz) = cs.take (j * k.sz + off) ++ vs ++ cs.drop (j * k.sz + off + k'.sz) := by
  have hf1 := hf.1
  rw [List.take_take, Nat.min_eq_left (by omega), List.take_add (i := j * k.sz) (j := off) (l := cs)]
  have e3 : ((cs.drop (j * k.sz)).take k.sz).drop (off + k'.sz) ++ cs.drop (j * k.sz + k.sz) = cs.drop (j * k.sz + off + k'.sz) := by
   rw [List.drop_take, List.drop_drop, show cs.drop (j * k.sz + k.sz) = (cs.drop (j * k.sz + (off + k'.sz))).drop (k.sz - (off + k'.sz)) by rw [List.drop_drop]; congr 1; omega, List.take_append_drop]
   congr 1; omega
  rw [List.append_assoc, List.append_assoc, List.append_assoc, e3]
  simp
 rw [e2] at h4
 exact h4
theorem firstCells_G (hS : S W0 m w L TL) (hL : L[i]? = some (b, cs)) (hg : GS k m b cs v xs) : (Builtin.lenOf v).run P w = .ok xs.length w ∧ ∃ news, Rl k m news xs ∧ (∀ w', (∀ b, b < w.heap.size → w'.heap[b]? = w.heap[b]?) → (Builtin.firstCells k.sz xs.length v).run P w' = .ok news.toArray w') ∧ (∀ q, q ≤ xs.length → ∀ w', (∀ b, b < w.heap.size → w'.heap[b]? = w.heap[b]?) → (Builtin.firstCells k.sz q v).run P w' = .ok (news.take (q * k.sz)).toArray w') := by
 have gen : (Builtin.lenOf v).run P w = .ok xs.length w ∧ ∃ news, Rl k m news xs ∧ (∀ q, q ≤ xs.length → ∀ w', (∀ b, b < w.heap.size → w'.heap[b]? = w.heap[b]?) → (Builtin.firstCells k.sz q v).run P w' = .ok (news.take (q * k.sz)).toArray w') := by
  obtain ⟨_, ⟨rfl, rfl, ad, rfl, _⟩ | ⟨cap, rfl, h3, h4, h5⟩⟩ := hg
  ·refine ⟨by simp [Builtin.lenOf], [], Rl.nil, fun q hq w' _ => ?_⟩
   have : q = 0 := by simpa using hq
   subst this
   cases ad <;> simp [Builtin.firstCells, loadCells, loadCellsFrom]
  ·refine ⟨by simp [Builtin.lenOf], _, h5, fun q hq w' hw => ?_⟩
   rcases Nat.eq_zero_or_pos q with h0 | h0
   ·subst h0; simp [Builtin.firstCells, loadCells, loadCellsFrom]
   ·have hle : q * k.sz ≤ xs.length * k.sz := Nat.mul_le_mul_right _ hq
    have hle2 : xs.length * k.sz ≤ cap * k.sz := Nat.mul_le_mul_right _ h3
    have hpq : 0 < q * k.sz := Nat.mul_pos h0 k.pos
    rw [List.take_take, Nat.min_eq_left hle]
    have hlen : (cs.take (q * k.sz)).length = q * k.sz := by simp; omega
    have hA := hS.atL (o := 0) (cs' := cs.take (q * k.sz)) hL (by rw [hlen, List.drop_zero]) (by omega)
    obtain ⟨c, t, fr, hb, hc⟩ := hA
    have hlt := (Array.getElem?_eq_some_iff.1 hb).1
    have hA' : At w' b 0 (cs.take (q * k.sz)) := ⟨c, t, fr, by rw [hw b hlt]; exact hb, hc⟩
    exact run_firstCells_some w' _ _ _ _ _ _ hlen (fun j v hj => by rw [add_eq]; exact hA'.cell hj)
 obtain ⟨g1, news, g2, g3⟩ := gen
 refine ⟨g1, news, g2, fun w' hw => ?_, g3⟩
 have := g3 xs.length (Nat.le_refl _) w' hw
 rw [List.take_of_length_le (by rw [g2.1]; exact Nat.le_refl _)] at this
 exact this
def SrcOK (P : Program) (k : Kd α) (m : M) (w : World) (t2 : TypeId) (u : Value) (ys : List α) : Prop :=
 ((∃ e', P.underlying t2 = some (.slice e')) ∨ P.underlying t2 = some .string) ∧ (Builtin.lenOf u).run P w = .ok ys.length w ∧ ∃ news, Rl k m news ys ∧ (∀ w', (∀ b, b < w.heap.size → w'.heap[b]? = w.heap[b]?) → (Builtin.firstCells k.sz ys.length u).run P w' = .ok news.toArray w')
theorem src_sl {u : Value} {e' : TypeId} (hS : S W0 m w L TL) (hu2 : P.underlying t2 = some (.slice e')) (hw : RV (kSl k) m u ys) : SrcOK P k m w t2 u ys := by
 obtain ⟨news, hR, hf, _⟩ := firstCells_run (P := P) hS hw
 exact ⟨.inl ⟨e', hu2⟩, lenOf_sl hw w, news, hR, hf⟩
theorem src_own {u : Value} {e' : TypeId} (hS : S W0 m w L TL) (hu2 : P.underlying t2 = some (.slice e')) (hL : L[i]? = some (b, cs)) (hg : GS k m b cs u ys) : SrcOK P k m w t2 u ys := by
 obtain ⟨h1, news, h2, h3, _⟩ := firstCells_G (P := P) hS hL hg
 exact ⟨.inl ⟨e', hu2⟩, h1, news, h2, h3⟩
theorem src_str {s : List Int} (hu2 : P.underlying t2 = some .string) (hs : ∀ n ∈ s, 0 ≤ n ∧ n < 256) : SrcOK P (kInt .u8) m w t2 (.string (bts s)) s := by
 refine ⟨.inr hu2, by simp [Builtin.lenOf, bts_size], s.map (Value.int .u8), bts_cells hs, fun w' _ => ?_⟩
 have h1 : (bts s).extract 0 s.length = bts s := by
  have := bts_size s
  rw [← this]
  exact ByteArray.extract_zero_size
 simp only [Builtin.firstCells, h1, Sem.run_pure]
 congr 1
 apply Array.ext'
 simp only [bts, Array.toList_map, List.map_map]
 apply List.map_congr_left
 intro n hn
 show Value.int .u8 ((UInt8.ofNat n.toNat).toNat : Int) = Value.int .u8 n
 rw [u8_back (hs n hn)]
theorem st_appX {v u : Value} {xs ys zs : List α} (hE : EnvD δ n a l) (hS : S W0 m w L TL) (hx : evl l x = some v) (hy : evl l y = some u) (hu : P.underlying t = some (.slice e)) (hel : ElOK P e k.sz by_) (hT : TL[i]? = some (k.sz, v)) (hv : RV (kSl k) m v xs) (hw : SrcOK P k m w t2 u ys) (happ : app N xs ys = some zs)
  (hN : Nat.ble (N * by_) 140737488355328 = true) (hM : Nat.ble N 281474976710656 = true) :
  Step P ⟨some d, .call ⟨.builtin .append, #[x, y], #[t, t2]⟩, ty, pos, aft, g⟩ a w (fun v' w' => ∃ m', M.le m m' ∧ S W0 m' w' L (TL.set i (k.sz, v')) ∧ RV (kSl k) m' v' zs) := by
 obtain ⟨hle, rfl⟩ := app_some happ
 obtain ⟨h0, hln, news, hR, hf⟩ := hw
 obtain ⟨v', m', w', hrun, h1, h2, h3⟩ := append_cells (tx := t2) (ty := ty) hS hu h0 hel hT hv hln hf hR
  (by have := Nat.mul_le_mul_right by_ hle; have := Nat.le_of_ble_eq_true hN; omega) (by have := Nat.le_of_ble_eq_true hM; unfold maxSz; omega)
 have hr : Run1 P ⟨some d, .call ⟨.builtin .append, #[x, y], #[t, t2]⟩, ty, pos, aft, g⟩ a w v' w' := by
  simp [Run1, execOp, resolve, invoke, builtin, hE.eval hx, hE.eval hy, hrun]
 exact hr.step ⟨m', h1, h2, h3⟩
theorem S.swapL (hS : S W0 m w ((b, cs) :: L) TL) (hi : i < L.length) : S W0 m w (L.set i (b, cs)) TL := by
 refine hS.selL _ (fun j => if j = i then 0 else j + 1) (fun j e he => ?_) (fun j j' h => ?_)
 ·rw [List.getElem?_set] at he
  by_cases h : i = j
  ·subst h; simp [hi] at he ⊢; exact he
  ·rw [if_neg h] at he
   rw [if_neg (fun x => h x.symm)]
   simpa using he
 ·split at h <;> split at h <;> omega
theorem st_appG {v u : Value} {xs ys zs : List α} (hE : EnvD δ n a l) (hS : S W0 m w L TL) (hx : evl l x = some v) (hy : evl l y = some u) (hu : P.underlying t = some (.slice e)) (hel : ElOK P e k.sz by_) (hL : L[i]? = some (b, cs)) (hg : GS k m b cs v xs) (hw : SrcOK P k m w t2 u ys) (happ : app N xs ys = some zs)
  (hN : Nat.ble (N * by_) 140737488355328 = true) (hM : Nat.ble N 281474976710656 = true) :
  Step P ⟨some d, .call ⟨.builtin .append, #[x, y], #[t, t2]⟩, ty, pos, aft, g⟩ a w (fun v' w' => ∃ b' cs', GS k m b' cs' v' zs ∧ S W0 m w' (L.set i (b', cs')) TL) := by
 obtain ⟨hle, rfl⟩ := app_some happ
 obtain ⟨hux, hn, news, hR, hf⟩ := hw
 have hN' : (xs.length + ys.length) * by_ ≤ 140737488355328 := by have := Nat.mul_le_mul_right by_ hle; have := Nat.le_of_ble_eq_true hN; omega
 have hM' : xs.length + ys.length ≤ maxSz := by have := Nat.le_of_ble_eq_true hM; unfold maxSz; omega
 have hMx : xs.length + ys.length ≤ 281474976710656 := hM'
 obtain ⟨inf, z, hi, hsz, hby, hz, hzc⟩ := hel.ok
 have hp := k.pos
 have hil : i < L.length := (List.getElem?_eq_some_iff.1 hL).1
 have hsame : L.set i (b, cs) = L := by
  obtain ⟨h1, h2⟩ := List.getElem?_eq_some_iff.1 hL
  rw [← h2]; exact List.set_getElem_self h1
 suffices hmain : ∃ v' w' b' cs', (Builtin.append_ #[t, t2] ty #[v, u]).run P w = .ok v' w' ∧ GS k m b' cs' v' (xs ++ ys) ∧ S W0 m w' (L.set i (b', cs')) TL by
  obtain ⟨v', w', b', cs', hrun, h1, h2⟩ := hmain
  have hr : Run1 P ⟨some d, .call ⟨.builtin .append, #[x, y], #[t, t2]⟩, ty, pos, aft, g⟩ a w v' w' := by
   simp [Run1, execOp, resolve, invoke, builtin, hE.eval hx, hE.eval hy, hrun]
  exact hr.step ⟨b', cs', h1, h2⟩
 obtain ⟨_, gcs, hcs, hfc, _⟩ := firstCells_G (P := P) hS hL hg
 obtain ⟨ad0, cap0, hv0, hcap0⟩ := hg.val
 by_cases hfit : xs.length + ys.length ≤ cap0
 ·rcases Nat.eq_zero_or_pos ys.length with h0 | h0
  ·have hy0 : ys = [] := List.eq_nil_of_length_eq_zero h0
   subst hy0
   have hnw : news = [] := List.eq_nil_of_length_eq_zero (by rw [hR.1]; simp)
   subst hnw
   have hf0 := hf w (fun _ _ => rfl)
   simp only [List.length_nil] at hf0 hn
   refine ⟨v, w, b, cs, ?_, by simpa using hg, by rw [hsame]; exact hS⟩
   subst hv0
   cases ad0 with
   | none => rcases hux with ⟨_, hux⟩ | hux <;> simp [Builtin.append_, run_underlying hu, run_underlying hux, sizeOf, typeInfo, hi, hn, hsz, hf0, hcap0]
   | some ad => rcases hux with ⟨_, hux⟩ | hux <;> simp [Builtin.append_, run_underlying hu, run_underlying hux, sizeOf, typeInfo, hi, hn, hsz, hf0, hcap0, storeCells]
  ·obtain ⟨hg0, ⟨rfl, rfl, ad, rfl, _⟩ | ⟨cap, rfl, h3, h4, h5⟩⟩ := hg
   ·have hc0 : cap0 = 0 := by
     injection hv0 with _ _ h; exact h.symm
    simp only [List.length_nil] at hfit; omega
   injection hv0 with h1 _ h; subst h; subst h1
   have hlez : (xs.length + ys.length) * k.sz ≤ cap * k.sz := Nat.mul_le_mul_right _ hfit
   rw [Nat.add_mul] at hlez
   have hyz : 0 < ys.length * k.sz := Nat.mul_pos h0 hp
   have hne : cs ≠ [] := fun e => by subst e; simp at h4; omega
   obtain ⟨hB, hm, t0, ht⟩ := hS.own i _ hL hne
   have hnl := hR.1
   have hrun := storeCells_run (P := P) news b (xs.length * k.sz) 0 cs t0 w ht (by omega) hR.one
   simp only [Nat.add_zero] at hrun
   refine ⟨.slice (some ⟨b, 0, none⟩) (xs ++ ys).length cap, w.setRow b (cs.take (xs.length * k.sz) ++ news ++ cs.drop (xs.length * k.sz + news.length)).toArray, b, cs.take (xs.length * k.sz) ++ news ++ cs.drop (xs.length * k.sz + news.length), ?_, ⟨by simpa using hM', .inr ⟨cap, rfl, by simpa using hfit, ?_, ?_⟩⟩, hS.setL hL hne _⟩
   ·rcases hux with ⟨_, hux⟩ | hux <;> simp [Builtin.append_, run_underlying hu, run_underlying hux, sizeOf, typeInfo, hi, hn, hsz, hf w (fun _ _ => rfl), hfit, add_eq, hrun]
   ·simp; omega
   ·have hAl : (cs.take (xs.length * k.sz)).length = xs.length * k.sz := by simp; omega
    have hl2 : (xs ++ ys).length * k.sz = (cs.take (xs.length * k.sz) ++ news).length := by simp [Nat.add_mul, hnl]; omega
    rw [hl2, List.take_append_of_le_length (Nat.le_refl _), List.take_of_length_le (Nat.le_refl _)]
    exact Rl.app h5 hR
 ·have hgt : cap0 < xs.length + ys.length := by omega
  have h63 : ¬ (9223372036854775807 < ((xs.length : Int) + (ys.length : Int))) := by omega
  have h48 : ¬ (281474976710656 < Builtin.nextslicecap (xs.length + ys.length) cap0 * inf.bytes) := by
   have := growslice_fits hgt (bytes := inf.bytes) (by rw [hby]; exact hN')
   omega
  generalize hcapn : grownCap w (xs.length + ys.length) cap0 e = cap' at *
  have hcap' : xs.length + ys.length ≤ cap' := by
   rw [← hcapn]; simp [grownCap, Question.cut]
  let rest := (Builtin.zeroCells z.cells (cap' - (xs.length + ys.length))).toList
  have hrl : rest.length = (cap' - (xs.length + ys.length)) * k.sz := by simp [rest, Builtin.zeroCells, hzc]
  have hrlz : (xs.length + ys.length) * k.sz + rest.length = cap' * k.sz := by rw [hrl, ← Nat.add_mul]; congr 1; omega
  rw [Nat.add_mul] at hrlz
  refine ⟨.slice (some ⟨w.heap.size, 0, none⟩) (xs ++ ys).length cap', w.drew.alloc (.cells (gcs ++ news ++ rest).toArray e), w.heap.size, gcs ++ news ++ rest, ?_, ⟨by simpa using hM', .inr ⟨cap', rfl, by simpa using hcap', ?_, ?_⟩⟩, ?_⟩
  ·have hfd := hfc w.drew (fun _ _ => rfl)
   have hfd' := hf w.drew (fun _ _ => rfl)
   have e2 : gcs.toArray ++ (news.toArray ++ Builtin.zeroCells z.cells (cap' - (xs.length + ys.length))) = (gcs ++ (news ++ rest)).toArray := by
    apply Array.ext'; simp [rest]
   have hcapn' : (Question.appendCap (xs.length + ys.length) cap0 e).cut (w.tape w.drawn (Question.appendCap (xs.length + ys.length) cap0 e)) = cap' := hcapn
   subst hv0
   rcases hux with ⟨_, hux⟩ | hux <;> simp [Builtin.append_, run_underlying hu, run_underlying hux, sizeOf, typeInfo, zeroValue, hi, hz, hn, hsz, hfit, h63, h48, Question.forced, hfd, hfd', newRow, hcapn', e2]
  ·simp [hcs.1, hR.1]; omega
  ·rw [List.take_append_of_le_length (by simp [hcs.1, hR.1, Nat.add_mul]), List.take_of_length_le (by simp [hcs.1, hR.1, Nat.add_mul])]
   exact Rl.app hcs hR
  ·have := hS.drew.allocL (gcs ++ news ++ rest) e
   exact this.swapL hil
theorem st_copyG {u : Value} (hE : EnvD δ n a l) (hS : S W0 m w L TL) (hx : evl l x = some v) (hy : evl l y = some u) (hu : P.underlying t = some (.slice e)) (hs : ∀ w, (sizeOf e).run P w = .ok k.sz w) (hL : L[i]? = some (b, cs)) (hg : GS k m b cs v xs) (hw : RV (kSl k) m u ys) :
  Step P ⟨some d, .call ⟨.builtin .copy, #[x, y], #[t, t2]⟩, ty, pos, aft, g⟩ a w (fun v' w' => v' = .int .i64 (min ys.length xs.length : Nat) ∧ ∃ cs', GS k m b cs' v (cpy xs ys) ∧ S W0 m w' (L.set i (b, cs')) TL) := by
 have hil : i < L.length := (List.getElem?_eq_some_iff.1 hL).1
 have hsame : L.set i (b, cs) = L := by
  obtain ⟨h1, h2⟩ := List.getElem?_eq_some_iff.1 hL
  rw [← h2]; exact List.set_getElem_self h1
 have hp := k.pos
 have hmin : Nat.min ys.length xs.length = min ys.length xs.length := rfl
 -- what is read: the first so many
 have hw2 : RV (kSl k) m u ys := hw
 have hsub : ∃ news, Rl k m news (ys.take xs.length) ∧ (Builtin.firstCells k.sz (min ys.length xs.length) u).run P w = .ok news.toArray w := by
  obtain ⟨ad, cap, rfl, h3, h4, h5⟩ := RV_sl hw
  have hv' : RV (kSl k) m (.slice ad (ys.take xs.length).length cap) (ys.take xs.length) := by
   refine RV_of_sl (by simp; omega) (by simp; omega) ?_
   cases ad with
   | none => exact h5
   | some ad => exact ⟨h5.1, fun q hq => by rw [List.getElem_take]; exact h5.2 q (by simp at hq; omega)⟩
  obtain ⟨news, h6, h7, _⟩ := firstCells_run (P := P) hS hv'
  have h8 := h7 w (fun _ _ => rfl)
  refine ⟨news, h6, ?_⟩
  rw [List.length_take, Nat.min_comm] at h8
  cases ad <;> simpa [Builtin.firstCells] using h8
 obtain ⟨news, hR, hfc⟩ := hsub
 have hln := lenOf_sl (P := P) hw w
 rcases Nat.eq_zero_or_pos (min ys.length xs.length) with h0 | h0
 ·have hcp : cpy xs ys = xs := by
   unfold cpy
   rcases Nat.eq_zero_or_pos ys.length with h | h
   ·have : ys = [] := List.eq_nil_of_length_eq_zero h
    subst this; simp
   ·have : xs = [] := List.eq_nil_of_length_eq_zero (by omega)
    subst this; simp
  have hnw : news = [] := List.eq_nil_of_length_eq_zero (by rw [hR.1, List.length_take, Nat.min_comm, h0]; simp)
  subst hnw
  obtain ⟨ad, cap, hv, _⟩ := hg.val
  have hr : Run1 P ⟨some d, .call ⟨.builtin .copy, #[x, y], #[t, t2]⟩, ty, pos, aft, g⟩ a w (.int .i64 (min ys.length xs.length : Nat)) w := by
   have hx' := hE.eval hx
   rw [hv] at hx'
   cases ad with
   | none => simp [Run1, execOp, resolve, invoke, builtin, hx', hE.eval hy, Builtin.copy_, run_underlying hu, hs, hln, hmin, hfc, goInt]
   | some ad => simp [Run1, execOp, resolve, invoke, builtin, hx', hE.eval hy, Builtin.copy_, run_underlying hu, hs, hln, hmin, hfc, goInt, storeCells]
  exact hr.step ⟨rfl, cs, by rw [hcp]; exact hg, by rw [hsame]; exact hS⟩
 ·obtain ⟨hg0, ⟨rfl, _⟩ | ⟨cap, rfl, h3, h4, h5⟩⟩ := hg
  ·simp at h0
  have hlen : (ys.take xs.length).length = min ys.length xs.length := by rw [List.length_take, Nat.min_comm]
  have hnl : news.length = min ys.length xs.length * k.sz := by rw [hR.1, hlen]
  have hle1 : min ys.length xs.length * k.sz ≤ xs.length * k.sz := Nat.mul_le_mul_right _ (Nat.min_le_right _ _)
  have hle2 : xs.length * k.sz ≤ cap * k.sz := Nat.mul_le_mul_right _ h3
  have hpos : 0 < min ys.length xs.length * k.sz := Nat.mul_pos h0 hp
  have hne : cs ≠ [] := fun e => by subst e; simp at h4; omega
  obtain ⟨hB, hm, t0, ht⟩ := hS.own i _ hL hne
  have hrun := storeCells_run (P := P) news b 0 0 cs t0 w ht (by omega) hR.one
  simp only [Nat.add_zero, Nat.zero_add, List.take_zero, List.nil_append] at hrun
  have hr : Run1 P ⟨some d, .call ⟨.builtin .copy, #[x, y], #[t, t2]⟩, ty, pos, aft, g⟩ a w (.int .i64 (min ys.length xs.length : Nat)) (w.setRow b (news ++ cs.drop news.length).toArray) := by
   simp [Run1, execOp, resolve, invoke, builtin, hE.eval hx, hE.eval hy, Builtin.copy_, run_underlying hu, hs, hln, hmin, hfc, goInt, hrun]
  have hcl : (cpy xs ys).length = xs.length := by unfold cpy; simp; omega
  refine hr.step ⟨rfl, _, ⟨by rw [hcl]; exact hg0, .inr ⟨cap, by rw [hcl], by rw [hcl]; exact h3, by simp; omega, ?_⟩⟩, hS.setL hL hne _⟩
  have hrest : Rl k m ((cs.take (xs.length * k.sz)).drop (min ys.length xs.length * k.sz)) (xs.drop ys.length) := by
   refine ⟨?_, fun q hq => ?_⟩
   ·simp
    rw [Nat.sub_mul]
    rcases Nat.le_total ys.length xs.length with h | h
    ·rw [Nat.min_eq_left h, Nat.min_eq_left (by omega)]
    ·rw [Nat.min_eq_right h, Nat.min_eq_left (by omega)]
     have := Nat.mul_le_mul_right k.sz h; omega
   ·have hq' : ys.length + q < xs.length := by simp at hq; omega
    have h6 := h5.2 (ys.length + q) hq'
    rw [Nat.min_eq_left (by omega), List.drop_drop, ← Nat.add_mul]
    simpa using h6
  have := Rl.app hR hrest
  rw [hcl]
  have e1 : (news ++ cs.drop news.length).take (xs.length * k.sz) = news ++ (cs.take (xs.length * k.sz)).drop (min ys.length xs.length * k.sz) := by
   rw [List.take_append, List.take_of_length_le (by omega), List.drop_take, hnl]
  rw [e1]
  exact this
end
end Go.Proofs.YthbonoagbeilkaaGreat.Hay
namespace Go.Proofs.YthbonoagbeilkaaGreat.Hay
open Go.RowKit (Below)

section
variable {δ : List Nat} {ro : Option Nat} {α : Type} {k : Kd α} {m m' : M} {b b' : Nat} {cs cs' : List Value} {v : Value} {xs ys : List α}
theorem GS.arr_len {a : Option Addr} {n c : Nat} (h : GS k m b cs (.slice a n c) xs) : xs.length = n := by
 obtain ⟨a', c', hv, _⟩ := h.val
 injection hv with _ h _; exact h.symm
theorem GS.len_eq (h : GS k m b cs v xs) (h' : GS k m' b' cs' v ys) : ys.length = xs.length := by
 obtain ⟨a1, c1, h1, _⟩ := h.val
 obtain ⟨a2, c2, h2, _⟩ := h'.val
 rw [h1] at h2; injection h2 with _ h _; exact h.symm
theorem Rl.take (h : Rl k m cs xs) (q : Nat) : Rl k m (cs.take (q * k.sz)) (xs.take q) := by
 refine ⟨?_, fun i hi => ?_⟩
 ·rw [List.length_take, List.length_take, h.1]
  rcases Nat.le_total q xs.length with h1 | h1
  ·have := Nat.mul_le_mul_right k.sz h1
   rw [Nat.min_eq_left this, Nat.min_eq_left h1]
  ·have := Nat.mul_le_mul_right k.sz h1
   rw [Nat.min_eq_right this, Nat.min_eq_right h1]
 ·have hi' : i < q ∧ i < xs.length := by simp at hi; omega
  have h1 := mul_le_of (sz := k.sz) hi'.1
  rw [List.getElem_take, List.drop_take, List.take_take, Nat.min_eq_left (by omega)]
  exact h.2 i hi'.2
theorem Rl.drop (h : Rl k m cs xs) (q : Nat) : Rl k m (cs.drop (q * k.sz)) (xs.drop q) := by
 refine ⟨by rw [List.length_drop, List.length_drop, h.1, Nat.sub_mul], fun i hi => ?_⟩
 have hi' : q + i < xs.length := by simp at hi; omega
 rw [List.getElem_drop, List.drop_drop, ← Nat.add_mul]
 exact h.2 _ hi'
def spl (xs : List α) (q : Nat) (ys : List α) : List α := xs.take q ++ ys ++ xs.drop (q + ys.length)
theorem GS.splice {news : List Value} (h : GS k m b cs v xs) {q : Nat} (hq : q + ys.length ≤ xs.length) (hv : Rl k m news ys) :
  GS k m b (cs.take (q * k.sz) ++ news ++ cs.drop (q * k.sz + news.length)) v (spl xs q ys) := by
 have hsl : (spl xs q ys).length = xs.length := by unfold spl; simp; omega
 obtain ⟨h0, ⟨rfl, rfl, ad, rfl, ha⟩ | ⟨cap, rfl, h2, h3, h4⟩⟩ := h
 ·simp at hq
  obtain ⟨rfl, rfl⟩ := hq
  have hn : news = [] := List.eq_nil_of_length_eq_zero (by rw [hv.1]; simp)
  subst hn
  exact ⟨by simp [spl], .inl ⟨by simp [spl], by simp, ad, rfl, ha⟩⟩
 ·have hnl := hv.1
  have e1 : (q + ys.length) * k.sz ≤ xs.length * k.sz := Nat.mul_le_mul_right _ hq
  have e2 : xs.length * k.sz ≤ cap * k.sz := Nat.mul_le_mul_right _ h2
  rw [Nat.add_mul] at e1
  refine ⟨by rw [hsl]; exact h0, .inr ⟨cap, by rw [hsl], by rw [hsl]; exact h2, by simp; omega, ?_⟩⟩
  rw [hsl]
  have a1 := h4.take q
  rw [List.take_take, Nat.min_eq_left (by omega)] at a1
  have a2 := h4.drop (q + ys.length)
  rw [List.drop_take, Nat.add_mul, ← hnl] at a2
  have := (a1.app hv).app a2
  unfold spl
  have e4 : (cs.take (q * k.sz) ++ news).length = q * k.sz + news.length := by simp; omega
  rw [List.take_append, List.take_of_length_le (by rw [e4]; omega), e4]
  exact this
theorem Rl.rep {c : List Value} {z : α} (h : k.R m c z) : ∀ n, Rl k m (List.replicate n c).flatten (List.replicate n z)
 | 0 => Rl.nil
 | n + 1 => by
  rw [List.replicate_succ, List.flatten_cons, List.replicate_succ]
  exact Rl.app (Rl.single h) (Rl.rep h n)
theorem GS.zero {c : List Value} {z : α} (h : ∀ m, k.R m c z) {n : Nat} (hn : Nat.ble n maxSz = true) : GS k m b (List.replicate n c).flatten (.slice (some ⟨b, 0, none⟩) n n) (List.replicate n z) := by
 have := GS.of_Rl (b := b) (Rl.rep (h m) n) (by rw [List.length_replicate]; exact Nat.le_of_ble_eq_true hn)
 rwa [List.length_replicate] at this
end
def VS (b sz : Nat) (v : Value) (q n : Nat) : Prop := ∃ ad c, v = .slice ad n c ∧ (0 < n → ad = some ⟨b, q * sz, none⟩)
def vw {α : Type} (xs : List α) (lo hi : Int) : Option (Nat × Nat) := if 0 ≤ lo ∧ lo ≤ hi ∧ hi ≤ (xs.length : Int) then some (lo.toNat, hi.toNat - lo.toNat) else none
theorem vw_some {α : Type} {xs : List α} {lo hi : Int} {q : Nat × Nat} (h : vw xs lo hi = some q) : 0 ≤ lo ∧ lo ≤ hi ∧ hi ≤ (xs.length : Int) ∧ q.1 = lo.toNat ∧ q.2 = hi.toNat - lo.toNat := by
 unfold vw at h
 split at h
 ·rename_i h0
  injection h with h
  exact ⟨h0.1, h0.2.1, h0.2.2, by rw [← h], by rw [← h]⟩
 ·cases h
def ixv (q n : Nat) (i : Int) : Option Nat := if 0 ≤ i ∧ i < (n : Int) then some (q + i.toNat) else none
theorem ixv_some {q n : Nat} {i : Int} {j : Nat} (h : ixv q n i = some j) : 0 ≤ i ∧ i < (n : Int) ∧ j = q + i.toNat := by
 unfold ixv at h
 split at h
 ·injection h with h; omega
 ·cases h
def clr {α : Type} (xs : List α) (q n : Nat) (z : α) : Option (List α) := if q + n ≤ xs.length then some (spl xs q (List.replicate n z)) else none
def cpv {α : Type} (xs : List α) (p q : Nat × Nat) : Option (List α) := if p.1 + p.2 ≤ xs.length ∧ q.1 + q.2 ≤ xs.length then some (spl xs p.1 ((xs.drop q.1).take (min q.2 p.2))) else none
section
variable {δ : List Nat} {ro : Option Nat} {P : Program} {W0 : Bse} {m : M} {L : List (Nat × List Value)} {TL : List (Nat × Value)} {n : Nat} {a : Act} {l : List (Nat × Value)} {w : World} {ty t t2 e : TypeId} {pos : String} {aft : Array Edge} {g : Option (Nat × Bool)} {x y : Operand} {d : Nat} {α β : Type} {k : Kd α} {k' : Kd β} {by_ N b i : Nat} {cs : List Value} {v : Value} {xs ys : List α}
theorem st_sliceG {xh : Operand} {kk : IntKind} {hi : Int} (hE : EnvD δ n a l) (hx : evl l x = some v) (hu : P.underlying t = some (.slice e)) (hs : ∀ w, (sizeOf e).run P w = .ok k.sz w) (hg : GS k m b cs v xs) (hh : evl l xh = some (.int kk hi)) (hsub : sub xs 0 hi = some ys) :
  Step P ⟨some d, .slice t x none (some xh) none, ty, pos, aft, g⟩ a w (fun v' w' => w = w' ∧ GS k m b cs v' ys) := by
 obtain ⟨h0, h1, h2, rfl⟩ := sub_some hsub
 have hyl : ((xs.take hi.toNat).drop (0 : Int).toNat).length = hi.toNat := by simp; omega
 obtain ⟨hx0, ⟨rfl, rfl, ad, rfl, ha⟩ | ⟨cap, rfl, h3, h4, h5⟩⟩ := hg
 ·have hh0 : hi.toNat = 0 := by simp at h2; omega
  have := sliceAt_run (k := k) (w := w) (a := ad) (len := 0) (cap := 0) (lo := none) (hi := some (.int kk hi)) (lo' := 0) (hi' := hi.toNat) hu hs rfl (by simp only; omega) (by omega) (by omega)
  have hr : Run1 P ⟨some d, .slice t x none (some xh) none, ty, pos, aft, g⟩ a w (.slice ad 0 0) w := by
   simp only [Run1, execOp, hE.eval hx, Option.map_some, Option.map_none, hE.eval hh]
   simp only [Sem.run_bind, this, Result.andThen_ok]
   simp [hh0]
  exact hr.step ⟨rfl, by simp, .inl ⟨by simp, rfl, ad, rfl, ha⟩⟩
 ·have := sliceAt_run (k := k) (w := w) (a := some ⟨b, 0, none⟩) (len := xs.length) (cap := cap) (lo := none) (hi := some (.int kk hi)) (lo' := 0) (hi' := hi.toNat) hu hs rfl (by simp only; omega) (by omega) (by omega)
  have hr : Run1 P ⟨some d, .slice t x none (some xh) none, ty, pos, aft, g⟩ a w (.slice (some ⟨b, 0, none⟩) hi.toNat cap) w := by
   simp only [Run1, execOp, hE.eval hx, Option.map_some, Option.map_none, hE.eval hh]
   simp only [Sem.run_bind, this, Result.andThen_ok]
   by_cases hc : cap = 0
   ·simp [hc]
   ·simp [hc, add_eq]
  refine hr.step ⟨rfl, by rw [hyl]; omega, .inr ⟨cap, by rw [hyl], by rw [hyl]; omega, h4, ?_⟩⟩
  have h6 := h5.take hi.toNat
  have h7 : hi.toNat * k.sz ≤ xs.length * k.sz := Nat.mul_le_mul_right _ (by omega)
  rw [List.take_take, Nat.min_eq_left h7] at h6
  rw [hyl]
  exact h6
theorem st_viewG {xl xh : Option Operand} {lo hi : Int} {q : Nat × Nat} (hE : EnvD δ n a l) (hx : evl l x = some v) (hu : P.underlying t = some (.slice e)) (hs : ∀ w, (sizeOf e).run P w = .ok k.sz w) (hg : GS k m b cs v xs)
  (hl : match xl with | some o => ∃ kk, evl l o = some (.int kk lo) | none => lo = 0) (hh : match xh with | some o => ∃ kk, evl l o = some (.int kk hi) | none => hi = (xs.length : Int)) (hv : vw xs lo hi = some q) {sz : Nat} (hz : k.sz = sz) :
  Step P ⟨some d, .slice t x xl xh none, ty, pos, aft, g⟩ a w (fun v' w' => w = w' ∧ VS b sz v' q.1 q.2) := by
 obtain ⟨h0, h1, h2, h3, h4⟩ := vw_some hv
 subst hz
 obtain ⟨ad, cap, rfl, hcap⟩ := hg.val
 have hr : Run1 P ⟨some d, .slice t x xl xh none, ty, pos, aft, g⟩ a w (.slice (if cap = lo.toNat then ad else ad.map (·.add (lo.toNat * k.sz))) (hi.toNat - lo.toNat) (cap - lo.toNat)) w := by
  have := sliceAt_run (w := w) (a := ad) (len := xs.length) (cap := cap) (lo := xl.map a.eval) (hi := xh.map a.eval) (lo' := lo.toNat) (hi' := hi.toNat) hu hs
   (by cases xl with
     | none => simp at hl ⊢; omega
     | some o => obtain ⟨kk, hk⟩ := hl; simp only [Option.map_some, hE.eval hk]; omega)
   (by cases xh with
     | none => simp at hh ⊢; omega
     | some o => obtain ⟨kk, hk⟩ := hh; simp only [Option.map_some, hE.eval hk]; omega) (by omega) (by omega)
  simp [Run1, execOp, hE.eval hx, this]
 refine hr.step ⟨rfl, ?_⟩
 rw [h3, h4]
 refine ⟨_, _, rfl, fun hpos => ?_⟩
 obtain ⟨_, ⟨rfl, _⟩ | ⟨cap', hv', _⟩⟩ := hg
 ·simp at h2; omega
 ·injection hv' with e1 _ _
  subst e1
  rw [if_neg (by omega)]
  simp [add_eq]
theorem r_lenV {ts : Array TypeId} {q len sz : Nat} (hE : EnvD δ n a l) (hx : evl l x = some v) (ht : ts[0]? = some t) (hu : P.underlying t = some (.slice e)) (hg : VS b sz v q len) :
  Run1 P ⟨some d, .call ⟨.builtin .len, #[x], ts⟩, ty, pos, aft, g⟩ a w (.int .i64 (len : Int)) w := by
 obtain ⟨ad, cap, rfl, _⟩ := hg
 simp [Run1, execOp, resolve, invoke, builtin, hE.eval hx, Builtin.len_, ht, run_underlying hu, goInt]
theorem r_indexV {kk : IntKind} {i : Int} {j sz q len : Nat} (hE : EnvD δ n a l) (hx : evl l x = some v) (hy : evl l y = some (.int kk i)) (hu : P.underlying t = some (.slice e)) (hs : ∀ w, (sizeOf e).run P w = .ok sz w) (hg : VS b sz v q len) (hi : ixv q len i = some j) :
  Run1 P ⟨some d, .indexAddr t x y, ty, pos, aft, g⟩ a w (.pointer (some ⟨b, j * sz, none⟩)) w := by
 obtain ⟨h0, h1, rfl⟩ := ixv_some hi
 obtain ⟨ad, c, rfl, had⟩ := hg
 have e1 : q * sz + i.toNat * sz = (q + i.toNat) * sz := by rw [Nat.add_mul]
 simp [Run1, execOp, hE.eval hx, hE.eval hy, had (by omega), Instr.indexAt, asIntOf, run_underlying hu, h0, h1, hs, add_eq, e1]
theorem st_clearV {ts : Array TypeId} {q len : Nat} {z : Value} {z0 : α} {ys : List α} (hE : EnvD δ n a l) (hS : S W0 m w L TL) (hx : evl l x = some v) (ht : ts[0]? = some t) (hu : P.underlying t = some (.slice e)) (hz : ∀ w, (zeroValue e).run P w = .ok z w) (hz0 : ∀ m, k.R m z.cells.toList z0) {v0 : Value} (hL : L[i]? = some (b, cs)) (hg : GS k m b cs v0 xs) (hv : VS b k.sz v q len) (hc : clr xs q len z0 = some ys) :
  Step P ⟨none, .call ⟨.builtin .clear, #[x], ts⟩, ty, pos, aft, g⟩ a w (fun _ w' => ∃ cs', GS k m b cs' v0 ys ∧ S W0 m w' (L.set i (b, cs')) TL) := by
 unfold clr at hc
 split at hc
 ·rename_i hle
  injection hc with hc; subst hc
  obtain ⟨ad, c, rfl, had⟩ := hv
  rcases Nat.eq_zero_or_pos len with h0 | h0
  ·subst h0
   have hil : i < L.length := (List.getElem?_eq_some_iff.1 hL).1
   have hsame : L.set i (b, cs) = L := by
    obtain ⟨h1, h2⟩ := List.getElem?_eq_some_iff.1 hL
    rw [← h2]; exact List.set_getElem_self h1
   have hr : Run1 P ⟨none, .call ⟨.builtin .clear, #[x], ts⟩, ty, pos, aft, g⟩ a w (.tuple #[]) w := by
    cases ad <;> simp [Run1, execOp, resolve, invoke, builtin, hE.eval hx, Builtin.clear_, ht, run_underlying hu]
   exact hr.step ⟨cs, by simpa [spl] using hg, by rw [hsame]; exact hS⟩
  ·have hR : Rl k m (Builtin.zeroCells z.cells len).toList (List.replicate len z0) := by
    have hzl := k.len (hz0 m)
    have hzs0 : z.cells.size = k.sz := by simpa using hzl
    refine ⟨by simp [Builtin.zeroCells, hzs0], fun j hj => ?_⟩
    simp only [List.getElem_replicate]
    have hj' : j < len := by simpa using hj
    have hzs : z.cells.size = k.sz := by simpa using hzl
    have e1 : ((Builtin.zeroCells z.cells len).toList.drop (j * k.sz)).take k.sz = z.cells.toList := by
     apply List.ext_getElem?
     intro r
     rw [List.getElem?_take, List.getElem?_drop]
     have h2 := mul_le_of (sz := k.sz) hj'
     by_cases hr' : r < k.sz
     ·rw [if_pos hr']
      have h3 : (j * k.sz + r) % k.sz = r := by rw [Nat.mul_comm, Nat.mul_add_mod]; exact Nat.mod_eq_of_lt hr'
      have h4 : j * k.sz + r < len * k.sz := by omega
      have hrz : r < z.cells.size := by omega
      have h5 : z.cells[r]! = z.cells[r] := getElem!_pos z.cells r hrz
      simp [Builtin.zeroCells, h4, hzs, h3, h5, Array.getElem?_eq_getElem hrz]
     ·rw [if_neg hr', List.getElem?_eq_none (by rw [hzl]; omega)]
    rw [e1]; exact hz0 m
   have hsp := hg.splice (q := q) (by simpa using hle) hR
   have hnl := hR.1
   rw [List.length_replicate] at hnl
   obtain ⟨_, ⟨rfl, _⟩ | ⟨cap, rfl, h3, h4, h5⟩⟩ := hg
   ·simp at hle; omega
   have e1 : (q + len) * k.sz ≤ xs.length * k.sz := Nat.mul_le_mul_right _ hle
   have e2 : xs.length * k.sz ≤ cap * k.sz := Nat.mul_le_mul_right _ h3
   have e3 : 0 < len * k.sz := Nat.mul_pos h0 k.pos
   rw [Nat.add_mul] at e1
   have hne : cs ≠ [] := fun e => by subst e; simp at h4; omega
   obtain ⟨hB, hm, t0, ht0⟩ := hS.own i _ hL hne
   have hrun := storeCells_run (P := P) _ b (q * k.sz) 0 cs t0 w ht0 (by omega) hR.one
   simp only [Nat.add_zero] at hrun
   have hr : Run1 P ⟨none, .call ⟨.builtin .clear, #[x], ts⟩, ty, pos, aft, g⟩ a w (.tuple #[]) (w.setRow b (cs.take (q * k.sz) ++ (Builtin.zeroCells z.cells len).toList ++ cs.drop (q * k.sz + (Builtin.zeroCells z.cells len).toList.length)).toArray) := by
    have hx' := hE.eval hx
    rw [had h0] at hx'
    have hl0 : len ≠ 0 := by omega
    obtain ⟨len', rfl⟩ : ∃ q, len = q + 1 := ⟨len - 1, by omega⟩
    simp only [Run1, execOp, resolve, invoke, builtin, Builtin.clear_]
    simp [hx', ht, run_underlying hu, hz]
    simp at hrun
    simp [hrun]
   exact hr.step ⟨_, hsp, hS.setL hL hne _⟩
 ·cases hc
theorem st_copyVV {u : Value} {p q : Nat × Nat} (hE : EnvD δ n a l) (hS : S W0 m w L TL) (hx : evl l x = some v) (hy : evl l y = some u) (hu : P.underlying t = some (.slice e)) (hs : ∀ w, (sizeOf e).run P w = .ok k.sz w) (hL : L[i]? = some (b, cs)) {v0 : Value} (hg : GS k m b cs v0 xs) (hv : VS b k.sz v p.1 p.2) (hw : VS b k.sz u q.1 q.2) (hc : cpv xs p q = some ys) :
  Step P ⟨some d, .call ⟨.builtin .copy, #[x, y], #[t, t2]⟩, ty, pos, aft, g⟩ a w (fun v' w' => v' = .int .i64 (min q.2 p.2 : Nat) ∧ ∃ cs', GS k m b cs' v0 ys ∧ S W0 m w' (L.set i (b, cs')) TL) := by
 unfold cpv at hc
 split at hc
 ·rename_i hle
  injection hc with hc; subst hc
  obtain ⟨hle1, hle2⟩ := hle
  have hil : i < L.length := (List.getElem?_eq_some_iff.1 hL).1
  have hsame : L.set i (b, cs) = L := by
   obtain ⟨h1, h2⟩ := List.getElem?_eq_some_iff.1 hL
   rw [← h2]; exact List.set_getElem_self h1
  have hmin : Nat.min q.2 p.2 = min q.2 p.2 := rfl
  obtain ⟨ad, c, rfl, had⟩ := hv
  obtain ⟨ad', c', rfl, had'⟩ := hw
  rcases Nat.eq_zero_or_pos (min q.2 p.2) with h0 | h0
  ·have hr : Run1 P ⟨some d, .call ⟨.builtin .copy, #[x, y], #[t, t2]⟩, ty, pos, aft, g⟩ a w (.int .i64 (min q.2 p.2 : Nat)) w := by
    have hfc : (Builtin.firstCells k.sz (min q.2 p.2) (.slice ad' q.2 c')).run P w = .ok #[] w := by
     rw [h0]; cases ad' <;> simp [Builtin.firstCells, loadCells, loadCellsFrom]
    cases ad <;> simp [Run1, execOp, resolve, invoke, builtin, hE.eval hx, hE.eval hy, Builtin.copy_, run_underlying hu, hs, Builtin.lenOf, hmin, hfc, goInt, storeCells]
   exact hr.step ⟨rfl, cs, by simpa [spl, h0] using hg, by rw [hsame]; exact hS⟩
  ·have hsp0 := fun (news : List Value) hR => hg.splice (q := p.1) (ys := (xs.drop q.1).take (min q.2 p.2)) (news := news) (by simp; omega) hR
   obtain ⟨_, ⟨rfl, _⟩ | ⟨cap, rfl, h3, h4, h5⟩⟩ := hg
   ·simp at hle1; omega
   have e1 : (p.1 + p.2) * k.sz ≤ xs.length * k.sz := Nat.mul_le_mul_right _ hle1
   have e2 : xs.length * k.sz ≤ cap * k.sz := Nat.mul_le_mul_right _ h3
   have e3 : 0 < min q.2 p.2 * k.sz := Nat.mul_pos h0 k.pos
   have e4 : (q.1 + q.2) * k.sz ≤ xs.length * k.sz := Nat.mul_le_mul_right _ hle2
   have e5 : min q.2 p.2 * k.sz ≤ p.2 * k.sz := Nat.mul_le_mul_right _ (Nat.min_le_right _ _)
   have e6 : min q.2 p.2 * k.sz ≤ q.2 * k.sz := Nat.mul_le_mul_right _ (Nat.min_le_left _ _)
   rw [Nat.add_mul] at e1 e4
   have hR := (h5.drop q.1).take (min q.2 p.2)
   have e7 : ((cs.take (xs.length * k.sz)).drop (q.1 * k.sz)).take (min q.2 p.2 * k.sz) = (cs.drop (q.1 * k.sz)).take (min q.2 p.2 * k.sz) := by
    rw [List.drop_take, List.take_take, Nat.min_eq_left (by omega)]
   rw [e7] at hR
   have hsp := hsp0 _ hR
   have hnl : ((cs.drop (q.1 * k.sz)).take (min q.2 p.2 * k.sz)).length = min q.2 p.2 * k.sz := by simp; omega
   have hne : cs ≠ [] := fun e => by subst e; simp at h4; omega
   obtain ⟨hB, hm, t0, ht0⟩ := hS.own i _ hL hne
   have hrun := storeCells_run (P := P) _ b (p.1 * k.sz) 0 cs t0 w ht0 (by omega) hR.one
   simp only [Nat.add_zero] at hrun
   have hA := hS.atL (o := q.1 * k.sz) (cs' := (cs.drop (q.1 * k.sz)).take (min q.2 p.2 * k.sz)) hL (by rw [hnl]) (by omega)
   have hfc : (Builtin.firstCells k.sz (min q.2 p.2) (.slice (some ⟨b, q.1 * k.sz, none⟩) q.2 c')).run P w = .ok ((cs.drop (q.1 * k.sz)).take (min q.2 p.2 * k.sz)).toArray w :=
    run_firstCells_some w _ _ _ _ _ _ hnl (fun j v hj => by rw [add_eq]; exact hA.cell hj)
   have hr : Run1 P ⟨some d, .call ⟨.builtin .copy, #[x, y], #[t, t2]⟩, ty, pos, aft, g⟩ a w (.int .i64 (min q.2 p.2 : Nat)) (w.setRow b (cs.take (p.1 * k.sz) ++ (cs.drop (q.1 * k.sz)).take (min q.2 p.2 * k.sz) ++ cs.drop (p.1 * k.sz + ((cs.drop (q.1 * k.sz)).take (min q.2 p.2 * k.sz)).length)).toArray) := by
    have hx' := hE.eval hx
    have hy' := hE.eval hy
    rw [had (by omega)] at hx'
    rw [had' (by omega)] at hy'
    simp only [Run1, execOp, resolve, invoke, builtin, Builtin.copy_]
    simp [hx', hy', run_underlying hu, hs, Builtin.lenOf, hmin, hfc, goInt]
    simp at hrun
    simp [hrun]
   exact hr.step ⟨rfl, _, hsp, hS.setL hL hne _⟩
 ·cases hc
theorem st_litG {ps : Array (Nat × Operand)} {vs : List Value} {xs : List α} {z : Value} (hE : EnvD δ n a l) (hS : S W0 m w L TL) (hp : prt l ps = some (num 0 vs)) (hu : P.underlying t = some (.slice e)) (hs : ∀ w, (sizeOf e).run P w = .ok k.sz w) (hz : ∀ w, (zeroValue e).run P w = .ok z w) (hv : RVl k m vs xs)
  {len : Nat} (hlen : vs.length = len) (hsmall : Nat.ble (len * k.sz) 16777216 = true) :
  Step P ⟨some d, .buildSlice t len ps, ty, pos, aft, g⟩ a w (fun v' w' => ∃ b cs, GS k m b cs v' xs ∧ S W0 m w' ((b, cs) :: L) TL) := by
 have hR := hv.cells
 have hlx := hv.length
 have hsm := Nat.le_of_ble_eq_true hsmall
 subst hlen
 have hpos := k.pos
 have hrun : (Instr.buildSlice t vs.length (ps.map fun p => (p.1, a.eval p.2))).run P w = .ok (.slice (some ⟨w.heap.size, 0, none⟩) vs.length vs.length) (w.alloc (.cells (vcells vs).toArray e)) := by
  have hfill := fun (cs : Array Value) (hcs : cs.size = vs.length * k.sz) => by
   have := fill_num (sz := k.sz) vs 0 cs.toList hv.size (by simp [hcs])
   simpa [hcs, List.take_zero, List.drop_eq_nil_of_le (show cs.toList.length ≤ vs.length * k.sz by simp [hcs])] using this
  simp only [Instr.buildSlice, Sem.run_bind, run_underlying hu, Result.andThen_ok, hs, prt_eval hE hp]
  rw [if_neg (by omega)]
  by_cases h0 : vs.length * k.sz = 0
  ·simp only [h0, if_true, Sem.run_bind, Sem.run_pure, Result.andThen_ok]
   have := hfill ((Array.range 0).map (fun x => (#[] : Array Value)[x % (#[] : Array Value).size]!)) (by simp [h0])
   rw [this]
   simp [newRow]
  ·simp only [h0, if_false, Sem.run_bind, hz, Sem.run_pure, Result.andThen_ok]
   have := hfill ((Array.range (vs.length * k.sz)).map (fun x => z.cells[x % z.cells.size]!)) (by simp)
   rw [this]
   simp [newRow]
 have hr : Run1 P ⟨some d, .buildSlice t vs.length ps, ty, pos, aft, g⟩ a w (.slice (some ⟨w.heap.size, 0, none⟩) vs.length vs.length) (w.alloc (.cells (vcells vs).toArray e)) := by
  simp [Run1, execOp, hrun]
 refine hr.step ⟨w.heap.size, vcells vs, ?_, hS.allocL (vcells vs) e⟩
 rw [hlx]
 exact GS.of_Rl hR (by rw [← hlx]; unfold maxSz; have := Nat.mul_le_mul_left vs.length hpos; simp at this; omega)
theorem r_indexS {kk : IntKind} {i : Int} {s : List Int} {c : Int} (hE : EnvD δ n a l) (hx : evl l x = some (.string (bts s))) (hy : evl l y = some (.int kk i)) (hu : P.underlying t = some .string) (hs : ∀ n ∈ s, 0 ≤ n ∧ n < 256) (hi : idx s i = some c) :
  Run1 P ⟨some d, .index t x y, ty, pos, aft, g⟩ a w (.int .u8 c) w := by
 obtain ⟨h0, h1, rfl⟩ := idx_some hi
 have e1 : (bts s)[i.toNat]? = some (UInt8.ofNat s[i.toNat].toNat) := by
  show (bts s).data[i.toNat]? = _
  simp [bts, h1]
 simp [Run1, execOp, hE.eval hx, hE.eval hy, Instr.index, asIntOf, run_underlying hu, h0, e1]
 have := hs _ (List.getElem_mem h1)
 omega
theorem inR_byte {s : List Int} {i : Int} {c : Int} (hs : ∀ n ∈ s, 0 ≤ n ∧ n < 256) (hi : idx s i = some c) : inR .u8 c := by
 obtain ⟨h0, h1, rfl⟩ := idx_some hi
 have := hs _ (List.getElem_mem h1)
 unfold inR IntKind.wrap
 simp [IntKind.bits, IntKind.signed]
 omega
end
end Go.Proofs.YthbonoagbeilkaaGreat.Hay
namespace Go.Proofs.YthbonoagbeilkaaGreat.Hay
open Go.RowKit (Below)

structure Wit where
 b : Nat
 v : Value
 c : List Value
 c' : List Value
 c'' : List Value
def wi (ws : List Wit) (j : Nat) : Wit := ws.getD j ⟨0, undef, [], [], []⟩
theorem len0 {α : Type} {l : List α} (h : l.length = 0) : l = [] := List.eq_nil_of_length_eq_zero h
theorem len1 {α : Type} {l : List α} (h : l.length = 1) : ∃ x, l = [x] := match l, h with | [x], _ => ⟨x, rfl⟩
theorem len2 {α : Type} {l : List α} (h : l.length = 2) : ∃ x y, l = [x, y] := match l, h with | [x, y], _ => ⟨x, y, rfl⟩
theorem lenz {a n : Nat} (h : a + n ≤ a) : n = 0 := by omega
theorem lenle {α : Type} {l : List α} {a n : Nat} (h : a + l.length ≤ a + (n + 1)) : l.length = 0 ∨ ∃ x r, l = x :: r ∧ a + r.length ≤ a + n := match l, h with
 | [], _ => .inl rfl
 | x :: r, h => .inr ⟨x, r, rfl, by simp at h; omega⟩
def amask (acc : List Nat) (js : List Nat) : Nat := js.foldl (fun x j => x ||| (acc.getD j 0 ||| 1 <<< j)) 0
def ancs (os : List Oper) : List Nat := os.foldl (fun acc o => acc ++ [amask acc (preds o)]) []
structure COp where
 lo : Nat
 hi : Nat
 tur : Bool
 olds : List (Nat × Value)
def COp.lv (c : COp) : Nat := if c.tur then c.lo + 1 else c.lo
theorem testBit_amask (acc : List Nat) (js : List Nat) (q : Nat) : (amask acc js).testBit q = true → ∃ j ∈ js, (acc.getD j 0).testBit q = true ∨ q = j := by
 unfold amask
 have key : ∀ (js : List Nat) (x : Nat), (js.foldl (fun x j => x ||| (acc.getD j 0 ||| 1 <<< j)) x).testBit q = true → x.testBit q = true ∨ ∃ j ∈ js, (acc.getD j 0).testBit q = true ∨ q = j := by
  intro js
  induction js with
  | nil => intro x h; exact .inl h
  | cons j r ih =>
   intro x h
   rw [List.foldl_cons] at h
   rcases ih _ h with h | ⟨j', hj', h⟩
   ·simp only [Nat.testBit_or, Bool.or_eq_true] at h
    rcases h with h | h | h
    ·exact .inl h
    ·exact .inr ⟨j, by simp, .inl h⟩
    ·refine .inr ⟨j, by simp, .inr ?_⟩
     rw [Nat.shiftLeft_eq, Nat.one_mul, Nat.testBit_two_pow] at h
     exact (of_decide_eq_true h).symm
   ·exact .inr ⟨j', by simp [hj'], h⟩
 intro h
 rcases key js 0 h with h | h
 ·simp at h
 ·exact h
theorem ancs_spec (os : List Oper) (s : Nat → Bool) (hc : ∀ (j : Nat) (o : Oper), os[j]? = some o → s j = true → ∀ e ∈ preds o, s e = true) (i : Nat) (o : Oper) (hi : os[i]? = some o) (hp : ∀ e ∈ preds o, s e = true) (hed : edgesOK os = true) :
  ∀ q, ((ancs os).getD i 0).testBit q = true → s q = true := by
 have gen : ∀ (done rest : List Oper) (acc : List Nat), os = done ++ rest → acc.length = done.length → (∀ i o, done[i]? = some o → (∀ e ∈ preds o, s e = true) → ∀ q, (acc.getD i 0).testBit q = true → s q = true) →
   ∀ i o, os[i]? = some o → (∀ e ∈ preds o, s e = true) → ∀ q, ((rest.foldl (fun acc o => acc ++ [amask acc (preds o)]) acc).getD i 0).testBit q = true → s q = true := by
  intro done rest
  induction rest generalizing done with
  | nil => intro acc he hl h i o hi hp q hq; simp at he; subst he; exact h i o hi hp q hq
  | cons x r ih =>
   intro acc he hl h i o hi hp q hq
   rw [List.foldl_cons] at hq
   refine ih (done ++ [x]) _ (by simp [he]) (by simp [hl]) ?_ i o hi hp q hq
   intro i o hi hp q hq
   rcases Nat.lt_or_ge i done.length with h1 | h1
   ·rw [List.getElem?_append_left h1] at hi
    refine h i o hi hp q ?_
    rw [List.getD_eq_getElem?_getD, List.getElem?_append_left (by omega)] at hq
    rw [List.getD_eq_getElem?_getD]; exact hq
   ·rw [List.getElem?_append_right h1] at hi
    have h2 : i = done.length := by
     have := (List.getElem?_eq_some_iff.1 hi).1
     simp at this; omega
    subst h2
    simp at hi; subst hi
    rw [List.getD_eq_getElem?_getD, List.getElem?_append_right (by omega)] at hq
    simp [hl] at hq
    obtain ⟨j, hj, h3⟩ := testBit_amask _ _ _ hq
    have hsj := hp j hj
    rcases h3 with h3 | h3
    ·have hjlt : j < done.length := edgesOK_at hed (i := done.length) (o := x) (by rw [he]; simp) j hj
     have ho : done[j]? = some done[j] := by simp [hjlt]
     exact h j done[j] ho (hc j done[j] (by rw [he, List.getElem?_append_left hjlt]; exact ho) hsj) q h3
    ·subst h3; exact hsj
 exact gen [] os [] (by simp) rfl (fun i o hi => by simp at hi) i o hi hp
section
variable {δ : List Nat} {ro : Option Nat} {P : Program} {W0 : Bse} {m : M} {L : List (Nat × List Value)} {TL : List (Nat × Value)} {n : Nat} {a : Act} {l : List (Nat × Value)} {w : World}
theorem yielded_undef {ops : Array Oper} {a : Act} {g dg : Nat} (hd : dstOf ops g = some dg) (hq : a.tmps.getD dg undef = undef) : yielded ops a.tmps g = none := by
 unfold dstOf at hd
 unfold yielded
 rw [hd]
 simp only [Option.bind_some]
 rw [Array.getD_eq_getD_getElem?] at hq
 cases h : a.tmps[dg]? with
 | none => rfl
 | some v => rw [h] at hq; simp at hq; rw [hq]; rfl
def ChS (δ : List Nat) (P : Program) (os : List Oper) (Φ : Nat → M → List Wit → Value → Prop) (Q : Nat → M → List Wit → List (Nat × List Value) → List (Nat × Value) → Prop) (W0 : Bse) (m : M) (n : Nat) (cs : List COp) (i : Nat) (c : COp) (o : Oper) : Prop :=
 ∀ pre post L' TL' m' a w, pre.length = c.lo → c.lo + post.length ≤ c.hi → M.le m m' → Q (c.lo + post.length) m' (pre ++ post) L' TL' → S W0 m' w L' TL' → EnvD δ n a c.olds →
  (∀ j ∈ preds o, ∀ d, dstOf os.toArray j = some d → Φ j m' (pre.take ((cs.map COp.lv).getD j 0)) (a.tmps.getD d undef)) →
  if Region.wanted o (yielded os.toArray a.tmps) = true then Step P o a w (fun v w' => ∃ m'', M.le m' m'' ∧ S W0 m'' w' L' TL' ∧ Φ i m'' pre v) else Φ i m' pre undef
def ChM (δ : List Nat) (P : Program) (os : List Oper) (Φ : Nat → M → List Wit → Value → Prop) (Q : Nat → M → List Wit → List (Nat × List Value) → List (Nat × Value) → Prop) (W0 : Bse) (m : M) (n : Nat) (cs : List COp) (i : Nat) (c : COp) (o : Oper) : Prop :=
 ∀ pre L' TL' m' a w, pre.length = c.lo → M.le m m' → Q c.lo m' pre L' TL' → S W0 m' w L' TL' → EnvD δ n a c.olds →
  (∀ j ∈ preds o, ∀ d, dstOf os.toArray j = some d → Φ j m' (pre.take ((cs.map COp.lv).getD j 0)) (a.tmps.getD d undef)) →
  Region.wanted o (yielded os.toArray a.tmps) = true ∧ Step P o a w (fun v w' => ∃ m'' wit L'' TL'', M.le m' m'' ∧ S W0 m'' w' L'' TL'' ∧ Q (c.lo + 1) m'' (pre ++ [wit]) L'' TL'' ∧ Φ i m'' (pre ++ [wit]) v)
def ChAll (δ : List Nat) (P : Program) (os : List Oper) (Φ : Nat → M → List Wit → Value → Prop) (Q : Nat → M → List Wit → List (Nat × List Value) → List (Nat × Value) → Prop) (W0 : Bse) (m : M) (n : Nat) (cs : List COp) : Nat → List COp → List Oper → Prop
 | i, c :: r, o :: ro => (match c.tur with | true => ChM δ P os Φ Q W0 m n cs i c o | false => ChS δ P os Φ Q W0 m n cs i c o) ∧ ChAll δ P os Φ Q W0 m n cs (i + 1) r ro
 | _, _, _ => True
def oldOK' (os : List Oper) (i : Nat) (d : Nat) : Bool := os.zipIdx.all fun p => match p.1.dst with | some e => !(Nat.beq e d) || (preds p.1).any (Nat.beq i) | none => true
def dstOK' (os : List Oper) (n : Nat) : Bool :=
 os.zipIdx.all (fun p => match p.1.dst with | some d => Nat.blt d n | none => true) && (os.zipIdx.all fun p => os.zipIdx.all fun q => Nat.beq p.2 q.2 || (match p.1.dst, q.1.dst with | some d, some e => !(Nat.beq d e) | _, _ => true))
def ch1 (os : List Oper) (an : List Nat) (es : List Nat) (cs : List COp) (i : Nat) (c : COp) (o : Oper) : Bool :=
 (List.range c.lo).all (fun q => Nat.blt q es.length && (an.getD i 0).testBit (es.getD q 0)) &&
 (List.range es.length).all (fun q => Nat.blt q (if c.tur then c.lo + 1 else c.hi) || (an.getD (es.getD q 0) 0).testBit i) &&
 (preds o).all (fun j => Nat.ble ((cs.map COp.lv).getD j 0) c.lo) &&
 (match c.tur with | true => Nat.blt c.lo es.length && Nat.beq (es.getD c.lo 0) i | false => es.all fun e => !(Nat.beq e i)) &&
 c.olds.all (fun e => oldOK' os i e.1)
def ch2 (os0 os : List Oper) (an : List Nat) (es : List Nat) (cs0 : List COp) : Nat → List COp → List Oper → Bool
 | i, c :: r, o :: ro => ch1 os an es cs0 i c o && ch2 os0 os an es cs0 (i + 1) r ro
 | _, _, _ => true
def nodupN : List Nat → Bool
 | [] => true
 | x :: r => r.all (fun y => !(Nat.beq x y)) && nodupN r
def chOK (os : List Oper) (es : List Nat) (cs : List COp) (k n : Nat) : Bool :=
 Nat.beq cs.length k && nodupN es && es.all (fun e => Nat.blt e k && Nat.blt e os.length) && dstOK' (os.take k) n && ch2 os (os.take k) (ancs os) es cs 0 cs os
def SubsC (l0 : List (Nat × Value)) : List COp → Prop
 | [] => True
 | c :: cs => Sub l0 c.olds ∧ SubsC l0 cs
theorem nodupN_ne : ∀ {es : List Nat}, nodupN es = true → ∀ (p q : Nat) (x : Nat), es[p]? = some x → es[q]? = some x → p = q
 | [], _, p, q, x, h, _ => by simp at h
 | y :: r, h, p, q, x, hp, hq => by
  unfold nodupN at h
  rw [Bool.and_eq_true] at h
  have no : ∀ j, r[j]? = some y → False := fun j hj => by
   have := List.all_eq_true.1 h.1 y (List.mem_of_getElem? hj)
   simp at this
  cases p with
  | zero =>
   simp at hp; subst hp
   cases q with
   | zero => rfl
   | succ q => exact (no q (by simpa using hq)).elim
  | succ p =>
   cases q with
   | zero => simp at hq; subst hq; exact (no p (by simpa using hp)).elim
   | succ q => rw [nodupN_ne h.2 p q x (by simpa using hp) (by simpa using hq)]
theorem kchain {os : List Oper} {id k : Nat} {es : List Nat} {cs : List COp} {Φ : Nat → M → List Wit → Value → Prop} {Q : Nat → M → List Wit → List (Nat × List Value) → List (Nat × Value) → Prop} {N Rt : Act → World → Prop} {X : List (Nat × (Act → World → Prop))}
  (hm : P.follows .mixedOrders = true) (hE : EnvD δ n a l) (hS : S W0 m w L TL) (hQ : Q 0 m [] L TL) (hed : edgesOK os = true) (htl : tailOK os k = true) (hsub : SubsC l cs) (hok : chOK os es cs k n = true)
  (mono : ∀ i m m' ws v, M.le m m' → Φ i m ws v → Φ i m' ws v) (monq : ∀ c m m' ws L T, M.le m m' → Q c m ws L T → Q c m' ws L T)
  (step : ChAll δ P os Φ Q W0 m n cs 0 cs os)
  (fin : ∀ ws L' TL' m' a w, ws.length = es.length → M.le m m' → Q es.length m' ws L' TL' → S W0 m' w L' TL' → a.defers = δ.map (fun D => { target := .collected D, args := #[] }) → a.tmps.size = n → (∀ d v, lk l d = some v → (∀ j, j < k → dstOf os.toArray j ≠ some d) → a.tmps.getD d undef = v) →
   (∀ j, j < min k os.length → ∀ d, dstOf os.toArray j = some d → Φ j m' (ws.take ((cs.map COp.lv).getD j 0)) (a.tmps.getD d undef)) → wpL ro P os.toArray (mkQ N X Rt) (os.drop k) a w) : K ro P (.region id os.toArray true) N X Rt a w := by
 unfold chOK at hok
 simp only [Bool.and_eq_true] at hok
 obtain ⟨⟨⟨⟨hk, hnd⟩, hes⟩, hd⟩, hch⟩ := hok
 have hk := Nat.eq_of_beq_eq_true hk
 unfold dstOK' at hd
 rw [Bool.and_eq_true] at hd
 have mem : ∀ (i : Nat) (o : Oper), os[i]? = some o → i < k → (o, i) ∈ (os.take k).zipIdx := fun i o hi hik => by
  rw [List.mem_zipIdx_iff_getElem?]; simp [hik, hi]
 have hdn : ∀ (i : Nat) (o : Oper), os[i]? = some o → i < k → ∀ d, o.dst = some d → d < n := fun i o hi hik d hod => by
  have := List.all_eq_true.1 hd.1 (o, i) (mem i o hi hik)
  simp only [hod] at this
  exact Nat.le_of_ble_eq_true this
 have hne : ∀ (i j : Nat) (o o' : Oper), os[i]? = some o → os[j]? = some o' → i < k → j < k → i ≠ j → ∀ d e, o.dst = some d → o'.dst = some e → d ≠ e := fun i j o o' hi hj hik hjk hij d e hod hoe hde => by
  have h1 := List.all_eq_true.1 hd.2 _ (mem i o hi hik)
  have h2 := List.all_eq_true.1 h1 _ (mem j o' hj hjk)
  simp only [hod, hoe, Bool.or_eq_true, Bool.not_eq_true'] at h2
  rcases h2 with h2 | h2
  ·exact hij (Nat.eq_of_beq_eq_true h2)
  ·subst hde; simp at h2
 have hdo : ∀ (j d : Nat), dstOf os.toArray j = some d ↔ ∃ o, os[j]? = some o ∧ o.dst = some d := fun j d => by
  unfold dstOf
  cases ho : os[j]? with
  | none => simp [ho]
  | some o => simp [ho]
 have steps : ∀ (r : List COp) (ro : List Oper) (q : Nat), ChAll δ P os Φ Q W0 m n cs q r ro → SubsC l r → ch2 os (os.take k) (ancs os) es cs q r ro = true → ∀ (i : Nat) (o : Oper) (c : COp), ro[i]? = some o → r[i]? = some c → (∀ e ∈ c.olds, lk l e.1 = some e.2) ∧ ch1 (os.take k) (ancs os) es cs (q + i) c o = true ∧
   (match c.tur with | true => ChM δ P os Φ Q W0 m n cs (q + i) c o | false => ChS δ P os Φ Q W0 m n cs (q + i) c o) := by
  intro r
  induction r with
  | nil => intro ro q _ _ _ i o c _ h; simp at h
  | cons c0 r ih =>
   intro ro q hD hSb hC i o c hi hc
   cases ro with
   | nil => simp at hi
   | cons o0 ro =>
    unfold ch2 at hC
    rw [Bool.and_eq_true] at hC
    cases i with
    | zero =>
     simp at hi hc; subst hi; subst hc
     exact ⟨hSb.1.all, hC.1, hD.1⟩
    | succ i =>
     have := ih ro (q + 1) hD.2 hSb.2 hC.2 i o c (by simpa using hi) (by simpa using hc)
     rw [show q + 1 + i = q + (i + 1) by omega] at this
     exact this
 have esm : ∀ q, q < es.length → ∃ e, es[q]? = some e ∧ es.getD q 0 = e ∧ e < k ∧ ∃ o, os[e]? = some o := fun q hq => by
  have h1 := List.all_eq_true.1 hes es[q] (List.getElem_mem hq)
  rw [Bool.and_eq_true] at h1
  have h2 : es[q] < os.length := Nat.le_of_ble_eq_true h1.2
  exact ⟨es[q], by simp [hq], by simp [List.getD, hq], Nat.le_of_ble_eq_true h1.1, os[es[q]], by simp [h2]⟩
 refine kany (k := k) hm hed htl (fun s a w => ∃ ws L' TL' m', ws.length ≤ es.length ∧ (∀ q e, es[q]? = some e → (s e = true ↔ q < ws.length)) ∧ M.le m m' ∧ Q ws.length m' ws L' TL' ∧ S W0 m' w L' TL' ∧ a.defers = δ.map (fun D => { target := .collected D, args := #[] }) ∧ a.tmps.size = n ∧ (∀ d v, lk l d = some v → (∀ j, j < k → dstOf os.toArray j = some d → s j = false) → a.tmps.getD d undef = v) ∧
  (∀ j, j < k → s j = true → (cs.map COp.lv).getD j 0 ≤ ws.length ∧ ∀ d, dstOf os.toArray j = some d → Φ j m' (ws.take ((cs.map COp.lv).getD j 0)) (a.tmps.getD d undef))) ?_ ?_ ?_
 ·exact ⟨[], L, TL, m, by simp, fun q e _ => by simp, M.le.refl m, hQ, hS.drew, hE.defers, hE.size, fun d v hv _ => hE.at_ d v hv, fun j _ h => (Bool.false_ne_true h).elim⟩
 ·intro i o ho hik s a w ⟨ws, L', TL', m', hwl, hst, hle, hq, hS', hdf, hsz, holdv, hphi⟩ hsi hpre hcl
  have hci : ∃ c, cs[i]? = some c := ⟨cs[i]'(by omega), by simp [show i < cs.length by omega]⟩
  obtain ⟨c, hc⟩ := hci
  obtain ⟨hl1, hc1, hstep⟩ := steps cs os 0 step hsub hch i o c ho hc
  rw [Nat.zero_add] at hc1 hstep
  unfold ch1 at hc1
  simp only [Bool.and_eq_true] at hc1
  obtain ⟨⟨⟨⟨hlo, hhi⟩, hpl⟩, hmt⟩, hold1⟩ := hc1
  have hlvi : (cs.map COp.lv).getD i 0 = c.lv := by simp [List.getD, hc]
  -- how many of the chain are done
  have hlow : c.lo ≤ ws.length := by
   rcases Nat.eq_zero_or_pos c.lo with h0 | h0
   ·omega
   ·have h1 := List.all_eq_true.1 hlo (c.lo - 1) (by simp; omega)
    rw [Bool.and_eq_true] at h1
    have h2 : c.lo - 1 < es.length := Nat.le_of_ble_eq_true h1.1
    obtain ⟨e, he, heq, _, _⟩ := esm _ h2
    rw [heq] at h1
    have h3 := ancs_spec os s hcl i o ho hpre hed e h1.2
    have := (hst _ _ he).1 h3
    omega
  have hEi : EnvD δ n a c.olds := by
   have hl2 : ∀ e ∈ c.olds, oldOK' (os.take k) i e.1 = true := fun e he => List.all_eq_true.1 hold1 e he
   clear hstep hlvi
   generalize c.olds = li at *
   refine ⟨hdf, hsz, fun j v hj => ?_⟩
   have : ∃ e ∈ li, e = (j, v) := by
    clear hl1 hl2 hold1
    induction li with
    | nil => simp [lk] at hj
    | cons e r ih =>
     obtain ⟨i', u⟩ := e
     simp only [lk] at hj
     split at hj
     ·rename_i hb
      have := Nat.eq_of_beq_eq_true hb
      subst this
      injection hj with hj
      subst hj
      exact ⟨_, by simp, rfl⟩
     ·obtain ⟨e, he, rfl⟩ := ih hj
      exact ⟨_, by simp [he], rfl⟩
   obtain ⟨e, he, rfl⟩ := this
   refine holdv j v (hl1 _ he) fun q hq hqd => ?_
   obtain ⟨o', ho', hd'⟩ := (hdo q j).1 hqd
   have h3 := List.all_eq_true.1 (hl2 _ he) (o', q) (mem q o' ho' hq)
   simp only [hd', Bool.or_eq_true, Bool.not_eq_true'] at h3
   have h4 : i ∈ preds o' := by
    rcases h3 with h3 | h3
    ·simp at h3
    ·obtain ⟨e, he, hb⟩ := List.any_eq_true.1 h3
     have := Nat.eq_of_beq_eq_true hb
     subst this; exact he
   cases hs : s q with
   | false => rfl
   | true => have := hcl q o' ho' hs i h4; rw [hsi] at this; cases this
  have hT : ∀ j ∈ preds o, ∀ d, dstOf os.toArray j = some d → Φ j m' ((ws.take c.lo).take ((cs.map COp.lv).getD j 0)) (a.tmps.getD d undef) := fun j hj d hd => by
   have h1 := (hphi j (by have := edgesOK_at hed ho j hj; omega) (hpre j hj)).2 d hd
   have h2 := Nat.le_of_ble_eq_true (List.all_eq_true.1 hpl j hj)
   rw [List.take_take, Nat.min_eq_left h2]
   exact h1
  have sizes : ∀ u : Value, (a.put o.dst u).tmps.size = n := fun u => by cases hod : o.dst <;> simp [Act.put, hsz]
  have defs : ∀ u : Value, (a.put o.dst u).defers = δ.map (fun D => { target := .collected D, args := #[] }) := fun u => by cases hod : o.dst <;> simp [Act.put, hdf]
  have olds : ∀ (u : Value), ∀ e v, lk l e = some v → (∀ j, j < k → dstOf os.toArray j = some e → upd s i j = false) → (a.put o.dst u).tmps.getD e undef = v := by
   intro u e v hv hj
   have h5 := holdv e v hv (fun j hjk hjd => by
    have := hj j hjk hjd
    unfold upd at this
    split at this
    ·cases this
    ·exact this)
   cases hod : o.dst with
   | none => simpa [Act.put] using h5
   | some d =>
    have hne' : d ≠ e := fun x => by
     subst x
     have := hj i hik ((hdo i d).2 ⟨o, ho, hod⟩)
     simp [upd] at this
    simpa [Act.put, Array.getElem?_setIfInBounds_ne hne'] using h5
  have phis : ∀ (u : Value) (m'' : M) (ws' : List Wit), Φ i m'' (ws'.take c.lv) u → M.le m' m'' → c.lv ≤ ws'.length → (∃ r, ws' = ws ++ r) → (∀ j, j < k → upd s i j = true → (cs.map COp.lv).getD j 0 ≤ ws'.length ∧ ∀ e, dstOf os.toArray j = some e → Φ j m'' (ws'.take ((cs.map COp.lv).getD j 0)) ((a.put o.dst u).tmps.getD e undef)) := by
   intro u m'' ws' hu hle' hlv' ⟨rr, hrr⟩ j hjk hj
   by_cases hji : j = i
   ·subst hji
    rw [hlvi]
    refine ⟨hlv', fun e he => ?_⟩
    obtain ⟨o', ho', hd'⟩ := (hdo j e).1 he
    rw [ho] at ho'; injection ho' with ho'; subst ho'
    have hen := hdn j o ho hjk e hd'
    rw [hd']
    have : (a.put (some e) u).tmps.getD e undef = u := by simp [Act.put, hsz, hen]
    rw [this]; exact hu
   ·unfold upd at hj
    rw [if_neg hji] at hj
    obtain ⟨h6, h7⟩ := hphi j hjk hj
    refine ⟨by rw [hrr, List.length_append]; omega, fun e he => ?_⟩
    have h8 := mono j m' m'' _ _ hle' (h7 e he)
    rw [hrr, List.take_append_of_le_length h6]
    cases hod : o.dst with
    | none => simpa [Act.put] using h8
    | some d =>
     obtain ⟨o', ho', hd'⟩ := (hdo j e).1 he
     have hne' := hne i j o o' ho ho' hik hjk (fun x => hji x.symm) d e hod hd'
     have : (a.put (some d) u).tmps.getD e undef = a.tmps.getD e undef := by simp [Act.put, Array.getElem?_setIfInBounds_ne hne']
     rw [this]; exact h8
  cases hmu : c.tur with
  | true =>
   rw [hmu] at hmt hstep
   simp only [hmu, if_true] at hhi
   simp only [Bool.and_eq_true] at hmt
   have hloe : c.lo < es.length := Nat.le_of_ble_eq_true hmt.1
   have hei := Nat.eq_of_beq_eq_true hmt.2
   obtain ⟨e, he, heq, _, _⟩ := esm _ hloe
   rw [hei] at heq; subst heq
   have hwlo : ws.length = c.lo := by
    rcases Nat.lt_or_ge c.lo ws.length with h | h
    ·have := (hst _ _ he).2 h
     rw [hsi] at this; cases this
    ·omega
   have hlv : c.lv = c.lo + 1 := by simp [COp.lv, hmu]
   have htk : ws.take c.lo = ws := List.take_of_length_le (by omega)
   rw [hwlo] at hq
   obtain ⟨hw, hst'⟩ := hstep ws L' TL' m' a w hwlo hle hq hS' hEi (by rw [htk] at hT; exact hT)
   rw [if_pos hw]
   refine hst'.imp fun v w' ⟨m'', wit, L'', TL'', h1, h2, h3, h4⟩ => ?_
   refine ⟨ws ++ [wit], L'', TL'', m'', by simp; omega, fun q e' he' => ?_, hle.trans h1, by simp; rw [hwlo]; exact h3, h2, defs v, sizes v, olds v, phis v m'' (ws ++ [wit]) ?_ h1 (by simp; omega) ⟨[wit], rfl⟩⟩
   ·unfold upd
    by_cases h5 : e' = i
    ·subst h5
     have := nodupN_ne hnd q c.lo e' he' he
     simp; omega
    ·rw [if_neg h5, hst q e' he']
     have : q ≠ c.lo := fun x => by subst x; rw [he] at he'; injection he' with he'; exact h5 he'.symm
     simp; omega
   ·rw [List.take_of_length_le (by simp; omega)]; exact h4
  | false =>
   rw [hmu] at hmt hstep
   simp only [hmu, Bool.false_eq_true, if_false] at hhi
   have hlv : c.lv = c.lo := by simp [COp.lv, hmu]
   have hhi' : ws.length ≤ c.hi := by
    rcases Nat.lt_or_ge c.hi ws.length with h | h
    ·exfalso
     have h0 : c.hi < es.length := by omega
     have h1 := List.all_eq_true.1 hhi c.hi (by simpa using h0)
     rw [Bool.or_eq_true] at h1
     obtain ⟨e, he, heq, hek, oe, hoe⟩ := esm _ h0
     rcases h1 with h1 | h1
     ·have := Nat.le_of_ble_eq_true h1; omega
     ·rw [heq] at h1
      have h2 := (hst _ _ he).2 h
      have h3 := ancs_spec os s hcl e oe hoe (hcl e oe hoe h2) hed i h1
      rw [hsi] at h3; cases h3
    ·exact h
   have hdl : (ws.drop c.lo).length = ws.length - c.lo := by simp
   have hqq : Q (c.lo + (ws.drop c.lo).length) m' (ws.take c.lo ++ ws.drop c.lo) L' TL' := by
    rw [List.take_append_drop, hdl, show c.lo + (ws.length - c.lo) = ws.length by omega]; exact hq
   have hstp := hstep (ws.take c.lo) (ws.drop c.lo) L' TL' m' a w (by simp; omega) (by rw [hdl]; omega) hle hqq hS' hEi hT
   have next : ∀ (v : Value) (w' : World) (m'' : M), M.le m' m'' → S W0 m'' w' L' TL' → Φ i m'' (ws.take c.lo) v → ∃ ws L' TL' m', ws.length ≤ es.length ∧ (∀ q e, es[q]? = some e → (upd s i e = true ↔ q < ws.length)) ∧ M.le m m' ∧ Q ws.length m' ws L' TL' ∧ S W0 m' w' L' TL' ∧ (a.put o.dst v).defers = δ.map (fun D => { target := .collected D, args := #[] }) ∧ (a.put o.dst v).tmps.size = n ∧ (∀ d u, lk l d = some u → (∀ j, j < k → dstOf os.toArray j = some d → upd s i j = false) → (a.put o.dst v).tmps.getD d undef = u) ∧
     (∀ j, j < k → upd s i j = true → (cs.map COp.lv).getD j 0 ≤ ws.length ∧ ∀ d, dstOf os.toArray j = some d → Φ j m' (ws.take ((cs.map COp.lv).getD j 0)) ((a.put o.dst v).tmps.getD d undef)) := by
    intro v w' m'' h1 h2 h3
    refine ⟨ws, L', TL', m'', hwl, fun q e he => ?_, hle.trans h1, monq _ _ _ _ _ _ h1 hq, h2, defs v, sizes v, olds v, phis v m'' ws (by rw [hlv]; exact h3) h1 (by rw [hlv]; exact hlow) ⟨[], by simp⟩⟩
    have h5 : e ≠ i := fun x => by
     subst x
     have := List.all_eq_true.1 hmt e (List.mem_of_getElem? he)
     simp at this
    unfold upd
    rw [if_neg h5]
    exact hst q e he
   split
   ·rename_i hw
    rw [if_pos hw] at hstp
    exact hstp.imp fun v w' ⟨m'', h1, h2, h3⟩ => next v w' m'' h1 h2 h3
   ·rename_i hw
    rw [if_neg hw] at hstp
    exact next undef w m' (M.le.refl _) hS' hstp
 ·intro s a w ⟨ws, L', TL', m', hwl, hst, hle, hq, hS', hdf, hsz, holdv, hphi⟩ hall
  have hlen : ws.length = es.length := by
   rcases Nat.lt_or_ge ws.length es.length with h | h
   ·obtain ⟨e, he, _, hek, oe, hoe⟩ := esm _ h
    have := (hst _ _ he).1 (hall e hek (List.getElem?_eq_some_iff.1 hoe).1)
    omega
   ·omega
  rw [hlen] at hq
  exact fin ws L' TL' m' a w hlen hle hq hS' hdf hsz (fun d v hv hno => holdv d v hv (fun j hj hjd => absurd hjd (hno j hj)))
   (fun j hj d hd => (hphi j (by omega) (hall j (by omega) (by omega))).2 d hd)
end
section
variable {δ : List Nat} {ro : Option Nat} {P : Program} {os : List Oper} {Φ : Nat → M → List Wit → Value → Prop} {Q : Nat → M → List Wit → List (Nat × List Value) → List (Nat × Value) → Prop} {W0 : Bse} {m : M} {n : Nat} {cs : List COp} {i : Nat} {c : COp} {dst : Option Tmp} {op : Op} {ty : TypeId} {pos : String} {aft : Array Edge}
theorem cplain (h : ∀ pre post L' TL' m' a w, pre.length = c.lo → c.lo + post.length ≤ c.hi → M.le m m' → Q (c.lo + post.length) m' (pre ++ post) L' TL' → S W0 m' w L' TL' → EnvD δ n a c.olds →
  (∀ j ∈ preds ⟨dst, op, ty, pos, aft, none⟩, ∀ d, dstOf os.toArray j = some d → Φ j m' (pre.take ((cs.map COp.lv).getD j 0)) (a.tmps.getD d undef)) →
  Step P ⟨dst, op, ty, pos, aft, none⟩ a w (fun v w' => ∃ m'', M.le m' m'' ∧ S W0 m'' w' L' TL' ∧ Φ i m'' pre v)) :
  ChS δ P os Φ Q W0 m n cs i c ⟨dst, op, ty, pos, aft, none⟩ := fun pre post L' TL' m' a w h1 h2 h3 h4 h5 h6 h7 => by
 rw [if_pos (by rfl)]; exact h pre post L' TL' m' a w h1 h2 h3 h4 h5 h6 h7
theorem cturn (h : ∀ pre L' TL' m' a w, pre.length = c.lo → M.le m m' → Q c.lo m' pre L' TL' → S W0 m' w L' TL' → EnvD δ n a c.olds →
  (∀ j ∈ preds ⟨dst, op, ty, pos, aft, none⟩, ∀ d, dstOf os.toArray j = some d → Φ j m' (pre.take ((cs.map COp.lv).getD j 0)) (a.tmps.getD d undef)) →
  Step P ⟨dst, op, ty, pos, aft, none⟩ a w (fun v w' => ∃ m'' wit L'' TL'', M.le m' m'' ∧ S W0 m'' w' L'' TL'' ∧ Q (c.lo + 1) m'' (pre ++ [wit]) L'' TL'' ∧ Φ i m'' (pre ++ [wit]) v)) :
  ChM δ P os Φ Q W0 m n cs i c ⟨dst, op, ty, pos, aft, none⟩ := fun pre L' TL' m' a w h1 h3 h4 h5 h6 h7 => ⟨rfl, h pre L' TL' m' a w h1 h3 h4 h5 h6 h7⟩
theorem cguard {g dg : Nat} {b : Bool} (hd : dstOf os.toArray g = some dg) (hn : Nat.blt dg n = true) (hg : g ∈ preds ⟨dst, op, ty, pos, aft, some (g, b)⟩) (hq : ∀ m ws v, Φ g m ws v → v = .bool b)
  (h : ∀ pre post L' TL' m' a w, pre.length = c.lo → c.lo + post.length ≤ c.hi → M.le m m' → Q (c.lo + post.length) m' (pre ++ post) L' TL' → S W0 m' w L' TL' → EnvD δ n a c.olds →
  (∀ j ∈ preds ⟨dst, op, ty, pos, aft, some (g, b)⟩, ∀ d, dstOf os.toArray j = some d → Φ j m' (pre.take ((cs.map COp.lv).getD j 0)) (a.tmps.getD d undef)) →
  Step P ⟨dst, op, ty, pos, aft, some (g, b)⟩ a w (fun v w' => ∃ m'', M.le m' m'' ∧ S W0 m'' w' L' TL' ∧ Φ i m'' pre v)) :
  ChS δ P os Φ Q W0 m n cs i c ⟨dst, op, ty, pos, aft, some (g, b)⟩ := fun pre post L' TL' m' a w h1 h2 h3 h4 h5 h6 h7 => by
 have hy := yielded_told h6 hd hn (hq _ _ _ (h7 g hg dg hd))
 rw [if_pos (by simp [Region.wanted, hy])]; exact h pre post L' TL' m' a w h1 h2 h3 h4 h5 h6 h7
theorem cskip {g dg : Nat} {b b' : Bool} (hd : dstOf os.toArray g = some dg) (hn : Nat.blt dg n = true) (hg : g ∈ preds ⟨dst, op, ty, pos, aft, some (g, b')⟩) (hq : ∀ m ws v, Φ g m ws v → v = .bool b) (hb : b ≠ b') (h : ∀ m ws, Φ i m ws undef) :
  ChS δ P os Φ Q W0 m n cs i c ⟨dst, op, ty, pos, aft, some (g, b')⟩ := fun pre post L' TL' m' a w h1 h2 h3 h4 h5 h6 h7 => by
 have hy := yielded_told h6 hd hn (hq _ _ _ (h7 g hg dg hd))
 rw [if_neg (by simp [Region.wanted, hy, hb])]; exact h _ _
end
section
variable {δ : List Nat} {ro : Option Nat} {P : Program} {ops : Array Oper} {Q : Exit → Act → World → Prop} {rest : List Oper} {a : Act} {w : World} {n : Nat} {l : List (Nat × Value)} {d : Nat} {op : Op} {ty : TypeId} {pos : String} {aft : Array Edge}
theorem sxu {g : Nat} {b' : Bool} {o : Oper} {dg : Nat} (hE : EnvD δ n a l) (hg : ops[g]? = some o) (ho : o.dst = some dg) (hl : lk l dg = some undef)
  (hd : Nat.blt d n = true) (k : ∀ a', EnvD δ n a' ((d, undef) :: l) → wpL ro P ops Q rest a' w) :
  wpL ro P ops Q (⟨some d, op, ty, pos, aft, some (g, b')⟩ :: rest) a w :=
 wpListIn_step fun K hK => by
  have hy : yielded ops a.tmps g = none := yielded_undef (by unfold dstOf; rw [hg]; exact ho) (hE.at_ dg _ hl)
  have : ((none : Option Bool) == some b') = false := rfl
  simp only [Region.wanted, hy, this, Bool.false_eq_true, if_false]
  exact ⟨fun _ _ => trivial, hK _ _ (k _ (hE.put hd undef))⟩
end
end Go.Proofs.YthbonoagbeilkaaGreat.Hay
namespace Go.Proofs.YthbonoagbeilkaaGreat.Hay
open Go.RowKit (Below)

def CallV (P : Program) (fv : Value) (vs : List Value) (w : World) (R : Value → World → Prop) : Prop :=
 ∀ (dst : Option Tmp) (ty : TypeId) (pos : String) (aft : Array Edge) (g : Option (Nat × Bool)) (x : Operand) (xs : Array Operand) (tys : Array TypeId) (a : Act), a.eval x = fv → xs.map a.eval = vs.toArray → Step P ⟨dst, .call ⟨.value x, xs, tys⟩, ty, pos, aft, g⟩ a w R
theorem CallV.of_func {P : Program} {f : FuncId} {first cap : Array Value} {vs : List Value} {w : World} {R : Value → World → Prop} (hcall : ∀ vs w, (callFunc f vs).run P w = .ok (.enter f vs) w) (hc : Calls P f (first ++ vs.toArray ++ cap) w (Ret R)) : CallV P (.func (.func f) first cap) vs w R := by
 intro dst ty pos aft g x xs tys a hx hxs ro Kk Q hk
 have hrun : (execOp a.eval ⟨dst, .call ⟨.value x, xs, tys⟩, ty, pos, aft, g⟩).run P w = .ok (.enter f (first ++ vs.toArray ++ cap)) w := by
  simp [execOp, resolve, hx, Deferred.ofValue, invoke, hxs, hcall]
 refine wpR_enter hrun (hc.mono fun e w' he => ?_)
 cases e with
 | returned v => exact hk v w' he
 | panicked ch => exact he.elim
 | outgrown => exact he.elim
def Fn1 {α β : Type} (P : Program) (ka : Kd α) (kb : Kd β) (m0 : M) (fv : Value) (f : α → Option β) : Prop :=
 ∃ (g : FuncId) (cb : Array Value), fv = .func (.func g) #[] cb ∧ (∀ vs w, (callFunc g vs).run P w = .ok (.enter g vs) w) ∧
  ∀ (W0 : Bse) (m : M) (w : World) (L : List (Nat × List Value)) (TL : List (Nat × Value)) (v : Value) (x : α) (r : β), M.le m0 m → S W0 m w L TL → RV ka m v x → f x = some r → Calls P g (#[v] ++ cb) w (Ret fun v' w' => ∃ m', M.le m m' ∧ S W0 m' w' L TL ∧ RV kb m' v' r)
def Fn2 {α α' β : Type} (P : Program) (ka : Kd α) (ka' : Kd α') (kb : Kd β) (m0 : M) (fv : Value) (f : α → α' → Option β) : Prop :=
 ∃ (g : FuncId) (cb : Array Value), fv = .func (.func g) #[] cb ∧ (∀ vs w, (callFunc g vs).run P w = .ok (.enter g vs) w) ∧
  ∀ (W0 : Bse) (m : M) (w : World) (L : List (Nat × List Value)) (TL : List (Nat × Value)) (v v' : Value) (x : α) (x' : α') (r : β), M.le m0 m → S W0 m w L TL → RV ka m v x → RV ka' m v' x' → f x x' = some r → Calls P g (#[v, v'] ++ cb) w (Ret fun u w' => ∃ m', M.le m m' ∧ S W0 m' w' L TL ∧ RV kb m' u r)
theorem Fn1.mono {α β : Type} {P : Program} {ka : Kd α} {kb : Kd β} {m0 m1 : M} {fv : Value} {f : α → Option β} (h : Fn1 P ka kb m0 fv f) (hm : M.le m0 m1) : Fn1 P ka kb m1 fv f := by
 obtain ⟨g, cb, h0, h1, h⟩ := h
 exact ⟨g, cb, h0, h1, fun W0 m w L TL v x r h1 h2 h3 h4 => h W0 m w L TL v x r (hm.trans h1) h2 h3 h4⟩
theorem Fn2.mono {α α' β : Type} {P : Program} {ka : Kd α} {ka' : Kd α'} {kb : Kd β} {m0 m1 : M} {fv : Value} {f : α → α' → Option β} (h : Fn2 P ka ka' kb m0 fv f) (hm : M.le m0 m1) : Fn2 P ka ka' kb m1 fv f := by
 obtain ⟨g, cb, h0, h1, h⟩ := h
 exact ⟨g, cb, h0, h1, fun W0 m w L TL v v' x x' r h1 h2 h3 h4 h5 => h W0 m w L TL v v' x x' r (hm.trans h1) h2 h3 h4 h5⟩
section
variable {δ : List Nat} {ro : Option Nat} {P : Program} {W0 : Bse} {m : M} {L : List (Nat × List Value)} {TL : List (Nat × Value)} {n : Nat} {a : Act} {l : List (Nat × Value)} {w : World} {ty t t2 e : TypeId} {pos : String} {aft : Array Edge} {g : Option (Nat × Bool)} {x y : Operand} {d : Nat} {α α' β : Type} {k : Kd α} {ka : Kd α} {ka' : Kd α'} {kb : Kd β} {b i : Nat} {cs : List Value}
theorem st_callF1 {xs : Array Operand} {tys : Array TypeId} {fv v : Value} {f : α → Option β} {xx : α} {r : β} (hE : EnvD δ n a l) (hS : S W0 m w L TL) (hx : evl l x = some fv) (ha : argl l xs = some [v]) (hf : Fn1 P ka kb m fv f) (hv : RV ka m v xx) (hr : f xx = some r) :
  Step P ⟨some d, .call ⟨.value x, xs, tys⟩, ty, pos, aft, g⟩ a w (fun v' w' => ∃ m', M.le m m' ∧ S W0 m' w' L TL ∧ RV kb m' v' r) := by
 obtain ⟨g, cb, rfl, h1, h⟩ := hf
 exact CallV.of_func h1 (by simpa using h W0 m w L TL v xx r (M.le.refl m) hS hv hr) _ _ _ _ _ _ _ _ _ (hE.eval hx) (argl_eval hE ha)
theorem st_callF2 {xs : Array Operand} {tys : Array TypeId} {fv v v' : Value} {f : α → α' → Option β} {xx : α} {yy : α'} {r : β} (hE : EnvD δ n a l) (hS : S W0 m w L TL) (hx : evl l x = some fv) (ha : argl l xs = some [v, v']) (hf : Fn2 P ka ka' kb m fv f) (hv : RV ka m v xx) (hv' : RV ka' m v' yy) (hr : f xx yy = some r) :
  Step P ⟨some d, .call ⟨.value x, xs, tys⟩, ty, pos, aft, g⟩ a w (fun u w' => ∃ m', M.le m m' ∧ S W0 m' w' L TL ∧ RV kb m' u r) := by
 obtain ⟨g, cb, rfl, h1, h⟩ := hf
 exact CallV.of_func h1 (by simpa using h W0 m w L TL v v' xx yy r (M.le.refl m) hS hv hv' hr) _ _ _ _ _ _ _ _ _ (hE.eval hx) (argl_eval hE ha)
theorem S.freezeL (h : S W0 m w ((b, cs) :: L) TL) {xx : α} (hR : k.R m cs xx) : ∃ m', M.le m m' ∧ S W0 m' w L TL ∧ PR k m' (.pointer (some ⟨b, 0, none⟩)) xx := by
 have h1 := h.dropL 1
 simp only [List.drop_succ_cons, List.drop_zero] at h1
 have hl := k.len hR
 have hp := k.pos
 have hc : cs ≠ [] := fun e => by subst e; simp at hl; omega
 obtain ⟨hB, hm, t, ht⟩ := h.own 0 (b, cs) rfl hc
 have hle : M.le m (m.put b cs) := M.le_put _ hm
 refine ⟨m.put b cs, hle, ⟨h1.below, fun b' r hb => ?_, fun i e he hv => ?_, h1.nodup, fun i e he => ?_, h1.apart⟩, b, 0, rfl, ?_⟩
 ·by_cases hbb : b' = b
  ·subst hbb
   rw [M.put_same] at hb; injection hb with hb; subst hb
   exact ⟨_, t, _, [], ht, by simp⟩
  ·rw [M.put_other _ _ hbb] at hb; exact h1.imm b' r hb
 ·obtain ⟨q1, q2, q3⟩ := h1.own i e he hv
  have hne := h.nodup 0 (i + 1) (b, cs) e rfl (by simpa using he) (by omega) hc hv
  exact ⟨q1, by rw [M.put_other _ _ (fun e => hne e.symm)]; exact q2, q3⟩
 ·have hT := h1.tails i e he
  obtain ⟨sz, u⟩ := e
  cases u <;> try exact hT
  rename_i ad len' cap'
  cases ad with
  | none => trivial
  | some ad =>
   obtain ⟨hlt, hT⟩ := hT
   refine ⟨hlt, ?_⟩
   rcases hT with hf | ⟨p0, p1, r, c, t', p2, p3, p4, p5⟩
   ·exact .inl hf
   ·exact .inr ⟨p0, p1, r, c, t', by rw [M.put_other _ _ (fun e => by rw [e, hm] at p2; cases p2)]; exact p2, p3, p4, p5⟩
 ·have : (m.put b cs).row b 0 k.sz = cs := by
   unfold M.row
   rw [M.put_same]
   simp [← hl]
  rw [this]
  exact k.mono hle hR
def cmpB (s u : List Int) : Int := if ltB s u then -1 else if ltB u s then 1 else 0
theorem compareBytes_bts : ∀ {s u : List Int}, (∀ n ∈ s, 0 ≤ n ∧ n < 256) → (∀ n ∈ u, 0 ≤ n ∧ n < 256) → Lib.compareBytes (bts s).data.toList (bts u).data.toList = cmpB s u := by
 intro s u hs hu
 show Lib.compareBytes (s.map (fun n => UInt8.ofNat n.toNat)) (u.map (fun n => UInt8.ofNat n.toNat)) = _
 induction s generalizing u with
 | nil => cases u <;> simp [Lib.compareBytes, cmpB, ltB]
 | cons a x ih =>
  cases u with
  | nil => simp [Lib.compareBytes, cmpB, ltB]
  | cons b y =>
   have ha := hs a (by simp)
   have hb := hu b (by simp)
   have hih := ih (u := y) (fun n hn => hs n (by simp [hn])) (fun n hn => hu n (by simp [hn]))
   have e1 := u8_back ha
   have e2 := u8_back hb
   have h1 : (UInt8.ofNat a.toNat < UInt8.ofNat b.toNat) ↔ a < b := by
    rw [UInt8.lt_iff_toNat_lt]; omega
   have h2 : (UInt8.ofNat b.toNat < UInt8.ofNat a.toNat) ↔ b < a := by
    rw [UInt8.lt_iff_toNat_lt]; omega
   simp only [List.map_cons, Lib.compareBytes, h1, h2, hih]
   unfold cmpB
   simp only [ltB]
   by_cases c1 : a < b
   ·simp [c1]
   ·by_cases c2 : b < a
    ·simp [c1, c2, show ¬ a = b by omega]
    ·have : a = b := by omega
     subst this; simp
theorem st_cmpstr {f : FuncId} {fn : Func} {xs : Array Operand} {tys : Array TypeId} {s u : List Int} (hE : EnvD δ n a l) (hf : P.funcs[f]? = some fn) (hname : (fn.name == "runtime.NumGoroutine") = false) (hb : fn.body.isNone = true) (hn : Extern.findNext fn = none) (he : Extern.find fn = some Extern.BytealgCompare.compare)
  (ha : argl l xs = some [.string (bts s), .string (bts u)]) (hs : ∀ n ∈ s, 0 ≤ n ∧ n < 256) (hu : ∀ n ∈ u, 0 ≤ n ∧ n < 256) :
  Run1 P ⟨some d, .call ⟨.value (.func f), xs, tys⟩, ty, pos, aft, g⟩ a w (.int .i64 (cmpB s u)) w := by
 have h1 := run_callFunc_extern hf hname hb hn he #[.string (bts s), .string (bts u)] w
 rw [Lib.run_compareString, compareBytes_bts hs hu] at h1
 simp [Run1, execOp, resolve, Act.eval, Deferred.ofValue, invoke, argl_eval hE ha, h1]
theorem inR_cmpB (s u : List Int) : inR .i64 (cmpB s u) := by
 unfold cmpB
 split
 ·exact inR_lit (by decide)
 ·split <;> exact inR_lit (by decide)
theorem st_isnil {v : Value} {xs : List α} (hE : EnvD δ n a l) (hx : evl l x = some v) (hy : evl l y = some (.slice none 0 0)) (hv : RV (kSl k) m v xs) (hu : P.underlying t = some (.slice e)) :
  Step P ⟨some d, .binOp .eql t x y t2, ty, pos, aft, g⟩ a w (fun u w' => w = w' ∧ ∃ c, u = .bool c ∧ (c = true → xs = [])) := by
 obtain ⟨ad, cap, rfl, h3, h4, h5⟩ := RV_sl hv
 have hg : (eqGuard .eql t x y (.slice ad xs.length cap) (.slice none 0 0)).run P w = .ok () w := by simp [eqGuard]
 have hr : Run1 P ⟨some d, .binOp .eql t x y t2, ty, pos, aft, g⟩ a w (.bool ad.isNone) w := by
  simp only [Run1, execOp, hE.eval hx, hE.eval hy, Sem.run_bind, hg, Result.andThen_ok]
  simp [binOp, run_equal_slice_nil _ t e ad xs.length cap hu]
 refine hr.step ⟨rfl, _, rfl, fun hc => ?_⟩
 cases ad with
 | none => simp only at h5; exact List.eq_nil_of_length_eq_zero (by omega)
 | some _ => simp at hc
end
section
variable {δ : List Nat} {ro : Option Nat} {P : Program} {ops : Array Oper} {Q : Exit → Act → World → Prop} {rest : List Oper} {a : Act} {w : World} {n : Nat} {l : List (Nat × Value)} {d : Nat} {op : Op} {ty : TypeId} {pos : String} {aft : Array Edge} {v : Value}
theorem sp (hE : EnvD δ n a l) (hr : Run1 P ⟨some d, op, ty, pos, aft, none⟩ a w v w) (hd : Nat.blt d n = true) (k : ∀ a', EnvD δ n a' ((d, v) :: l) → wpL ro P ops Q rest a' w) : wpL ro P ops Q (⟨some d, op, ty, pos, aft, none⟩ :: rest) a w :=
 st hE hr.pure hd fun u a' w' h hE' => by obtain ⟨rfl, rfl⟩ := h; exact k a' hE'
theorem qm {x : Operand} (hE : EnvD δ n a l) (hx : evl l x = some v) (hd : Nat.blt d n = true) (k : ∀ a', EnvD δ n a' ((d, v) :: l) → wpL ro P ops Q rest a' w) : wpL ro P ops Q (⟨some d, .move x, ty, pos, aft, none⟩ :: rest) a w := sp hE (r_move hE hx) hd k
theorem qa {x : Operand} (hE : EnvD δ n a l) (hx : evl l x = some v) (hd : Nat.blt d n = true) (k : ∀ a', EnvD δ n a' ((d, v) :: l) → wpL ro P ops Q rest a' w) : wpL ro P ops Q (⟨some d, .assign x, ty, pos, aft, none⟩ :: rest) a w := sp hE (r_assign hE hx) hd k
theorem oi {α : Type} {x y : α} (h : some x = some y) : x = y := Option.some.inj h
theorem cb {b c : Bool} (h : b = c) : Value.bool b = Value.bool c := congrArg Value.bool h
theorem spg {og : Oper} {g dg : Nat} {b c : Bool} (hE : EnvD δ n a l) (hg : ops[g]? = some og) (ho : og.dst = some dg) (hdg : Nat.blt dg n = true) (hl : lk l dg = some (.bool c)) (hc : c = b)
  (hr : Run1 P ⟨some d, op, ty, pos, aft, some (g, b)⟩ a w v w) (hd : Nat.blt d n = true) (k : ∀ a', EnvD δ n a' ((d, v) :: l) → wpL ro P ops Q rest a' w) : wpL ro P ops Q (⟨some d, op, ty, pos, aft, some (g, b)⟩ :: rest) a w :=
 stg hE hg ho hdg hl hc hr.pure hd fun u a' w' h hE' => by obtain ⟨rfl, rfl⟩ := h; exact k a' hE'
theorem ob {α β : Type} {x : Option α} {f : α → Option β} {r : β} (h : x.bind f = some r) : ∃ y, x = some y ∧ f y = some r := Option.bind_eq_some_iff.1 h
end
end Go.Proofs.YthbonoagbeilkaaGreat.Hay
