import Derived.Orders
import Derived.Below
import Derived.WalkKit
import Derived.Laws.Tables
import Derived.RangeFuncFrom
import Derived.RangeFuncLeaves
import Derived.OrdersIn
namespace Go.Proofs.Ytifobhaccglckaa.Hay
open Go.RowKit (Below)

abbrev M := Nat → Option (List Value)
def M.le (m m' : M) : Prop := ∀ b l, m b = some l → ∃ r, m' b = some (l ++ r)
theorem M.le.refl (m : M) : M.le m m := fun _ l h => ⟨[], by simpa using h⟩
theorem M.le.trans {a b c : M} (h : M.le a b) (k : M.le b c) : M.le a c := fun x l hl => by
  obtain ⟨r, hr⟩ := h x l hl
  obtain ⟨r', hr'⟩ := k x _ hr
  exact ⟨r ++ r', by simpa using hr'⟩
def M.row (m : M) (b o n : Nat) : List Value := match m b with | some l => (l.drop o).take n | none => []
theorem M.row_mono {m m' : M} (h : M.le m m') {b o n : Nat} (hl : (m.row b o n).length = n) (h0 : 0 < n) : m'.row b o n = m.row b o n := by
  unfold M.row at *
  cases hm : m b with
  | none => simp [hm] at hl; omega
  | some l =>
    obtain ⟨r, hr⟩ := h b l hm
    simp only [hm, hr] at *
    rw [List.drop_append]
    simp at hl
    rw [List.take_append_of_le_length (by simp; omega)]

structure Kd (α : Type) where
  sz : Nat
  agg : Bool
  R : M → List Value → α → Prop
  mono : ∀ {m m' cs x}, M.le m m' → R m cs x → R m' cs x
  len : ∀ {m cs x}, R m cs x → cs.length = sz
  one : ∀ {m cs x}, R m cs x → ∀ c ∈ cs, c.oneCell' = true
  pos : 0 < sz
  flat : agg = false → sz = 1

def Kd.val {α : Type} (d : Kd α) (cs : List Value) : Value := if d.agg then .agg cs.toArray else cs.headD undef
def RV {α : Type} (d : Kd α) (m : M) (v : Value) (x : α) : Prop := ∃ cs, d.R m cs x ∧ v = d.val cs
theorem RV.mono {α : Type} {d : Kd α} {m m' : M} {v : Value} {x : α} (h : RV d m v x) (hm : M.le m m') : RV d m' v x := by
  obtain ⟨cs, hr, hv⟩ := h
  exact ⟨cs, d.mono hm hr, hv⟩
theorem Kd.val_cells {α : Type} (d : Kd α) {m : M} {cs : List Value} {x : α} (h : d.R m cs x) : (d.val cs).cells = cs.toArray := by
  unfold Kd.val
  cases ha : d.agg with
  | true => simp [Value.cells]
  | false =>
    have hl := d.len h
    rw [d.flat ha] at hl
    match cs, hl with
    | [c], _ =>
      have h1 := d.one h c (by simp)
      simp
      cases c <;> simp_all [Value.oneCell', Value.cells]
def PR {α : Type} (d : Kd α) (m : M) (v : Value) (x : α) : Prop := ∃ b o, v = .pointer (some ⟨b, o, none⟩) ∧ d.R m (m.row b o d.sz) x
theorem PR.mono {α : Type} {d : Kd α} {m m' : M} {v : Value} {x : α} (h : PR d m v x) (hm : M.le m m') : PR d m' v x := by
  obtain ⟨b, o, hv, hr⟩ := h
  refine ⟨b, o, hv, ?_⟩
  rw [M.row_mono hm (d.len hr) d.pos]
  exact d.mono hm hr

def inR (k : IntKind) (n : Int) : Prop := k.wrap n = n
def kInt (k : IntKind) : Kd Int := {
  sz := 1
  agg := false
  R := fun _ cs n => cs = [.int k n] ∧ inR k n
  mono := fun _ h => h
  len := fun h => by simp [h.1]
  one := fun h => by simp [h.1, Value.oneCell']
  pos := by decide
  flat := fun _ => rfl
  }
def kBool : Kd Bool := {
  sz := 1
  agg := false
  R := fun _ cs b => cs = [.bool b]
  mono := fun _ h => h
  len := fun h => by simp [h]
  one := fun h => by simp [h, Value.oneCell']
  pos := by decide
  flat := fun _ => rfl
  }
def bts (s : List Int) : ByteArray := ⟨(s.map fun n => UInt8.ofNat n.toNat).toArray⟩
def maxSz : Nat := 2 ^ 48
def kStr : Kd (List Int) := {
  sz := 1
  agg := false
  R := fun _ cs s => cs = [.string (bts s)] ∧ (∀ n ∈ s, 0 ≤ n ∧ n < 256) ∧ s.length ≤ maxSz
  mono := fun _ h => h
  len := fun h => by simp [h.1]
  one := fun h => by simp [h.1, Value.oneCell']
  pos := by decide
  flat := fun _ => rfl
  }
def kSl {α : Type} (d : Kd α) : Kd (List α) := {
  sz := 1
  agg := false
  R := fun m cs xs => ∃ a len cap, cs = [.slice a len cap] ∧ len = xs.length ∧ len ≤ cap ∧ xs.length ≤ maxSz ∧
    (match a with
     | none => cap = 0
     | some ad => (0 < cap → ad.spot = none) ∧ ∀ i (h : i < xs.length), d.R m (m.row ad.block (ad.off + i * d.sz) d.sz) xs[i])
  mono := fun {m m' cs xs} hm h => by
    obtain ⟨a, len, cap, h1, h2, h3, h4, h5⟩ := h
    refine ⟨a, len, cap, h1, h2, h3, h4, ?_⟩
    cases a with
    | none => exact h5
    | some ad =>
      refine ⟨h5.1, fun i hi => ?_⟩
      have := h5.2 i hi
      rw [M.row_mono hm (d.len this) d.pos]
      exact d.mono hm this
  len := fun h => by obtain ⟨a, len, cap, h1, _⟩ := h; simp [h1]
  one := fun h => by obtain ⟨a, len, cap, h1, _⟩ := h; simp [h1, Value.oneCell']
  pos := by decide
  flat := fun _ => rfl
  }
def kPair {α β : Type} (d : Kd α) (e : Kd β) : Kd (α × β) := {
  sz := d.sz + e.sz
  agg := true
  R := fun m cs x => d.R m (cs.take d.sz) x.1 ∧ e.R m (cs.drop d.sz) x.2
  mono := fun hm h => ⟨d.mono hm h.1, e.mono hm h.2⟩
  len := fun {m cs x} h => by have h1 := d.len h.1; have h2 := e.len h.2; simp at h1 h2; omega
  one := fun {m cs x} h c hc => by
    rw [← List.take_append_drop d.sz cs] at hc
    rcases List.mem_append.1 hc with h1 | h1
    · exact d.one h.1 c h1
    · exact e.one h.2 c h1
  pos := by have := d.pos; omega
  flat := fun h => by cases h
  }
def kMap {α β : Type} (f : β → α) (d : Kd α) : Kd β := {
  sz := d.sz
  agg := true
  R := fun m cs x => d.R m cs (f x)
  mono := d.mono
  len := d.len
  one := d.one
  pos := d.pos
  flat := fun h => by cases h
  }

def Tail (B : Nat) (m : M) (w : World) (sz : Nat) : Value → Prop
  | .slice none _ _ => True
  | .slice (some ad) len cap => ad.block < w.heap.size ∧ (len = cap ∨ ad.spot = none ∧ B ≤ ad.block ∧ ∃ l c t, m ad.block = some l ∧ l.length = ad.off + len * sz ∧ w.heap[ad.block]? = some (.cells c t (0, 0)) ∧ ad.off + cap * sz ≤ c.size)
  | _ => False
def sblk : Value → Option Nat
  | .slice (some ad) _ _ => some ad.block
  | _ => none
def Apart (v u : Value) : Prop := ∀ b, sblk v = some b → sblk u ≠ some b

structure Bel (B : Nat) (w w' : World) : Prop extends Below B w w' where
  drawn : w.drawn ≤ w'.drawn
theorem Bel.refl (B : Nat) (w : World) : Bel B w w := ⟨Below.refl B w, Nat.le_refl _⟩
theorem Bel.trans {B : Nat} {a b c : World} (h : Bel B a b) (k : Bel B b c) : Bel B a c := ⟨h.toBelow.trans k.toBelow, Nat.le_trans h.drawn k.drawn⟩
theorem Bel.drew {B : Nat} {a w : World} (h : Bel B a w) : Bel B a w.drew := ⟨h.toBelow.drew, Nat.le_succ_of_le h.drawn⟩
theorem Bel.alloc {B : Nat} {a w : World} (h : Bel B a w) (hB : B ≤ w.heap.size) (o : Obj) : Bel B a (w.alloc o) := ⟨h.toBelow.alloc hB o, h.drawn⟩

structure Bse where
  w : World
  keep : Nat → Option Obj
abbrev Bse.heap (W0 : Bse) : Array Obj := W0.w.heap
structure Blw (W0 : Bse) (w : World) : Prop extends Bel W0.heap.size W0.w w where
  kept : ∀ (k : Nat) (o : Obj), W0.keep k = some o → w.heap[k]? = some o ∧ o.isCells = false
theorem Blw.step {W0 : Bse} {w w' : World} (h : Blw W0 w) (hb : Bel W0.heap.size w w') (hk : ∀ (k : Nat) (o : Obj), w.heap[k]? = some o → o.isCells = false → w'.heap[k]? = some o) : Blw W0 w' :=
  ⟨h.toBel.trans hb, fun k o ho => ⟨hk k o (h.kept k o ho).1 (h.kept k o ho).2, (h.kept k o ho).2⟩⟩
theorem Blw.drew {W0 : Bse} {w : World} (h : Blw W0 w) : Blw W0 w.drew := ⟨h.toBel.drew, h.kept⟩
theorem Blw.alloc {W0 : Bse} {w : World} (h : Blw W0 w) (hB : W0.heap.size ≤ w.heap.size) (o : Obj) : Blw W0 (w.alloc o) :=
  h.step ((Bel.refl _ w).alloc hB o) fun k o' ho _ => by
    have := (Array.getElem?_eq_some_iff.1 ho).1
    show (w.heap.push o)[k]? = _
    rw [Array.getElem?_push, if_neg (by omega)]; exact ho
structure S (W0 : Bse) (m : M) (w : World) (L : List (Nat × List Value)) (TL : List (Nat × Value)) : Prop where
  below : Blw W0 w
  imm : ∀ b l, m b = some l → ∃ c t fr r, w.heap[b]? = some (.cells c t fr) ∧ c.toList = l ++ r
  own : ∀ (i : Nat) (e : Nat × List Value), L[i]? = some e → e.2 ≠ [] → W0.heap.size ≤ e.1 ∧ m e.1 = none ∧ ∃ t, w.heap[e.1]? = some (.cells e.2.toArray t (0, 0))
  nodup : ∀ (i j : Nat) (e e' : Nat × List Value), L[i]? = some e → L[j]? = some e' → i ≠ j → e.2 ≠ [] → e'.2 ≠ [] → e.1 ≠ e'.1
  tails : ∀ (i : Nat) (e : Nat × Value), TL[i]? = some e → Tail W0.heap.size m w e.1 e.2
  apart : ∀ (i j : Nat) (e e' : Nat × Value), TL[i]? = some e → TL[j]? = some e' → i ≠ j → Apart e.2 e'.2

section
variable {W0 : Bse} {m : M} {w : World} {L : List (Nat × List Value)} {TL : List (Nat × Value)}
theorem S.drew (h : S W0 m w L TL) : S W0 m w.drew L TL :=
  ⟨h.below.drew, h.imm, h.own, h.nodup, fun i e he => by
    have := h.tails i e he
    revert this
    cases e with | mk s v => cases v <;> intro h <;> exact h, h.apart⟩
theorem S.lt (h : S W0 m w L TL) {b : Nat} {l : List Value} (hb : m b = some l) : b < w.heap.size := by
  obtain ⟨c, t, fr, r, hc, _⟩ := h.imm b l hb
  exact (Array.getElem?_eq_some_iff.1 hc).1
theorem S.fresh (h : S W0 m w L TL) {b : Nat} (hb : w.heap.size ≤ b) : m b = none := by
  cases hm : m b with
  | none => rfl
  | some l => have := h.lt hm; omega
theorem S.dropL (h : S W0 m w L TL) (k : Nat) : S W0 m w (L.drop k) TL :=
  ⟨h.below, h.imm, fun i e he => h.own (k + i) e (by simpa using he), fun i j e e' he he' hij => h.nodup (k + i) (k + j) e e' (by simpa using he) (by simpa using he') (by omega), h.tails, h.apart⟩
theorem S.dropT (h : S W0 m w L TL) (k : Nat) : S W0 m w L (TL.drop k) :=
  ⟨h.below, h.imm, h.own, h.nodup, fun i e he => h.tails (k + i) e (by simpa using he), fun i j e e' he he' hij => h.apart (k + i) (k + j) e e' (by simpa using he) (by simpa using he') (by omega)⟩
theorem S.selL (h : S W0 m w L TL) (L' : List (Nat × List Value)) (f : Nat → Nat) (hf : ∀ i e, L'[i]? = some e → L[f i]? = some e) (hi : ∀ i j, f i = f j → i = j) : S W0 m w L' TL :=
  ⟨h.below, h.imm, fun i e he => h.own (f i) e (hf i e he), fun i j e e' he he' hij => h.nodup (f i) (f j) e e' (hf i e he) (hf j e' he') (fun e => hij (hi _ _ e)), h.tails, h.apart⟩
theorem S.selT (h : S W0 m w L TL) (TL' : List (Nat × Value)) (f : Nat → Nat) (hf : ∀ i e, TL'[i]? = some e → TL[f i]? = some e) (hi : ∀ i j, f i = f j → i = j) : S W0 m w L TL' :=
  ⟨h.below, h.imm, h.own, h.nodup, fun i e he => h.tails (f i) e (hf i e he), fun i j e e' he he' hij => h.apart (f i) (f j) e e' (hf i e he) (hf j e' he') (fun e => hij (hi _ _ e))⟩
theorem S.nilT (h : S W0 m w L TL) (sz l c : Nat) : S W0 m w L ((sz, .slice none l c) :: TL) :=
  ⟨h.below, h.imm, h.own, h.nodup, fun i e he => by
    cases i with
    | zero => simp at he; subst he; trivial
    | succ i => exact h.tails i e (by simpa using he),
   fun i j e e' he he' hij => by
    cases i with
    | zero => simp at he; subst he; intro b hb; simp [sblk] at hb
    | succ i =>
      cases j with
      | zero => simp at he'; subst he'; intro b hb; simp [sblk]
      | succ j => exact h.apart i j e e' (by simpa using he) (by simpa using he') (by omega)⟩

theorem tail_heap {B sz : Nat} {v : Value} {w' : World} (hw : ∀ b, b < w.heap.size → w'.heap[b]? = w.heap[b]?) (h : Tail B m w sz v) : Tail B m w' sz v := by
  cases v <;> try exact h
  rename_i a len cap
  cases a with
  | none => trivial
  | some ad =>
    obtain ⟨hlt, h⟩ := h
    have hlt' : ad.block < w'.heap.size := by
      have := hw _ hlt
      rw [Array.getElem?_eq_getElem hlt] at this
      exact (Array.getElem?_eq_some_iff.1 this).1
    refine ⟨hlt', ?_⟩
    rcases h with h | ⟨h0, h1, l, c, t, h2, h3, h4, h5⟩
    · exact .inl h
    · exact .inr ⟨h0, h1, l, c, t, h2, h3, by rw [hw _ hlt]; exact h4, h5⟩
theorem tail_m {B sz : Nat} {v : Value} {m' : M} (hm : ∀ b, b < w.heap.size → m' b = m b) (h : Tail B m w sz v) : Tail B m' w sz v := by
  cases v <;> try exact h
  rename_i a len cap
  cases a with
  | none => trivial
  | some ad =>
    obtain ⟨hlt, h⟩ := h
    refine ⟨hlt, ?_⟩
    rcases h with h | ⟨h0, h1, l, c, t, h2, h3, h4, h5⟩
    · exact .inl h
    · exact .inr ⟨h0, h1, l, c, t, by rw [hm _ hlt]; exact h2, h3, h4, h5⟩
theorem tail_lt {B sz b : Nat} {v : Value} (h : Tail B m w sz v) (hv : sblk v = some b) : b < w.heap.size := by
  cases v <;> simp [sblk] at hv
  rename_i a len cap
  cases a with
  | none => simp at hv
  | some ad => simp at hv; subst hv; exact h.1
theorem alloc_old (w : World) (o : Obj) (b : Nat) (h : b < w.heap.size) : (w.alloc o).heap[b]? = w.heap[b]? := by
  show (w.heap.push o)[b]? = _
  rw [Array.getElem?_push, if_neg (by omega)]
theorem alloc_new (w : World) (o : Obj) : (w.alloc o).heap[w.heap.size]? = some o := by
  show (w.heap.push o)[w.heap.size]? = _
  simp
theorem S.allocL (h : S W0 m w L TL) (cs : List Value) (t : TypeId) : S W0 m (w.alloc (.cells cs.toArray t)) ((w.heap.size, cs) :: L) TL := by
  have hB : W0.heap.size ≤ w.heap.size := h.below.size
  refine ⟨h.below.alloc hB _, fun b l hb => ?_, fun i e he hv => ?_, fun i j e e' he he' hij hv hv' => ?_, fun i (e : Nat × Value) he => tail_heap (alloc_old w _) (h.tails i e he), h.apart⟩
  · rw [alloc_old w _ b (h.lt hb)]; exact h.imm b l hb
  · cases i with
    | zero =>
      simp at he; subst he
      exact ⟨hB, h.fresh (Nat.le_refl _), t, alloc_new w _⟩
    | succ i =>
      obtain ⟨h1, h2, t', h3⟩ := h.own i e (by simpa using he) hv
      exact ⟨h1, h2, t', by rw [alloc_old w _ _ (Array.getElem?_eq_some_iff.1 h3).1]; exact h3⟩
  · have key : ∀ (i : Nat) (e : Nat × List Value), L[i]? = some e → e.2 ≠ [] → w.heap.size ≠ e.1 := fun i e he hv => by
      obtain ⟨_, _, t', h3⟩ := h.own i e he hv
      have := (Array.getElem?_eq_some_iff.1 h3).1
      omega
    cases i with
    | zero =>
      simp at he; subst he
      cases j with
      | zero => omega
      | succ j => exact key j e' (by simpa using he') hv'
    | succ i =>
      cases j with
      | zero => simp at he'; subst he'; exact fun x => key i e (by simpa using he) hv x.symm
      | succ j => exact h.nodup i j e e' (by simpa using he) (by simpa using he') (by omega) hv hv'
def M.put (m : M) (b : Nat) (l : List Value) : M := fun k => if k = b then some l else m k
theorem M.le_put {m : M} {b : Nat} (l : List Value) (h : m b = none) : M.le m (m.put b l) := fun k r hk => ⟨[], by
  unfold M.put
  split
  · rename_i e; subst e; rw [h] at hk; cases hk
  · simpa using hk⟩
theorem M.put_same (m : M) (b : Nat) (l : List Value) : m.put b l b = some l := by simp [M.put]
theorem M.put_other (m : M) {b k : Nat} (l : List Value) (h : k ≠ b) : m.put b l k = m k := by simp [M.put, h]
theorem S.allocM (h : S W0 m w L TL) (cs : List Value) (t : TypeId) : M.le m (m.put w.heap.size cs) ∧ S W0 (m.put w.heap.size cs) (w.alloc (.cells cs.toArray t)) L TL := by
  have hB : W0.heap.size ≤ w.heap.size := h.below.size
  have hn : m w.heap.size = none := h.fresh (Nat.le_refl _)
  refine ⟨M.le_put _ hn, h.below.alloc hB _, fun b l hb => ?_, fun i e he hv => ?_, h.nodup, fun i e he => ?_, h.apart⟩
  · by_cases e : b = w.heap.size
    · subst e
      rw [M.put_same] at hb; injection hb with hb; subst hb
      exact ⟨cs.toArray, t, (0, 0), [], alloc_new w _, by simp⟩
    · rw [M.put_other _ _ e] at hb
      rw [alloc_old w _ b (h.lt hb)]; exact h.imm b l hb
  · obtain ⟨h1, h2, t', h3⟩ := h.own i e he hv
    have hlt := (Array.getElem?_eq_some_iff.1 h3).1
    exact ⟨h1, by rw [M.put_other _ _ (by omega)]; exact h2, t', by rw [alloc_old w _ _ hlt]; exact h3⟩
  · exact tail_heap (alloc_old w _) (tail_m (w := w) (m := m) (fun b hb => M.put_other _ _ (by omega)) (h.tails i e he))
end
end Go.Proofs.Ytifobhaccglckaa.Hay
