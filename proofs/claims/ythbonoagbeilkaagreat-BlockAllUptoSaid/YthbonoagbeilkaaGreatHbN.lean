import Derived.Test.YthbonoagbeilkaaGreatHbA
import Derived.Shelf.GgSortFunc.InsertionK
import Derived.Shelf.SlSortCmp.InsertionK
import Derived.Deep.Slices
import Derived.RangeFuncLeaves
namespace Go.Proofs.YthbonoagbeilkaaGreat.Hay
open Go.RowKit (Below)
open Go.Sort (grow ahead putRowK flatK HoldsK mapBlock onCells putCells)
open Go.Shelf Go.Lib

section
variable {P : Program} {W0 : Bse} {m : M} {L : List (Nat × List Value)} {TL : List (Nat × Value)} {w : World} {α : Type} {k : Kd α}
theorem grow_old (w : World) (os : Array Obj) (b : Nat) (h : b < w.heap.size) : (grow w os).heap[b]? = w.heap[b]? := by
 show (w.heap ++ os)[b]? = _
 rw [Array.getElem?_append_left h]
theorem S.more (h : S W0 m w L TL) (os : Array Obj) : S W0 m (Go.Sort.grow w os) L TL := by
 have hB : W0.heap.size ≤ w.heap.size := h.below.size
 refine ⟨h.below.step ⟨⟨rfl, rfl, rfl, by simp [Go.Sort.grow], fun j hj => grow_old w os j (by omega)⟩, Nat.le_refl _⟩ (fun k o hk _ => by rw [grow_old w os k (Array.getElem?_eq_some_iff.1 hk).1]; exact hk), fun b l hb => ?_, fun i e he hv => ?_, h.nodup, fun i e he => tail_heap (fun b hb => grow_old w os b hb) (h.tails i e he), h.apart⟩
 ·rw [grow_old w os b (h.lt hb)]; exact h.imm b l hb
 ·obtain ⟨h1, h2, t, h3⟩ := h.own i e he hv
  exact ⟨h1, h2, t, by rw [grow_old w os _ (Array.getElem?_eq_some_iff.1 h3).1]; exact h3⟩
theorem S.aheadN (h : S W0 m w L TL) (n : Nat) : S W0 m (Go.Sort.ahead w n) L TL :=
 ⟨⟨⟨⟨h.below.os, h.below.tape, h.below.output, h.below.size, h.below.block⟩, Nat.le_trans h.below.drawn (Nat.le_add_right _ _)⟩, h.below.kept⟩, h.imm, h.own, h.nodup, fun i e he => by
  have := h.tails i e he
  revert this
  cases e with | mk s v => cases v <;> intro h <;> exact h, h.apart⟩
theorem grown_of_bel {w w' : World} (h : Bel w.heap.size w w') : ∃ q os', w' = grow (w.drewN q) os' := by
 refine ⟨w'.drawn - w.drawn, w'.heap.extract w.heap.size w'.heap.size, ?_⟩
 have hd := h.drawn
 have hs := h.size
 have hh : w'.heap = w.heap ++ w'.heap.extract w.heap.size w'.heap.size := by
  apply Array.ext_getElem?
  intro i
  by_cases hi : i < w.heap.size
  ·rw [Array.getElem?_append_left hi]; exact h.block i hi
  ·rw [Array.getElem?_append_right (by omega), Array.getElem?_extract]
   by_cases hi' : i < w'.heap.size
   ·rw [if_pos (by omega)]; congr 1; omega
   ·rw [if_neg (by omega), Array.getElem?_eq_none (by omega)]
 have h1 := h.os
 have h2 := h.tape
 have h3 := h.output
 cases w; cases w'
 simp only [grow, World.drewN] at *
 subst h1; subst h2; subst h3
 simp only [World.mk.injEq, true_and, and_true]
 exact ⟨hh, by omega⟩
end
abbrev El {α : Type} (k : Kd α) (m : M) (xs : List α) : Type := {p : List Value × α // k.R m p.1 p.2 ∧ p.2 ∈ xs}
def Good {α : Type} (cmp : α → α → Option Int) (xs : List α) : Prop :=
 (∀ x ∈ xs, ∀ y ∈ xs, ∃ c, cmp x y = some c ∧ inR .i64 c) ∧ (∀ x ∈ xs, ¬ (cmp x x).getD 0 < 0) ∧
 (∀ x ∈ xs, ∀ y ∈ xs, ∀ z ∈ xs, (cmp x y).getD 0 < 0 → (cmp y z).getD 0 < 0 → (cmp x z).getD 0 < 0) ∧
 (∀ x ∈ xs, ∀ y ∈ xs, ∀ z ∈ xs, ¬ (cmp x y).getD 0 < 0 → ¬ (cmp y z).getD 0 < 0 → ¬ (cmp x z).getD 0 < 0) ∧
 (∀ x ∈ xs, ∀ y ∈ xs, ¬ (cmp x y).getD 0 < 0 → ¬ (cmp y x).getD 0 < 0 → x = y)
noncomputable section
open Classical in
def sortM {α : Type} (cmp : α → α → Option Int) (xs : List α) : Option (List α) := if Good cmp xs then some ((xs.attach.mergeSort fun x y => !decide ((cmp y.1 x.1).getD 0 < 0)).map (·.1)) else none
end
theorem sortM_some {α : Type} {cmp : α → α → Option Int} {xs r : List α} (h : sortM cmp xs = some r) : Good cmp xs ∧ r.Perm xs ∧ r.Pairwise (fun x y => ¬ (cmp y x).getD 0 < 0) := by
 unfold sortM at h
 split at h
 ·rename_i hg
  injection h with h
  subst h
  refine ⟨hg, ?_, ?_⟩
  ·have := (List.mergeSort_perm xs.attach fun x y => !decide ((cmp y.1 x.1).getD 0 < 0)).map (·.1)
   have e : xs.attach.map (fun x => x.val) = xs := by simp
   rwa [e] at this
  ·rw [List.pairwise_map]
   have h1 := List.pairwise_mergeSort (le := fun (x y : {x // x ∈ xs}) => !decide ((cmp y.1 x.1).getD 0 < 0)) (fun a b c hab hbc => by
    simp only [Bool.not_eq_true', decide_eq_false_iff_not] at *
    exact hg.2.2.2.1 c.1 c.2 b.1 b.2 a.1 a.2 hbc hab) (fun a b => by
    simp only [Bool.or_eq_true, Bool.not_eq_true', decide_eq_false_iff_not]
    by_cases h : (cmp b.1 a.1).getD 0 < 0
    ·right; intro h'
     exact hg.2.1 a.1 a.2 (hg.2.2.1 a.1 a.2 b.1 b.2 a.1 a.2 h' h)
    ·left; exact h) xs.attach
   exact h1.imp fun h => by simpa using h
 ·cases h
section
variable {P : Program} {W0 : Bse} {m : M} {L : List (Nat × List Value)} {TL : List (Nat × Value)} {w : World} {α : Type} {k : Kd α} {b : Nat} {cs : List Value} {xs : List α}
theorem exists_els (h : Rl k m cs xs) : ∃ d : List (El k m xs), d.map (fun a => a.1.2) = xs ∧ (d.flatMap fun a => a.1.1) = cs := by
 have gen : ∀ (ys : List α) (cs : List Value), (∀ y ∈ ys, y ∈ xs) → Rl k m cs ys → ∃ d : List (El k m xs), d.map (fun a => a.1.2) = ys ∧ (d.flatMap fun a => a.1.1) = cs := by
  intro ys
  induction ys with
  | nil => intro cs _ h; exact ⟨[], rfl, by have := h.1; simp at this; simp [this]⟩
  | cons y r ih =>
   intro cs hm h
   have h0 := h.2 0 (by simp)
   simp only [Nat.zero_mul, List.drop_zero, List.getElem_cons_zero] at h0
   have h1 := h.drop 1
   simp only [Nat.one_mul, List.drop_succ_cons, List.drop_zero] at h1
   obtain ⟨d, hd1, hd2⟩ := ih _ (fun z hz => hm z (by simp [hz])) h1
   exact ⟨⟨(cs.take k.sz, y), h0, hm y (by simp)⟩ :: d, by simp [hd1], by simp [hd2]⟩
 exact gen xs cs (fun _ h => h) h
theorem flat_els (d : Array (El k m xs)) [Inhabited (El k m xs)] : (flatK (fun a : El k m xs => a.1.1) k.sz d).toList = d.toList.flatMap fun a => a.1.1 := by
 have hp := k.pos
 have hlen : (d.toList.flatMap fun a => a.1.1).length = d.size * k.sz := by
  have : ∀ l : List (El k m xs), (l.flatMap fun a => a.1.1).length = l.length * k.sz := by
   intro l
   induction l with
   | nil => simp
   | cons a r ih => rw [List.flatMap_cons, List.length_append, ih, k.len a.2.1, List.length_cons, Nat.add_mul]; omega
  rw [this]; simp
 have key : ∀ (l : List (El k m xs)) (t : Nat), t < l.length * k.sz → (l.flatMap fun a => a.1.1)[t]? = (l[t / k.sz]?).bind fun a => a.1.1[t % k.sz]? := by
  intro l
  induction l with
  | nil => intro t h; simp at h
  | cons a r ih =>
   intro t ht
   have hl := k.len a.2.1
   rw [List.flatMap_cons]
   by_cases h : t < k.sz
   ·rw [List.getElem?_append_left (by omega), Nat.div_eq_of_lt h, Nat.mod_eq_of_lt h]; rfl
   ·rw [List.getElem?_append_right (by omega), hl, ih _ (by simp [Nat.add_mul] at ht; omega)]
    have e1 : t / k.sz = (t - k.sz) / k.sz + 1 := by rw [← Nat.add_div_right _ hp]; congr 1; omega
    have e2 : t % k.sz = (t - k.sz) % k.sz := by rw [← Nat.mod_eq_sub_mod (by omega)]
    rw [e1, e2, List.getElem?_cons_succ]
 apply List.ext_getElem
 ·rw [hlen]; simp
 intro t h1 h2
 have ht : t < d.size * k.sz := by simpa using h1
 have hq : t / k.sz < d.size := by rw [Nat.div_lt_iff_lt_mul hp]; exact ht
 have h3 := key d.toList t (by simpa using ht)
 rw [List.getElem?_eq_getElem h2] at h3
 have hr : t % k.sz < d[t / k.sz].1.1.length := by rw [k.len d[t / k.sz].2.1]; exact Nat.mod_lt _ hp
 have h4 : (d.toList[t / k.sz]?) = some d[t / k.sz] := by simp [hq]
 rw [h4] at h3
 simp only [Option.bind_some] at h3
 rw [List.getElem?_eq_getElem hr] at h3
 injection h3 with h3
 rw [h3]
 simp only [Array.getElem_toList]
 simp only [flatK, Array.getElem_map, Array.getElem_range]
 rw [getElem!_pos d (t / k.sz) hq]
 exact getElem!_pos (d[t / k.sz].1.1) (t % k.sz) hr
theorem putRow_eq {A : Type} [Inhabited A] (enc : A → List Value) (sz : Nat) (w : World) (b : Nat) (cs : List Value) (t : TypeId) (d : Array A) (hb : w.heap[b]? = some (.cells cs.toArray t (0, 0))) (hl : d.size * sz ≤ cs.length) :
  putRowK enc sz w b 0 d = w.setRow b ((flatK enc sz d).toList ++ cs.drop (d.size * sz)).toArray := by
 have hlt := (Array.getElem?_eq_some_iff.1 hb).1
 have hv := (Array.getElem?_eq_some_iff.1 hb).2
 unfold putRowK Go.Sort.putRow mapBlock World.setRow
 congr 1
 apply Array.ext_getElem?
 intro i
 rw [Array.getElem?_modify, Array.getElem?_modify]
 by_cases hi : b = i
 ·subst hi
  simp only [if_true, hb, Option.map_some, onCells]
  congr 2
  apply Array.ext
  ·simp [putCells]; omega
  ·intro j h1 h2
   simp only [putCells, Array.getElem_mapIdx]
   have hj : j < cs.length := by simpa [putCells] using h1
   by_cases hjd : j < d.size * sz
   ·have hfl : j < (flatK enc sz d).size := by simpa using hjd
    have hc1 : 0 ≤ j ∧ j < 0 + (flatK enc sz d).size := ⟨Nat.zero_le _, by simpa using hjd⟩
    rw [if_pos hc1]
    simp only [Nat.sub_zero, id_eq, List.getElem_toArray]
    rw [List.getElem_append_left (by simpa using hjd), getElem!_pos _ j hfl]
    simp
   ·have hc1 : ¬ (0 ≤ j ∧ j < 0 + (flatK enc sz d).size) := by simp; omega
    rw [if_neg hc1]
    simp only [List.getElem_toArray]
    rw [List.getElem_append_right (by simp; omega), List.getElem_drop]
    congr 1; simp; omega
 ·simp [hi]
end
end Go.Proofs.YthbonoagbeilkaaGreat.Hay
namespace Go.Proofs.YthbonoagbeilkaaGreat.Hay

def m0 (w : World) : M := fun b => match w.heap[b]? with | some (.cells c _ _) => some c.toList | _ => none
theorem S_start (w : World) : S ⟨w, fun _ => none⟩ (m0 w) w [] [] := by
 refine ⟨⟨Bel.refl _ _, fun k o h => by cases h⟩, fun b l hb => ?_, fun i e he => by simp at he, fun i j e e' he => by simp at he, fun i e he => by simp at he, fun i j e e' he => by simp at he⟩
 unfold m0 at hb
 split at hb
 ·rename_i c t fr hc
  injection hb with hb
  exact ⟨c, t, fr, [], hc, by simp [hb]⟩
 ·cases hb
structure Bulk (H : Type) where
 b : DataW H → Nat
 ba : List (DataW H) → Nat
 str : ∀ s, b (.lit (.string s)) = s.length + 1
 one : ∀ d, 1 ≤ b d
 slice : ∀ e s, b (.slice e s) = ba e + ba s + 1
 agg : ∀ l, b (.agg l) = ba l + 1
 nil : ba [] = 0
 cons : ∀ d r, ba (d :: r) = b d + ba r
def Rd (P : Program) (t : TypeId) {α : Type} (k : Kd α) (sz : α → Nat) : Prop :=
 ∀ {H : Type} (enc : TypeId × Value → H) (B : Bulk H) (w : World) (fuel : Nat) (cs : List Value) (d : DataW H) (ps : List MemPlace), DataW.trod enc P w 0 (fun _ => true) true fuel t cs = some (d, ps) → B.b d ≤ 1099511627776 → ∃ x, k.R (m0 w) cs x ∧ sz x ≤ B.b d
section
variable {P : Program} {t e : TypeId} {α β : Type} {k : Kd α} {sz : α → Nat}
theorem Rd_int {kk : IntKind} (hu : P.underlying t = some (.int kk)) : Rd P t (kInt kk) (fun _ => 1) := by
 intro H enc B w fuel cs d ps h hb
 cases fuel with
 | zero => simp [DataW.trod] at h
 | succ fuel =>
  unfold DataW.trod at h
  rw [hu] at h
  match cs, h with
  | [.int k' n], h =>
   simp only at h
   split at h
   ·rename_i hk
    obtain ⟨rfl, hwf⟩ := hk
    injection h with h; injection h with h1 h2
    refine ⟨n, ⟨rfl, ?_⟩, B.one _⟩
    rw [inR_bd]
    simpa [Lit.wf] using hwf
   ·cases h
theorem mapM_some_get {α β : Type} (f : α → Option β) : ∀ (l : List α) (r : List β), l.mapM f = some r → l.length = r.length ∧ ∀ i (h : i < l.length) (h' : i < r.length), f l[i] = some r[i]
 | [], r, h => by simp at h; subst h; exact ⟨rfl, fun i h => by simp at h⟩
 | a :: l, r, h => by
  simp only [List.mapM_cons, Option.bind_eq_bind, Option.pure_def] at h
  cases hx : f a with
  | none => simp [hx] at h
  | some y =>
   cases hr : l.mapM f with
   | none => simp [hx, hr] at h
   | some s =>
    simp [hx, hr] at h
    subst h
    obtain ⟨h1, h2⟩ := mapM_some_get f l s hr
    refine ⟨by simp [h1], fun i hi hi' => ?_⟩
    cases i with
    | zero => simpa using hx
    | succ i => simpa using h2 i (by simpa using hi) (by simpa using hi')
theorem addb (a : Addr) (i : Nat) : (a.add i).block = a.block := by
 unfold Addr.add; split <;> rfl
theorem addo (a : Addr) (i : Nat) : (a.add i).off = a.off + i := by
 unfold Addr.add; split <;> simp_all
theorem cells_row {w : World} {a : Addr} {n : Nat} {cs : List Value} (h : w.cells? 0 a n = some cs) (hn : 0 < n) : a.spot = none ∧ (m0 w).row a.block a.off n = cs := by
 unfold World.cells? at h
 rw [if_pos (Nat.zero_le _)] at h
 obtain ⟨h1, h2⟩ := mapM_some_get _ _ _ h
 simp only [List.length_range] at h1
 have h3 := h2 0 (by simpa using hn) (by omega)
 simp only [List.getElem_range] at h3
 obtain ⟨b, o, sp⟩ := a
 simp only [show (⟨b, o, sp⟩ : Addr).add 0 = ⟨b, o, sp⟩ from rfl, World.cell?] at h3
 cases hb : w.heap[b]? with
 | none => rw [hb] at h3; simp at h3
 | some ob =>
  rw [hb] at h3
  cases ob <;> try (simp at h3; done)
  rename_i c t fr
  simp only at h3
  have hsp : sp = none := by
   cases sp with
   | none => rfl
   | some s => simp at h3
  refine ⟨hsp, ?_⟩
  subst hsp
  have hm : m0 w b = some c.toList := by simp [m0, hb]
  unfold M.row
  rw [hm]
  apply List.ext_getElem?
  intro j
  rw [List.getElem?_take, List.getElem?_drop]
  by_cases hj : j < n
  ·have h4 := h2 j (by simpa using hj) (by omega)
   simp only [List.getElem_range, add_eq, World.cell?, hb] at h4
   rw [if_pos hj, List.getElem?_eq_getElem (show j < cs.length by omega), ← h4]
   simp
  ·rw [if_neg hj, List.getElem?_eq_none (by omega)]
theorem Rd_slice (hu : P.underlying t = some (.slice e)) (he : P.cellsOf e = k.sz) (hr : Rd P e k sz) : Rd P t (kSl k) (fun xs => (xs.map sz).sum + 1) := by
 intro H enc B w fuel cs d ps h hb
 have hp := k.pos
 rcases Go.Deep.open_slice hu h with ⟨rfl, hx⟩ | ⟨a, len, cap, mm, n, D, Pl, rfl, _, hl, hm, hmm, hx, hall⟩
 ·injection hx with h1 h2; subst h1
  exact ⟨[], ⟨none, 0, 0, rfl, rfl, Nat.le_refl _, by simp, rfl⟩, by simpa using B.one _⟩
 ·injection hx with h1 h2; subst h1
  simp only [if_true] at hmm
  subst hmm
  rw [B.slice] at hb
  have sums : ∀ (q : Nat) (o : Nat), (∀ j, j < q → B.b (D (o + j)) ≤ 1099511627776) → o + q ≤ mm → ∃ xs : List α, xs.length = q ∧ (∀ j (hj : j < xs.length), k.R (m0 w) ((m0 w).row a.block (a.off + (o + j) * k.sz) k.sz) xs[j]) ∧ (xs.map sz).sum ≤ B.ba ((List.range q).map fun j => D (o + j)) := by
   intro q
   induction q with
   | zero => intro o _ _; exact ⟨[], rfl, fun j hj => by simp at hj, by simp⟩
   | succ q ih =>
    intro o hbd hoq
    obtain ⟨xs, hx1, hx2, hx3⟩ := ih (o + 1) (fun j hj => by have := hbd (j + 1) (by omega); rwa [show o + (j + 1) = o + 1 + j by omega] at this) (by omega)
    obtain ⟨cs', hc1, hc2⟩ := hall o (by omega)
    rw [he] at hc1
    obtain ⟨_, hrow⟩ := cells_row hc1 hp
    obtain ⟨x, hxR, hxs⟩ := hr enc B w n cs' _ _ hc2 (by have := hbd 0 (by omega); simpa using this)
    refine ⟨x :: xs, by simp [hx1], fun j hj => ?_, ?_⟩
    ·cases j with
     | zero =>
      simp only [List.getElem_cons_zero, Nat.add_zero]
      rw [addb, addo] at hrow
      rw [hrow]; exact hxR
     | succ j =>
      have := hx2 j (by simpa using hj)
      simp only [List.getElem_cons_succ]
      rw [show o + (j + 1) = o + 1 + j by omega]
      exact this
    ·simp only [List.range_succ_eq_map, List.map_cons, B.cons, List.map_map, List.sum_cons, Nat.add_zero]
     have e1 : (List.range q).map ((fun j => D (o + j)) ∘ Nat.succ) = (List.range q).map fun j => D (o + 1 + j) := List.map_congr_left fun j _ => by simp only [Function.comp]; congr 1; omega
     rw [e1]
     omega
  have bound : ∀ (q : Nat) (f : Nat → DataW H) (j : Nat), j < q → B.b (f j) ≤ B.ba ((List.range q).map f) := by
   intro q
   induction q with
   | zero => intro f j hj; omega
   | succ q ih =>
    intro f j hj
    rw [List.range_succ_eq_map, List.map_cons, B.cons, List.map_map]
    cases j with
    | zero => omega
    | succ j => have := ih (f ∘ Nat.succ) j (by omega); simp only [Function.comp] at this; have h9 : B.b (f (j + 1)) ≤ B.ba (List.map (f ∘ Nat.succ) (List.range q)) := this; omega
  have hbd : ∀ j, j < len → B.b (D (0 + j)) ≤ 1099511627776 := fun j hj => by
   have := bound len D j hj
   rw [Nat.zero_add]
   have h0 : B.ba ((List.range len).map D) ≤ 1099511627776 := by omega
   omega
  obtain ⟨xs, hx1, hx2, hx3⟩ := sums len 0 hbd (by omega)
  have hlen : xs.length ≤ B.ba ((List.range len).map D) := by
   have : ∀ (q : Nat) (f : Nat → DataW H), q ≤ B.ba ((List.range q).map f) := by
    intro q
    induction q with
    | zero => intro f; omega
    | succ q ih =>
     intro f
     rw [List.range_succ_eq_map, List.map_cons, B.cons, List.map_map]
     have := ih (f ∘ Nat.succ)
     have h1 := B.one (f 0)
     omega
   rw [hx1]; exact this len D
  refine ⟨xs, ⟨some a, len, mm, rfl, hx1.symm, hl, by unfold maxSz; omega, fun hc => ?_, fun j hj => ?_⟩, ?_⟩
  ·obtain ⟨cs', hc1, _⟩ := hall 0 hc
   rw [he] at hc1
   have := (cells_row hc1 hp).1
   have h0 : a.add (0 * k.sz) = a := by unfold Addr.add; rw [if_pos (by simp)]
   rwa [h0] at this
  ·have := hx2 j hj
   rwa [Nat.zero_add] at this
  ·rw [B.slice]
   have e1 : (List.range len).map (fun j => D (0 + j)) = (List.range len).map D := List.map_congr_left fun j _ => by rw [Nat.zero_add]
   rw [e1] at hx3
   show (xs.map sz).sum + 1 ≤ _
   omega
end
end Go.Proofs.YthbonoagbeilkaaGreat.Hay
namespace Go.Proofs.YthbonoagbeilkaaGreat.Hay
open Go.RowKit

def Bse.put (W0 : Bse) (b : Nat) (o : Obj) : Bse := { W0 with keep := fun k => if k = b then some o else W0.keep k }
section
variable {W0 : Bse} {m : M} {w : World} {L : List (Nat × List Value)} {TL : List (Nat × Value)}
theorem put_size (w : World) (b : Nat) (o : Obj) : (w.putObj b o).heap.size = w.heap.size := by simp [World.putObj]
theorem tail_put {B sz b : Nat} {v : Value} {o o' : Obj} (hb : w.heap[b]? = some o) (ho : o.isCells = false) (h : Tail B m w sz v) : Tail B m (w.putObj b o') sz v := by
 cases v <;> try exact h
 rename_i a len cap
 cases a with
 | none => trivial
 | some ad =>
  obtain ⟨hlt, h⟩ := h
  refine ⟨by rw [put_size]; exact hlt, ?_⟩
  rcases h with h | ⟨h0, h1, l, c, t, h2, h3, h4, h5⟩
  ·exact .inl h
  ·refine .inr ⟨h0, h1, l, c, t, h2, h3, ?_, h5⟩
   rw [World.putObj_heap_other]
   ·exact h4
   ·intro e; rw [e, hb] at h4; injection h4 with h4; subst h4; cases ho
theorem S.putK (h : S W0 m w L TL) {b : Nat} {o o' : Obj} (hb : w.heap[b]? = some o) (ho : o.isCells = false) (ho' : o'.isCells = false) (hB : W0.heap.size ≤ b) : S (W0.put b o') m (w.putObj b o') L TL := by
 have hlt := (Array.getElem?_eq_some_iff.1 hb).1
 have hne : ∀ {k : Nat} {c : Array Value} {t : TypeId} {fr : Nat × Nat}, w.heap[k]? = some (.cells c t fr) → (w.putObj b o').heap[k]? = some (.cells c t fr) := fun {k c t fr} hk => by
  rw [World.putObj_heap_other]
  ·exact hk
  ·intro e; subst e; rw [hb] at hk; injection hk with hk; subst hk; cases ho
 refine ⟨⟨⟨⟨h.below.os, h.below.tape, h.below.output, by rw [put_size]; exact h.below.size, fun k hk => ?_⟩, h.below.drawn⟩, fun k x hx => ?_⟩, fun c l hc => ?_, fun i e he hv => ?_, h.nodup, fun i e he => tail_put hb ho (h.tails i e he), h.apart⟩
 ·have hk' : k < W0.heap.size := hk
  rw [World.putObj_heap_other (by omega)]; exact h.below.block k hk
 ·unfold Bse.put at hx
  simp only at hx
  split at hx
  ·rename_i e; subst e; injection hx with hx; subst hx
   exact ⟨World.putObj_heap_same hlt, ho'⟩
  ·rename_i e
   obtain ⟨h1, h2⟩ := h.below.kept k x hx
   exact ⟨by rw [World.putObj_heap_other e]; exact h1, h2⟩
 ·obtain ⟨c', t, fr, r, h1, h2⟩ := h.imm c l hc
  exact ⟨c', t, fr, r, hne h1, h2⟩
 ·obtain ⟨h1, h2, t, h3⟩ := h.own i e he hv
  exact ⟨h1, h2, t, hne h3⟩
theorem S.newK (h : S W0 m w L TL) {o : Obj} (ho : o.isCells = false) : S (W0.put w.heap.size o) m (w.alloc o) L TL := by
 have hB : W0.heap.size ≤ w.heap.size := h.below.size
 refine ⟨⟨(h.below.alloc hB o).toBel, fun k x hx => ?_⟩, fun c l hc => ?_, fun i e he hv => ?_, h.nodup, fun i e he => tail_heap (alloc_old w _) (h.tails i e he), h.apart⟩
 ·unfold Bse.put at hx
  simp only at hx
  split at hx
  ·rename_i e; subst e; injection hx with hx; subst hx
   exact ⟨alloc_new w _, ho⟩
  ·obtain ⟨h1, h2⟩ := h.below.kept k x hx
   exact ⟨by rw [alloc_old w o k (Array.getElem?_eq_some_iff.1 h1).1]; exact h1, h2⟩
 ·rw [alloc_old w _ c (h.lt hc)]; exact h.imm c l hc
 ·obtain ⟨h1, h2, t, h3⟩ := h.own i e he hv
  exact ⟨h1, h2, t, by rw [alloc_old w _ _ (Array.getElem?_eq_some_iff.1 h3).1]; exact h3⟩
theorem S.keepNone (h : S W0 m w L TL) {k : Nat} (hk : w.heap.size ≤ k) : W0.keep k = none := by
 cases hx : W0.keep k with
 | none => rfl
 | some x => have := (Array.getElem?_eq_some_iff.1 (h.below.kept k x hx).1).1; omega
theorem S.unK {b : Nat} {o : Obj} (h : S (W0.put b o) m w L TL) (hn : W0.keep b = none) : S W0 m w L TL :=
 ⟨⟨h.below.toBel, fun k x hx => h.below.kept k x (by
  unfold Bse.put; simp only
  rw [if_neg (fun e => by subst e; rw [hn] at hx; cases hx)]; exact hx)⟩, h.imm, h.own, h.nodup, h.tails, h.apart⟩
theorem Bse.put_put (W0 : Bse) (b : Nat) (o o' : Obj) : (W0.put b o).put b o' = W0.put b o' := by
 unfold Bse.put
 simp only [Bse.mk.injEq, true_and]
 funext k
 by_cases e : k = b <;> simp [e]
theorem Bse.put_same (W0 : Bse) (b : Nat) (o : Obj) : (W0.put b o).keep b = some o := by simp [Bse.put]
theorem Bse.put_other (W0 : Bse) {b k : Nat} (o : Obj) (h : k ≠ b) : (W0.put b o).keep k = W0.keep k := by simp [Bse.put, h]
end
def foldY {σ α : Type} (step : σ → α → Option (σ × Bool)) : σ → List α → Option (σ × Bool)
 | s, [] => some (s, true)
 | s, x :: xs => (step s x).bind fun r => if r.2 then foldY step r.1 xs else some (r.1, false)
abbrev Mem := List (Nat × List Value)
abbrev Tls := List (Nat × Value)
def YieldC {σ α : Type} (P : Program) (Rv : M → List Value → α → Prop) (B : σ → Bse) (y : Value) (I : M → σ → Mem → Tls → Prop) (step : σ → α → Option (σ × Bool)) : Prop :=
 ∀ (m : M) (w : World) (L : Mem) (TL : Tls) (s : σ) (Ls : Mem) (TLs : Tls) (vs : List Value) (x : α) (s' : σ) (b : Bool), I m s Ls TLs → S (B s) m w (Ls ++ L) (TLs ++ TL) → Rv m vs x → step s x = some (s', b) →
  CallV P y vs w (fun r w' => r = .bool b ∧ ∃ m' Ls' TLs', M.le m m' ∧ I m' s' Ls' TLs' ∧ S (B s') m' w' (Ls' ++ L) (TLs' ++ TL))
def IterC {α : Type} (P : Program) (Rv : M → List Value → α → Prop) (gf : FuncId) (lb : Array Value) (mi : M) (xs : List α) : Prop :=
 ∀ (σ : Type) (I : M → σ → Mem → Tls → Prop) (step : σ → α → Option (σ × Bool)) (B : σ → Bse) (y : Value) (m : M) (w : World) (L : Mem) (TL : Tls) (s : σ) (Ls : Mem) (TLs : Tls) (r : σ × Bool),
  (∀ m m' s a b, M.le m m' → I m s a b → I m' s a b) → M.le mi m → YieldC P Rv B y I step → I m s Ls TLs → S (B s) m w (Ls ++ L) (TLs ++ TL) → foldY step s xs = some r →
  Calls P gf (#[y] ++ lb) w (Ret fun _ w' => ∃ m' Ls' TLs', M.le m m' ∧ I m' r.1 Ls' TLs' ∧ S (B r.1) m' w' (Ls' ++ L) (TLs' ++ TL))
theorem env_round {δ : List Nat} {n : Nat} {a : Act} {l : List (Nat × Value)} (hE : EnvD δ n a l) : ∀ (ps : List Tmp) (vs : List Value) (t : Array Value) (l : List (Nat × Value)), ps.length = vs.length → (∀ p ∈ ps, p < n) → EnvD [] n { tmps := t, defers := [] } l →
  EnvD [] n { tmps := (ps.zip vs).foldl (fun t (p, v) => t.setIfInBounds p v) t, defers := [] } ((ps.zip vs).reverse ++ l)
 | [], [], t, l, _, _, h => h
 | [], _ :: _, _, _, h, _, _ => by simp at h
 | _ :: _, [], _, _, h, _, _ => by simp at h
 | p :: ps, v :: vs, t, l, hl, hp, h => by
  have h1 : EnvD [] n { tmps := t.setIfInBounds p v, defers := [] } ((p, v) :: l) := by
   have := h.put (d := p) (Nat.ble_eq_true_of_le (hp p (by simp))) v
   exact this
  have := env_round hE ps vs (t.setIfInBounds p v) ((p, v) :: l) (by simpa using hl) (fun q hq => hp q (by simp [hq])) h1
  simpa using this
section
variable {δ : List Nat} {P : Program} {W0 : Bse} {m : M} {L : Mem} {TL : Tls} {n : Nat} {a : Act} {l : List (Nat × Value)} {w : World} {N Rt : Act → World → Prop} {X : List (Nat × (Act → World → Prop))}
abbrev RPost {σ : Type} (W2 : Bse) (I : M → σ → Mem → Tls → Prop) (L' : Mem) (TL' : Tls) (m : M) (s' : σ) (w' : World) : Prop := ∃ m' Ls' TLs', M.le m m' ∧ I m' s' Ls' TLs' ∧ S W2 m' w' (Ls' ++ L') (TLs' ++ TL')
theorem krange {σ α : Type} {Rv : M → List Value → α → Prop} {g : Operand} {ps : Array Tmp} {assign body : Code} {gf : FuncId} {lb : Array Value} {mi : M} {xs : List α} (step : σ → α → Option (σ × Bool)) (jc : σ → Code) (ids : List Nat)
  (I : M → σ → Mem → Tls → Prop) {s0 : σ} {Ls : Mem} {TLs : Tls} {sf : σ} {bf : Bool}
  (hE : EnvD δ n a l) (hS : S W0 m w (Ls ++ L) (TLs ++ TL)) (hg : evl l g = some (.func (.func gf) #[] lb)) (hcall : ∀ vs w, (callFunc gf vs).run P w = .ok (.enter gf vs) w) (hit : IterC P Rv gf lb mi xs) (hmi : M.le mi m)
  (hps : ∀ p ∈ ps.toList, p < n) (hRv : ∀ m vs x, Rv m vs x → vs.length = ps.size)
  (mono : ∀ m m' s a b, M.le m m' → I m s a b → I m' s a b) (h0 : I m s0 Ls TLs) (hfold : foldY step s0 xs = some (sf, bf))
  (round : ∀ (lid : Nat) (W1 W2 : Bse) (m : M) (w : World) (L' : Mem) (TL' : Tls) (s : σ) (Ls : Mem) (TLs : Tls) (vs : List Value) (x : α) (s' : σ) (b : Bool) (a0 : Act) (orr ob : Obj), I m s Ls TLs → S W1 m w (Ls ++ L') (TLs ++ TL') → Rv m vs x → step s x = some (s', b) →
   EnvD [] n a0 ((ps.toList.zip vs).reverse ++ l) → (∀ m w L TL, S W1 m w L TL → w.heap[lid]? = some orr ∧ S W2 m (w.putObj lid ob) L TL) →
   K (some lid) P assign (fun a1 w1 => w1.heap[lid]? = some orr ∧ K (some lid) P body (fun _ w' => b = true ∧ RPost W2 I L' TL' m s' w') (ids.map fun id => (id, fun _ w' => b = false ∧ jc s' = .exit id ∧ RPost W2 I L' TL' m s' w')) (fun _ w' => b = false ∧ jc s' = .ret ∧ RPost W2 I L' TL' m s' w') a1 (w1.putObj lid ob)) [] (fun _ _ => False) a0 w)
  (done : ∀ (D : Nat) (m' : M) (w' : World) (a' : Act) (Ls' : Mem) (TLs' : Tls), M.le m m' → EnvD (D :: δ) n a' l → I m' sf Ls' TLs' → S (W0.put D (.deferred (some []))) m' w' (Ls' ++ L) (TLs' ++ TL) → W0.keep D = none → W0.heap.size ≤ D →
   if bf = true then N a' w' else K none P (jc sf) N X Rt a' w') :
  K none P (.rangeFunc g ps assign body) N X Rt a w := by
 refine wpIn_rangeFunc ?_
 intro fn _
 obtain ⟨D, hD⟩ : ∃ D, D = w.heap.size := ⟨_, rfl⟩
 obtain ⟨lid, hlid⟩ : ∃ lid, lid = w.heap.size + 1 := ⟨_, rfl⟩
 obtain ⟨rec, hrec⟩ : ∃ rec : LoopState → Option Code → Loop, rec = fun st pe => { state := st, pending := pe, fn, tmps := a.tmps, params := ps, assign, body, defers := D } := ⟨_, rfl⟩
 -- the bases: the mark's block, the loop's record
 obtain ⟨WD, hWD⟩ : ∃ WD : Bse, WD = W0.put D (.deferred (some [])) := ⟨_, rfl⟩
 have hkD : W0.keep D = none := hS.keepNone (by omega)
 have hS1 : S WD m (w.alloc (.deferred (some []))) (Ls ++ L) (TLs ++ TL) := by rw [hWD, hD]; exact hS.newK rfl
 have hkl : WD.keep lid = none := hS1.keepNone (by simp [World.size_alloc]; omega)
 have hS2 : S (WD.put lid (.loop (rec .ready none))) m ((w.alloc (.deferred (some []))).alloc (.loop (rec .ready none))) (Ls ++ L) (TLs ++ TL) := by
  have := hS1.newK (o := .loop (rec .ready none)) rfl
  rwa [show (w.alloc (.deferred (some []))).heap.size = lid by simp [World.size_alloc]; omega] at this
 have hBl : W0.heap.size ≤ lid := by have : W0.heap.size ≤ w.heap.size := hS.below.size; omega
 have hBW : ∀ o, (WD.put lid o).heap.size ≤ lid := fun o => by rw [hWD]; exact hBl
 obtain ⟨wl, hwl⟩ : ∃ wl, wl = (w.alloc (.deferred (some []))).alloc (.loop (rec .ready none)) := ⟨_, rfl⟩
 rw [← hwl] at hS2
 -- the iterator's call
 let B : σ × Option Code → Bse := fun s => WD.put lid (.loop (rec (if s.2.isNone then .ready else .done) s.2))
 let step' : σ × Option Code → α → Option ((σ × Option Code) × Bool) := fun s x => if s.2.isNone then (step s.1 x).map fun r => ((r.1, if r.2 then none else some (jc r.1)), r.2) else none
 have hf' : ∀ (xs : List α) (s : σ) r, foldY step s xs = some r → foldY step' (s, none) xs = some ((r.1, if r.2 then none else some (jc r.1)), r.2) := by
  intro xs
  induction xs with
  | nil => intro s r h; simp only [foldY] at h ⊢; injection h with h; subst h; simp
  | cons x xs ih =>
   intro s r h
   simp only [foldY] at h ⊢
   simp only [step', Option.isNone_none, if_true]
   cases hx : step s x with
   | none => rw [hx] at h; simp at h
   | some q =>
    rw [hx] at h
    obtain ⟨s', b⟩ := q
    simp only [Option.bind_some, Option.map_some] at h ⊢
    cases b with
    | true => simp only [if_true] at h ⊢; exact ih s' r h
    | false => simp only [Bool.false_eq_true, if_false] at h ⊢; injection h with h; subst h; simp
 have hyield : YieldC P Rv B (.func (.yield lid) #[] #[]) (fun m s => I m s.1) step' := by
  intro m1 w1 L1 TL1 s Ls1 TLs1 vs x s' b hI1 hS3 hx hst
  obtain ⟨s, p⟩ := s
  simp only [step'] at hst
  cases p with
  | some c => simp at hst
  | none =>
  simp only [Option.isNone_none, if_true] at hst
  cases hstep : step s x with
  | none => rw [hstep] at hst; simp at hst
  | some q =>
  rw [hstep] at hst
  obtain ⟨s1, b1⟩ := q
  simp only [Option.map_some, Option.some.injEq, Prod.mk.injEq] at hst
  obtain ⟨rfl, rfl⟩ := hst
  intro dst ty pos aft gd xo xso tys ac hxo hxs ro Kk Q hk
  have hl : w1.heap[lid]? = some (.loop (rec .ready none)) := (hS3.below.kept lid _ (Bse.put_same _ _ _)).1
  have hy := run_yield (P := P) (args := vs.toArray) hl (by rw [hrec]; simpa using hRv _ _ _ hx)
  have hrun : (execOp ac.eval ⟨dst, .call ⟨.value xo, xso, tys⟩, ty, pos, aft, gd⟩).run P w1 = .ok (.round lid fn ((ps.zip vs.toArray).foldl (fun tmps (t, a) => tmps.setIfInBounds t a) a.tmps) assign body) w1 := by
   have h2 : (execOp ac.eval ⟨dst, .call ⟨.value xo, xso, tys⟩, ty, pos, aft, gd⟩).run P w1 = (Instr.yield lid vs.toArray).run P w1 := by
    simp [execOp, resolve, hxo, Deferred.ofValue, invoke, hxs]
   rw [h2, hy, hrec]
  refine ⟨fun _ _ => trivial, ?_⟩
  show Oper.uponIn _ _ _ _ _ _ _ ((Oper.semAt ro ac.eval _).run P w1)
  rw [semAt_value hrun (fun d => by simp)]
  refine ⟨fun h => (by cases h), roundIn_of_wpIn trivial ?_⟩
  have htmps : (ps.zip vs.toArray).foldl (fun tmps (t, a) => tmps.setIfInBounds t a) a.tmps = (ps.toList.zip vs).foldl (fun t (p, v) => t.setIfInBounds p v) a.tmps := by
   rw [← Array.foldl_toList, Array.toList_zip]
  rw [htmps]
  have hE0 : EnvD [] n { tmps := a.tmps, defers := [] } l := ⟨rfl, hE.size, hE.at_⟩
  have hEr := env_round hE ps.toList vs a.tmps l (by have := hRv _ _ _ hx; simpa using this.symm) hps hE0
  obtain ⟨bz, hbz⟩ : ∃ bz : Loop, bz = { rec .ready none with state := .busy } := ⟨_, rfl⟩
  have hturn : ∀ m w L TL, S (B (s, none)) m w L TL → w.heap[lid]? = some (.loop (rec .ready none)) ∧ S (WD.put lid (.loop bz)) m (w.putObj lid (.loop bz)) L TL := fun m w L TL h => by
   have := h.putK (o' := .loop bz) (h.below.kept lid _ (Bse.put_same _ _ _)).1 rfl rfl (hBW _)
   rw [Bse.put_put] at this
   exact ⟨(h.below.kept lid _ (Bse.put_same _ _ _)).1, this⟩
  have hr := round lid (B (s, none)) (WD.put lid (.loop bz)) m1 w1 L1 TL1 s Ls1 TLs1 vs x s1 b1 _ (.loop (rec .ready none)) (.loop bz) hI1 hS3 hx hstep hEr hturn
  have hready : rec .ready none = { rec .ready none with state := .ready } := by rw [hrec]
  -- a round's end
  have fin : ∀ (jump : Option Code) (w3 : World), jump.isNone = b1 → (b1 = false → jump = some (jc s1)) → RPost (WD.put lid (.loop bz)) I L1 TL1 m1 s1 w3 → ∃ v w4, (Instr.endRound lid jump).run P w3 = .ok v w4 ∧ Kk (ac.put dst v) w4 := by
   rintro jump w3 hj hj2 ⟨m', Ls', TLs', h1, h2, h3⟩
   have hb3 := (h3.below.kept lid _ (Bse.put_same _ _ _)).1
   refine ⟨_, _, run_endRound jump hb3, hk _ _ ⟨by rw [hj], m', Ls', TLs', h1, h2, ?_⟩⟩
   have h4 := h3.putK (o' := .loop { bz with state := if jump.isNone then .ready else .done, pending := jump }) hb3 rfl rfl (hBW _)
   rw [Bse.put_put] at h4
   have e : (.loop { bz with state := if jump.isNone then .ready else .done, pending := jump } : Obj) = .loop (rec (if (if b1 then (none : Option Code) else some (jc s1)).isNone then .ready else .done) (if b1 then none else some (jc s1))) := by
    rw [hbz, hrec]
    cases b1 with
    | true =>
     have : jump = none := by simpa using hj
     subst this; rfl
    | false =>
     have := hj2 rfl
     subst this; rfl
   revert h4
   rw [e]
   exact fun h4 => h4
  refine wpIn_mono hr fun e a1 w1' q => ?_
  cases e with
  | normal =>
   obtain ⟨hl1, hb1⟩ := q
   refine ⟨_, run_beginRound hl1 (by rw [hrec]), ?_⟩
   rw [← hbz]
   refine wpIn_mono hb1 fun e a2 w2 q2 => ?_
   cases e with
   | normal =>
    obtain ⟨hb, hp⟩ := q2
    exact fin none w2 (by rw [hb]; rfl) (fun h => by rw [hb] at h; cases h) hp
   | ret =>
    obtain ⟨hb, hj, hp⟩ := q2
    exact fin (some .ret) w2 (by rw [hb]; rfl) (fun _ => by rw [hj]) hp
   | exit id =>
    have key : b1 = false ∧ jc s1 = .exit id ∧ RPost (WD.put lid (.loop bz)) I L1 TL1 m1 s1 w2 := by
     simp only [mkQ] at q2
     split at q2
     ·rename_i e he
      have h1 := List.find?_some he
      obtain ⟨id', _, rfl⟩ := List.mem_map.1 (List.mem_of_find?_eq_some he)
      have := Nat.eq_of_beq_eq_true h1
      subst this
      exact q2
     ·exact q2.elim
    obtain ⟨hb, hj, hp⟩ := key
    exact fin (some (.exit id)) w2 (by rw [hb]; rfl) (fun _ => by rw [hj]) hp
   | goto t => exact q2.elim
   | panic ch => exact q2.elim
   | outgrown => exact q2.elim
  | ret => exact q.elim
  | exit id => simp [mkQ] at q
  | goto t => exact q.elim
  | panic ch => exact q.elim
  | outgrown => exact q.elim
 have hc := hit (σ × Option Code) (fun m s => I m s.1) step' B (.func (.yield lid) #[] #[]) m wl L TL (s0, none) Ls TLs _ (fun m m' s a b hm h => mono m m' s.1 a b hm h) hmi hyield h0 hS2 (hf' xs s0 _ hfold)
 refine ⟨lid, [{ target := .collected D, args := #[] }], wl, { target := .fn (.func gf) lb, args := #[.func (.yield lid) #[] #[]] }, wl, gf, #[.func (.yield lid) #[] #[]] ++ lb, wl, ?_, ?_, fun _ _ => trivial, ?_, fun h => (by cases h), ?_⟩
 ·show (Instr.enterLoop fn a.tmps ps assign body none).run P w = _
  rw [run_enterLoop_outer, hwl, hlid, hD, hrec, hD]
 ·simp only [resolve, hE.eval hg]
  simp [go_sem]
 ·simp [invoke, go_sem, hcall]
 ·refine calls_in (hc.mono fun e w' he => ?_)
  cases e with
  | panicked ch => exact he.elim
  | outgrown => exact he.elim
  | returned v =>
   obtain ⟨m', Ls', TLs', h1, h2, h3⟩ := he
   have hb3 := (h3.below.kept lid _ (Bse.put_same _ _ _)).1
   have hst : (rec (if (if bf then (none : Option Code) else some (jc sf)).isNone then LoopState.ready else .done) (if bf then none else some (jc sf))).state ≠ .busy := by
    rw [hrec]; cases bf <;> simp
   have hend := run_endLoop (P := P) hb3 hst
   refine ⟨_, _, hend, ?_⟩
   have h4 := h3.putK (o' := .loop { (rec (if (if bf then (none : Option Code) else some (jc sf)).isNone then LoopState.ready else .done) (if bf then none else some (jc sf))) with state := .exhausted }) hb3 rfl rfl (hBW _)
   rw [Bse.put_put] at h4
   have h5 := h4.unK hkl
   rw [hWD] at h5
   have hE' : EnvD (D :: δ) n { a with defers := [{ target := .collected D, args := #[] }] ++ a.defers } l := ⟨by simp [hE.defers], hE.size, hE.at_⟩
   have hd := done D m' _ _ Ls' TLs' h1 hE' h2 h5 hkD (by have : W0.heap.size ≤ w.heap.size := hS.below.size; omega)
   have hp : (rec (if (if bf then (none : Option Code) else some (jc sf)).isNone then LoopState.ready else .done) (if bf then none else some (jc sf))).pending = if bf then none else some (jc sf) := by rw [hrec]
   clear hend
   generalize (w'.putObj lid (.loop { (rec (if (if bf then (none : Option Code) else some (jc sf)).isNone then LoopState.ready else .done) (if bf then none else some (jc sf))) with state := .exhausted })) = wx at hd ⊢
   rw [hp]
   cases bf with
   | true => simp only [if_true] at hd ⊢; exact hd
   | false => simp only [Bool.false_eq_true, if_false] at hd ⊢; exact hd
end
end Go.Proofs.YthbonoagbeilkaaGreat.Hay
namespace Go.Proofs.YthbonoagbeilkaaGreat.Hay
open Go.RowKit

def Shut : List Nat → World → World → Prop
 | [], w, w' => w' = w
 | D :: δ, w, w' => w.heap[D]? = some (.deferred (some [])) ∧ Shut δ (w.putObj D (.deferred none)) w'
def FinM (P : Program) (fn : Func) (R : Value → World → Prop) (a : Act) (w : World) : Prop :=
 ∃ δ w', a.defers = (δ.map fun D => { target := .collected D, args := #[] }) ∧ Shut δ w w' ∧ Fin P fn R { a with defers := [] } w'
section
variable {P : Program} {fn : Func} {R : Value → World → Prop} {a : Act} {w : World} {δ : List Nat} {n : Nat} {l : List (Nat × Value)} {W0 : Bse} {m : M} {L : Mem} {TL : Tls} {D : Nat}
theorem FinM.nil (hE : Env n a l) (h : Fin P fn R a w) : FinM P fn R a w := by
 refine ⟨[], w, by simp [hE.defers], rfl, ?_⟩
 have : ({ a with defers := [] } : Act) = a := by
  have := hE.defers
  cases a; simp at this; simp [this]
 rw [this]; exact h
theorem FinM.shut (hE : EnvD (D :: δ) n a l) (hS : S (W0.put D (.deferred (some []))) m w L TL) (hk : W0.keep D = none) (hB : W0.heap.size ≤ D)
  (k : ∀ a w, S W0 m w L TL → EnvD δ n a l → FinM P fn R a w) : FinM P fn R a w := by
 have hD := (hS.below.kept D _ (Bse.put_same _ _ _)).1
 have hS3 : S W0 m (w.putObj D (.deferred none)) L TL := by
  have := hS.putK (o' := .deferred none) hD rfl rfl hB
  rw [Bse.put_put] at this
  exact this.unK hk
 obtain ⟨δ', w', h1, h2, h3⟩ := k { a with defers := δ.map fun D => { target := .collected D, args := #[] } } _ hS3 ⟨rfl, hE.size, hE.at_⟩
 refine ⟨D :: δ, w', hE.defers, ⟨hD, ?_⟩, h3⟩
 have : δ' = δ := by
  have h1 : δ.map (fun D => ({ target := .collected D, args := #[] } : Deferred)) = δ'.map fun D => { target := .collected D, args := #[] } := h1
  clear hE k h2 h3
  induction δ generalizing δ' with
  | nil => cases δ' with
   | nil => rfl
   | cons => simp at h1
  | cons x δ ih =>
   cases δ' with
   | nil => simp at h1
   | cons y δ' =>
    simp only [List.map_cons, List.cons.injEq, Deferred.mk.injEq, and_true] at h1
    obtain ⟨h1, h2⟩ := h1
    injection h1 with h1
    rw [h1, ih _ (by assumption) h2]
 rw [← this]; exact h2
theorem kcallM {f : FuncId} {c : Code} {args : List Value} (hf : P.funcs[f]? = some fn) (hb : fn.body = some c) (hn : fn.ntmps = n) (hle : args.length ≤ n)
  (h : ∀ a, Env n a ((List.range args.length).zip args) → K none P c (FinM P fn R) [] (FinM P fn R) a w) :
  Calls P f args.toArray w (Ret R) := by
 refine calls_out (n := 0) (callsIn_of_wp_marks hf hb trivial (wpIn_mono (h _ ?_) fun e a w q => ?_))
 ·exact env_args hn hle
 ·have key : ∀ (δ : List Nat) (w w' : World), Shut δ w w' → Fin P fn R { a with defers := [] } w' → LeavesInM (Fr none) 0 P fn a.tmps (Ret R) (δ.map fun D => { target := .collected D, args := #[] }) .returning w := by
   intro δ
   induction δ with
   | nil =>
    intro w w' h h3
    obtain rfl : w' = w := h
    obtain ⟨vs, h1, _, h2⟩ := h3
    exact ⟨vs, h1, h2⟩
   | cons D δ ih =>
    intro w w' ⟨h, h'⟩ h3
    exact ⟨by simp, .inl ⟨D, _, rfl, run_takeDeferred h, ih _ _ h' h3⟩⟩
  cases e with
  | normal => obtain ⟨δ, w', h1, h2, h3⟩ := q; show LeavesInM _ _ _ _ _ _ a.defers _ _; rw [h1]; exact key δ w w' h2 h3
  | ret => obtain ⟨δ, w', h1, h2, h3⟩ := q; show LeavesInM _ _ _ _ _ _ a.defers _ _; rw [h1]; exact key δ w w' h2 h3
  | exit id => simp [mkQ] at q
  | goto t => exact q.elim
  | panic ch => exact q.elim
  | outgrown => exact q.elim
def ItV {α : Type} (P : Program) (Rv : M → List Value → α → Prop) (m : M) (v : Value) (xs : List α) : Prop :=
 ∃ gf lb, v = .func (.func gf) #[] lb ∧ (∀ vs w, (callFunc gf vs).run P w = .ok (.enter gf vs) w) ∧ IterC P Rv gf lb m xs
theorem ItV.mono {α : Type} {Rv : M → List Value → α → Prop} {m m' : M} {v : Value} {xs : List α} (h : ItV P Rv m v xs) (hm : M.le m m') : ItV P Rv m' v xs := by
 obtain ⟨gf, lb, h1, h2, h3⟩ := h
 exact ⟨gf, lb, h1, h2, fun σ I step B y m w L TL s Ls TLs r mono hle => h3 σ I step B y m w L TL s Ls TLs r mono (hm.trans hle)⟩
def Rv1 {α : Type} (k : Kd α) : M → List Value → α → Prop := fun m vs x => ∃ v, vs = [v] ∧ RV k m v x
def Rv2 {α β : Type} (k : Kd α) (k' : Kd β) : M → List Value → α × β → Prop := fun m vs x => ∃ v v', vs = [v, v'] ∧ RV k m v x.1 ∧ RV k' m v' x.2
end
theorem Rv1_len {α : Type} {k : Kd α} {m : M} {vs : List Value} {x : α} (h : Rv1 k m vs x) : vs.length = 1 := by obtain ⟨_, rfl, _⟩ := h; rfl
theorem Rv2_len {α β : Type} {k : Kd α} {k' : Kd β} {m : M} {vs : List Value} {x : α × β} (h : Rv2 k k' m vs x) : vs.length = 2 := by obtain ⟨_, _, rfl, _⟩ := h; rfl
section
variable {δ : List Nat} {P : Program} {W0 : Bse} {m : M} {L : Mem} {TL : Tls} {n : Nat} {a : Act} {l : List (Nat × Value)} {w : World} {N Rt : Act → World → Prop} {X : List (Nat × (Act → World → Prop))}
theorem krangeV {σ α : Type} {Rv : M → List Value → α → Prop} {g : Operand} {ps : Array Tmp} {assign body : Code} {v : Value} {xs : List α} (step : σ → α → Option (σ × Bool)) (jc : σ → Code) (ids : List Nat)
  (I : M → σ → Mem → Tls → Prop) {s0 : σ} {Ls : Mem} {TLs : Tls} {sf : σ} {bf : Bool}
  (hE : EnvD δ n a l) (hS : S W0 m w (Ls ++ L) (TLs ++ TL)) (hg : evl l g = some v) (hv : ItV P Rv m v xs)
  (hps : ∀ p ∈ ps.toList, p < n) (hRv : ∀ m vs x, Rv m vs x → vs.length = ps.size)
  (mono : ∀ m m' s a b, M.le m m' → I m s a b → I m' s a b) (h0 : I m s0 Ls TLs) (hfold : foldY step s0 xs = some (sf, bf))
  (round : ∀ (lid : Nat) (W1 W2 : Bse) (m : M) (w : World) (L' : Mem) (TL' : Tls) (s : σ) (Ls : Mem) (TLs : Tls) (vs : List Value) (x : α) (s' : σ) (b : Bool) (a0 : Act) (orr ob : Obj), I m s Ls TLs → S W1 m w (Ls ++ L') (TLs ++ TL') → Rv m vs x → step s x = some (s', b) →
   EnvD [] n a0 ((ps.toList.zip vs).reverse ++ l) → (∀ m w L TL, S W1 m w L TL → w.heap[lid]? = some orr ∧ S W2 m (w.putObj lid ob) L TL) →
   K (some lid) P assign (fun a1 w1 => w1.heap[lid]? = some orr ∧ K (some lid) P body (fun _ w' => b = true ∧ RPost W2 I L' TL' m s' w') (ids.map fun id => (id, fun _ w' => b = false ∧ jc s' = .exit id ∧ RPost W2 I L' TL' m s' w')) (fun _ w' => b = false ∧ jc s' = .ret ∧ RPost W2 I L' TL' m s' w') a1 (w1.putObj lid ob)) [] (fun _ _ => False) a0 w)
  (done : ∀ (D : Nat) (m' : M) (w' : World) (a' : Act) (Ls' : Mem) (TLs' : Tls), M.le m m' → EnvD (D :: δ) n a' l → I m' sf Ls' TLs' → S (W0.put D (.deferred (some []))) m' w' (Ls' ++ L) (TLs' ++ TL) → W0.keep D = none → W0.heap.size ≤ D →
   if bf = true then N a' w' else K none P (jc sf) N X Rt a' w') :
  K none P (.rangeFunc g ps assign body) N X Rt a w := by
 obtain ⟨gf, lb, rfl, hcall, hit⟩ := hv
 exact krange step jc ids I hE hS hg hcall hit (M.le.refl m) hps hRv mono h0 hfold round done
end
def valF {σ α : Type} (step : σ → α → Option (σ × Bool)) (xs : List α) (t : Int × σ) : Option ((Int × σ) ⊕ (σ × Bool)) :=
 if decide (t.1 < (xs.length : Int)) then (idx xs t.1).bind fun x => (step t.2 x).bind fun r => if r.2 then some (.inl (IntKind.i64.wrap (t.1 + 1), r.1)) else some (.inr (r.1, false)) else some (.inr (t.2, true))
theorem foldY_loop {σ α : Type} {step : σ → α → Option (σ × Bool)} {xs : List α} {s : σ} {r : σ × Bool} (hl : xs.length ≤ maxSz) (h : foldY step s xs = some r) : loopO (valF step xs) (0, s) = some r := by
 have key : ∀ (ys : List α) (i : Nat) (s : σ), xs.drop i = ys → foldY step s ys = some r → loopO (valF step xs) ((i : Int), s) = some r := by
  intro ys
  induction ys with
  | nil =>
   intro i s hd hf
   simp only [foldY] at hf
   injection hf with hf
   have : xs.length ≤ i := by simpa using hd
   rw [loopO_end (b := r)]
   unfold valF
   rw [if_neg (by simp; omega), hf]
  | cons y ys ih =>
   intro i s hd hf
   simp only [foldY] at hf
   have hlt : i < xs.length := by
    apply Classical.byContradiction; intro hc
    rw [List.drop_eq_nil_of_le (by omega)] at hd; cases hd
   have hy : xs[i]? = some y := by
    have := congrArg (·[0]?) hd
    simpa using this
   have hix : idx xs (i : Int) = some y := by
    have e : xs[i] = y := by simpa [hlt] using hy
    simp [idx, hlt, e]
   have hd' : xs.drop (i + 1) = ys := by
    rw [← List.drop_drop, hd]; rfl
   cases hs : step s y with
   | none => rw [hs] at hf; cases hf
   | some q =>
    rw [hs] at hf
    simp only [Option.bind_some] at hf
    have hw : IntKind.i64.wrap ((i : Int) + 1) = ((i + 1 : Nat) : Int) := by
     rw [show (i : Int) + 1 = ((i + 1 : Nat) : Int) from rfl]
     exact inR_len (n := i + 1) (by omega)
    by_cases hq : q.2 = true
    ·rw [if_pos hq] at hf
     rw [loopO_go (s' := (((i + 1 : Nat) : Int), q.1))]
     ·exact ih (i + 1) _ hd' hf
     ·unfold valF
      rw [if_pos (by simpa using hlt)]
      simp only [hix, Option.bind_some, hs]
      rw [if_pos hq, hw]
    ·rw [if_neg hq] at hf
     injection hf with hf
     refine loopO_end ?_
     unfold valF
     rw [if_pos (by simpa using hlt)]
     simp only [hix, Option.bind_some, hs]
     rw [if_neg hq, hf]
 exact key xs 0 s (by simp) h
end Go.Proofs.YthbonoagbeilkaaGreat.Hay
namespace Go.Proofs.YthbonoagbeilkaaGreat.Hay
open Go.RowKit
theorem R_of_RVsl {α : Type} {k : Kd α} {m : M} {v : Value} {xs : List α} (h : RV (kSl k) m v xs) : (kSl k).R m [v] xs := by
 obtain ⟨cs, hR, rfl⟩ := h
 have h0 := hR
 obtain ⟨a, len, cap, rfl, h⟩ := h0
 exact hR
section
variable {δ : List Nat} {ro : Option Nat} {P : Program} {W0 : Bse} {m : M} {L : List (Nat × List Value)} {TL : List (Nat × Value)} {n : Nat} {a : Act} {l : List (Nat × Value)} {w : World} {ty t t2 e : TypeId} {pos : String} {aft : Array Edge} {g : Option (Nat × Bool)} {x y : Operand} {d : Nat} {α : Type} {k : Kd α}
theorem st_loadSl {i b : Nat} {v : Value} {xx : List α} (hE : EnvD δ n a l) (hS : S W0 m w L TL) (hT : TyOK P t (kSl k)) (hx : evl l x = some (.pointer (some ⟨b, 0, none⟩))) (hL : L[i]? = some (b, [v])) (hv : RV (kSl k) m v xx) :
  Run1 P ⟨some d, .load t x, ty, pos, aft, g⟩ a w v w := by
 have hR := R_of_RVsl hv
 have hA : At w b 0 (([v].drop 0).take (kSl k).sz) := hS.atL hL (by simp [kSl]) (by simp [kSl])
 have e : (([v].drop 0).take (kSl k).sz) = [v] := rfl
 rw [e] at hA
 have : (kSl k).val [v] = v := rfl
 have hr := run_load_val hT hR hA
 rw [this] at hr
 simp [Run1, execOp, Instr.loadAt, hE.eval hx, Instr.sureAddr, hr]
theorem st_storeSl {i b : Nat} {v v0 : Value} {yy : List α} (hE : EnvD δ n a l) (hS : S W0 m w L TL) (hT : TyOK P t (kSl k)) (hx : evl l x = some (.pointer (some ⟨b, 0, none⟩))) (hy : evl l y = some v) (hv : RV (kSl k) m v yy) (hL : L[i]? = some (b, [v0])) :
  Step P ⟨none, .store t x y, ty, pos, aft, g⟩ a w (fun _ w' => S W0 m w' (L.set i (b, [v])) TL) := by
 have hR := R_of_RVsl hv
 obtain ⟨hB, hm, t', ht⟩ := hS.own i _ hL (by simp)
 have hrun := storeCells_run (P := P) [v] b 0 0 [v0] t' w ht (by simp) ((kSl k).one hR)
 have hr : Run0 P ⟨none, .store t x y, ty, pos, aft, g⟩ a w (w.setRow b [v].toArray) := by
  have hsz := hT.size w
  have hc : v.cells = #[v] := by have := k.pos; have := (kSl k).val_cells hR; exact this
  simp only [Run0, execOp, hE.eval hx, hE.eval hy, Instr.storeAt, Instr.sureAddr, Sem.run_bind, Sem.run_pure, Result.andThen_ok, storeVar, hc, hsz]
  have h2 : (storeCells { block := b, off := 0 } [v]).run P w = .ok () (w.setRow b #[v]) := by simpa using hrun
  simp [kSl, h2]
 exact hr.step (hS.setL hL (by simp) _)
theorem r_eqnilF {v : Value} {α : Type} {Rv : M → List Value → α → Prop} {xs : List α} {ps rs : Array TypeId} {vr : Bool} (hE : EnvD δ n a l) (hx : evl l x = some v) (hy : evl l y = some .nilFunc) (hu : P.underlying t = some (.func ps rs vr)) (hv : ItV P Rv m v xs) :
  Run1 P ⟨some d, .binOp .eql t x y t2, ty, pos, aft, g⟩ a w (.bool false) w := by
 obtain ⟨gf, lb, rfl, _⟩ := hv
 have h : ∀ d : Nat, (Op.equalIn (d + 1) t (.func (.func gf) #[] lb) .nilFunc).run P w = .ok false w := fun d => by
  simp [Op.equalIn, run_underlying hu]
 have hb : (binOp .eql t (.func (.func gf) #[] lb) .nilFunc).run P w = .ok (.bool false) w := by
  simp only [binOp]
  simp [Op.equal, Op.maxDepth, h 9999]
 have hg : (eqGuard .eql t x y (.func (.func gf) #[] lb) .nilFunc).run P w = .ok () w := by simp [eqGuard]
 simp only [Run1, execOp, hE.eval hx, hE.eval hy, Sem.run_bind, hg, Result.andThen_ok, hb, Sem.run_pure]
end
end Go.Proofs.YthbonoagbeilkaaGreat.Hay
namespace Go.Proofs.YthbonoagbeilkaaGreat.Hay

inductive Ty where
 | int (k : IntKind)
 | bool
 | str
 | sl (t : Ty)
 | st (i : Nat)
 deriving DecidableEq
structure Sg where
 α : Nat → Type
 k : (i : Nat) → Kd (α i)
def Ty.den (G : Sg) : Ty → Type
 | .int _ => Int
 | .bool => Bool
 | .str => List Int
 | .sl t => List (t.den G)
 | .st i => G.α i
def Ty.kd (G : Sg) : (t : Ty) → Kd (t.den G)
 | .int k => kInt k
 | .bool => kBool
 | .str => kStr
 | .sl t => kSl (t.kd G)
 | .st i => G.k i
def castTy (G : Sg) (a b : Ty) (x : a.den G) : Option (b.den G) := if h : a = b then some (h ▸ x) else none
theorem castTy_some {G : Sg} {a b : Ty} {x : a.den G} {y : b.den G} (h : castTy G a b x = some y) : ∃ e : a = b, e ▸ x = y := by
 unfold castTy at h
 split at h
 ·rename_i e
  injection h with h
  exact ⟨e, h⟩
 ·cases h
structure Acc (G : Sg) (a b : Ty) where
 off : Nat
 get : a.den G → b.den G
 set : a.den G → b.den G → a.den G
 fld : Fld (a.kd G) (b.kd G) off get
 stf : StF (a.kd G) (b.kd G) off set
def Acc.self (G : Sg) (a : Ty) : Acc G a a := ⟨0, fun x => x, fun _ y => y, Fld_self, StF_self⟩
def Acc.comp {G : Sg} {a b c : Ty} (A : Acc G a b) (B : Acc G b c) : Acc G a c := ⟨A.off + B.off, fun x => B.get (A.get x), fun x y => A.set x (B.set (A.get x) y), Fld_trans A.fld B.fld, StF_in A.fld A.stf B.stf⟩

inductive AV (G : Sg) where
 | li (k : IntKind) (n : Int)
 | dat (t : Ty) (x : t.den G) (o : Option Nat)
 | ptr (t : Ty) (x : t.den G)
 | loc (i : Nat) (a b : Ty) (A : Acc G a b)
 | elp (i j : Nat) (a b : Ty) (A : Acc G a b)
 | blk (i : Nat)
 | own (i : Nat)
 | nils
 | agc (cs : List Value)
 | fn1 (a b : Ty) (f : a.den G → Option (b.den G))
 | fn2 (a c b : Ty) (f : a.den G → c.den G → Option (b.den G))
 | und
inductive EV (G : Sg) where
 | one (v : AV G)
 | tup (vs : List (AV G))
inductive BC (G : Sg) where
 | dat (t : Ty) (x : t.den G)
 | arr (t : Ty) (n : Option Nat) (xs : List (t.den G))
 | gone
structure St (G : Sg) where
 env : List (Nat × Nat × EV G)
 c : Nat
 L : List (Nat × BC G)
 T : List Nat
def fb {α : Type} : List α → Nat → Option α
 | [], _ => none
 | x :: l, i => if Nat.beq i l.length then some x else fb l i
def sb {α : Type} : List α → Nat → α → List α
 | [], _, _ => []
 | x :: l, i, y => if Nat.beq i l.length then y :: l else x :: sb l i y
def lke {α : Type} : List (Nat × α) → Nat → Option α
 | [], _ => none
 | (q, x) :: l, j => if Nat.beq q j then some x else lke l j
structure Cz where
 b : List (Nat × Value)
 t : List Value
def Tag (z : Cz) (o : Option Nat) (v : Value) : Prop := match o with | none => True | some j => fb z.t j = some v
def AV.Rel (G : Sg) (P : Program) (m : M) (z : Cz) : AV G → Value → Prop
 | .li k n, v => v = .int k n ∧ inR k n
 | .dat t x o, v => RV (t.kd G) m v x ∧ Tag z o v
 | .ptr t x, v => PR (t.kd G) m v x
 | .loc i _ _ A, v => ∃ p, fb z.b i = some p ∧ v = .pointer (some ⟨p.1, A.off, none⟩)
 | .elp i j a _ A, v => ∃ p, fb z.b i = some p ∧ v = .pointer (some ⟨p.1, j * (a.kd G).sz + A.off, none⟩)
 | .blk i, v => ∃ p, fb z.b i = some p ∧ v = .pointer (some ⟨p.1, 0, none⟩)
 | .own i, v => ∃ p, fb z.b i = some p ∧ v = p.2
 | .nils, v => v = .slice none 0 0
 | .agc cs, v => v = .agg cs.toArray
 | .fn1 a b f, v => Fn1 P (a.kd G) (b.kd G) m v f
 | .fn2 a c b f, v => Fn2 P (a.kd G) (c.kd G) (b.kd G) m v f
 | .und, v => v = undef
def RelL (G : Sg) (P : Program) (m : M) (z : Cz) : List (AV G) → List Value → Prop
 | [], [] => True
 | a :: asv, v :: vs => a.Rel G P m z v ∧ RelL G P m z asv vs
 | _, _ => False
def EV.Rel (G : Sg) (P : Program) (m : M) (z : Cz) : EV G → Value → Prop
 | .one a, v => a.Rel G P m z v
 | .tup asv, v => ∃ vs : List Value, v = .tuple vs.toArray ∧ RelL G P m z asv vs
def BC.Rel (G : Sg) (m : M) : BC G → Nat × Value → List Value → Prop
 | .dat t x, _, cs => (t.kd G).R m cs x
 | .arr t n xs, p, cs => GS (t.kd G) m p.1 cs p.2 xs ∧ (match n with | none => True | some k => xs.length = k)
 | .gone, _, cs => cs = []
def LR (G : Sg) (m : M) : List (Nat × BC G) → List (Nat × Value) → List (Nat × List Value) → Prop
 | [], [], [] => True
 | B :: Bs, p :: ps, e :: es => e.1 = p.1 ∧ B.2.Rel G m p e.2 ∧ LR G m Bs ps es
 | _, _, _ => False
def TRl : List Nat → List Value → List (Nat × Value) → Prop
 | [], [], [] => True
 | s :: ss, v :: vs, e :: es => e = (s, v) ∧ TRl ss vs es
 | _, _, _ => False
structure Rs where
 l : List (Nat × List Value)
 nm : List (Nat × Value)
def Sfx {α : Type} (l s : List α) : Prop := ∃ p, l = p ++ s
theorem Sfx.cons {α : Type} {x : α} {l s : List α} (h : Sfx l s) : Sfx (x :: l) s := by obtain ⟨p, rfl⟩ := h; exact ⟨x :: p, rfl⟩
theorem Sfx.app {α : Type} {q l s : List α} (h : Sfx l s) : Sfx (q ++ l) s := by obtain ⟨p, rfl⟩ := h; exact ⟨q ++ p, by simp⟩
theorem Sfx.len {α : Type} {l s : List α} (h : Sfx l s) : s.length ≤ l.length := by obtain ⟨p, rfl⟩ := h; simp
theorem Sfx.drop {α : Type} {l s : List α} (h : Sfx l s) {k : Nat} (hk : k + s.length ≤ l.length) : Sfx (l.drop k) s := by
 obtain ⟨p, rfl⟩ := h
 simp at hk
 exact ⟨p.drop k, List.drop_append_of_le_length hk⟩
def MemS (G : Sg) (W0 : Bse) (L0 : Rs) (T0 : List (Nat × Value)) (Ls : List (Nat × BC G)) (Ts : List Nat) (m : M) (z : Cz) (w : World) : Prop :=
 ∃ Lc Tc, LR G m Ls z.b Lc ∧ TRl Ts z.t Tc ∧ S W0 m w (Lc ++ L0.l) (Tc ++ T0) ∧ Sfx z.b L0.nm
section
variable {G : Sg} {P : Program} {m m' : M} {z z' : Cz}
theorem AV.Rel.mono {a : AV G} {v : Value} (h : a.Rel G P m z v) (hm : M.le m m') : a.Rel G P m' z v := by
 cases a with
 | dat t x o => exact ⟨RV.mono h.1 hm, h.2⟩
 | ptr t x => exact PR.mono h hm
 | fn1 a b f => exact Fn1.mono h hm
 | fn2 a c b f => exact Fn2.mono h hm
 | _ => exact h
theorem RelL.mono {asv : List (AV G)} {vs : List Value} (h : RelL G P m z asv vs) (hm : M.le m m') : RelL G P m' z asv vs := by
 induction asv generalizing vs with
 | nil => cases vs <;> exact h
 | cons a asv ih =>
  cases vs with
  | nil => exact h
  | cons v vs => exact ⟨h.1.mono hm, ih h.2⟩
theorem EV.Rel.mono {e : EV G} {v : Value} (h : e.Rel G P m z v) (hm : M.le m m') : e.Rel G P m' z v := by
 cases e with
 | one a => exact AV.Rel.mono h hm
 | tup asv => obtain ⟨vs, h1, h2⟩ := h; exact ⟨vs, h1, h2.mono hm⟩
theorem BC.Rel.mono {B : BC G} {p : Nat × Value} {cs : List Value} (h : B.Rel G m p cs) (hm : M.le m m') : B.Rel G m' p cs := by
 cases B with
 | dat t x => exact (t.kd G).mono hm h
 | arr t n xs => exact ⟨GS.mono h.1 hm, h.2⟩
 | gone => exact h
theorem LR.mono {Bs : List (Nat × BC G)} {ps : List (Nat × Value)} {es : List (Nat × List Value)} (h : LR G m Bs ps es) (hm : M.le m m') : LR G m' Bs ps es := by
 induction Bs generalizing ps es with
 | nil => cases ps <;> cases es <;> exact h
 | cons B Bs ih =>
  cases ps with
  | nil => cases es <;> exact h
  | cons p ps =>
   cases es with
   | nil => exact h
   | cons e es => exact ⟨h.1, h.2.1.mono hm, ih h.2.2⟩
theorem LR.len {Bs : List (Nat × BC G)} {ps : List (Nat × Value)} {es : List (Nat × List Value)} (h : LR G m Bs ps es) : ps.length = Bs.length ∧ es.length = Bs.length := by
 induction Bs generalizing ps es with
 | nil => cases ps <;> cases es <;> first | exact ⟨rfl, rfl⟩ | exact h.elim
 | cons B Bs ih =>
  cases ps with
  | nil => cases es <;> exact h.elim
  | cons p ps =>
   cases es with
   | nil => exact h.elim
   | cons e es => have := ih h.2.2; simp [this.1, this.2]
theorem LR.get {Bs : List (Nat × BC G)} {ps : List (Nat × Value)} {es : List (Nat × List Value)} (h : LR G m Bs ps es) {i : Nat} {B : Nat × BC G} (hB : fb Bs i = some B) :
  ∃ p cs j, fb ps i = some p ∧ es[j]? = some (p.1, cs) ∧ B.2.Rel G m p cs ∧
   ∀ (B' : Nat × BC G) (sv : Value) (cs' : List Value), B'.2.Rel G m (p.1, sv) cs' → LR G m (sb Bs i B') (sb ps i (p.1, sv)) (es.set j (p.1, cs')) := by
 induction Bs generalizing ps es with
 | nil => simp [fb] at hB
 | cons B0 Bs ih =>
  cases ps with
  | nil => cases es <;> exact h.elim
  | cons p ps =>
   cases es with
   | nil => exact h.elim
   | cons e es =>
    obtain ⟨h1, h2, h3⟩ := h
    have hl := h3.len
    simp only [fb] at hB
    split at hB
    ·rename_i hi
     injection hB with hB
     subst hB
     refine ⟨p, e.2, 0, by simp [fb, hl.1, hi], by simp [← h1], h2, fun B' sv cs' hb => ?_⟩
     simp only [sb, hi, hl.1, if_true, List.set_cons_zero]
     exact ⟨rfl, hb, h3⟩
    ·rename_i hi
     obtain ⟨p', cs, j, g1, g2, g3, g4⟩ := ih h3 hB
     refine ⟨p', cs, j + 1, by simp [fb, hl.1, hi, g1], by simpa using g2, g3, fun B' sv cs' hb => ?_⟩
     simp only [sb, hi, hl.1, List.set_cons_succ]
     exact ⟨h1, h2, g4 B' sv cs' hb⟩
theorem fb_cons {α : Type} {x : α} {l : List α} {i : Nat} {y : α} (h : fb l i = some y) : fb (x :: l) i = some y := by
 have : ∀ {l : List α} {i : Nat} {y : α}, fb l i = some y → i < l.length := by
  intro l
  induction l with
  | nil => intro i y h; simp [fb] at h
  | cons a l ih =>
   intro i y h
   simp only [fb] at h
   split at h
   ·rename_i e
    have := Nat.eq_of_beq_eq_true e
    simp; omega
   ·have := ih h; simp; omega
 have hi := this h
 unfold fb
 have : Nat.beq i l.length = false := by
  cases hb : Nat.beq i l.length with
  | false => rfl
  | true => have := Nat.eq_of_beq_eq_true hb; omega
 simp only [this]
 exact h
theorem fb_sb_ne {α : Type} {l : List α} {i j : Nat} {y : α} (h : i ≠ j) : fb (sb l i y) j = fb l j := by
 have len : ∀ l : List α, (sb l i y).length = l.length := by
  intro l
  induction l with
  | nil => rfl
  | cons a l ih => simp only [sb]; split <;> simp [ih]
 induction l with
 | nil => rfl
 | cons a l ih =>
  simp only [sb]
  split
  ·rename_i e
   have e' := Nat.eq_of_beq_eq_true e
   have : Nat.beq j l.length = false := by
    cases hb : Nat.beq j l.length with
    | false => rfl
    | true => have := Nat.eq_of_beq_eq_true hb; omega
   simp [fb, this]
  ·simp only [fb, len, ih]
theorem fb_sb_eq {α : Type} {l : List α} {i : Nat} {x y : α} (h : fb l i = some x) : fb (sb l i y) i = some y := by
 induction l with
 | nil => simp [fb] at h
 | cons a l ih =>
  simp only [fb] at h
  have len : (sb l i y).length = l.length := by
   clear ih h
   induction l with
   | nil => rfl
   | cons a l ih => simp only [sb]; split <;> simp [ih]
  simp only [sb]
  split
  ·rename_i e; simp [fb, e]
  ·rename_i e
   rw [if_neg e] at h
   simp [fb, len, e, ih h]
theorem TRl.len {ss : List Nat} {vs : List Value} {es : List (Nat × Value)} (h : TRl ss vs es) : vs.length = ss.length ∧ es.length = ss.length := by
 induction ss generalizing vs es with
 | nil => cases vs <;> cases es <;> first | exact ⟨rfl, rfl⟩ | exact h.elim
 | cons a asv ih =>
  cases vs with
  | nil => cases es <;> exact h.elim
  | cons b bs =>
   cases es with
   | nil => exact h.elim
   | cons c cs => have := ih h.2; simp [this.1, this.2]
theorem TRl.get {ss : List Nat} {vs : List Value} {es : List (Nat × Value)} (h : TRl ss vs es) {i s : Nat} {v : Value} (hs : fb ss i = some s) (hv : fb vs i = some v) :
  ∃ j, es[j]? = some (s, v) ∧ ∀ v', TRl ss (sb vs i v') (es.set j (s, v')) := by
 induction ss generalizing vs es with
 | nil => simp [fb] at hs
 | cons s0 ss ih =>
  cases vs with
  | nil => cases es <;> exact h.elim
  | cons v0 vs =>
   cases es with
   | nil => exact h.elim
   | cons e es =>
    obtain ⟨h1, h2⟩ := h
    have hl : vs.length = ss.length := h2.len.1
    simp only [fb] at hs hv
    rw [hl] at hv
    split at hs
    ·rename_i hi
     rw [if_pos hi] at hv
     injection hs with hs; injection hv with hv
     subst hs; subst hv
     refine ⟨0, by simp [h1], fun v' => ?_⟩
     simp only [sb, hl, hi, if_true, List.set_cons_zero]
     exact ⟨rfl, h2⟩
    ·rename_i hi
     rw [if_neg hi] at hv
     obtain ⟨j, g1, g2⟩ := ih h2 hs hv
     refine ⟨j + 1, by simpa using g1, fun v' => ?_⟩
     simp only [sb, hl, hi, List.set_cons_succ]
     exact ⟨h1, g2 v'⟩
end
end Go.Proofs.YthbonoagbeilkaaGreat.Hay
namespace Go.Proofs.YthbonoagbeilkaaGreat.Hay
structure SlI (P : Program) (G : Sg) (i : TypeId) (t : Ty) where
 e : TypeId
 by_ : Nat
 z : t.den G
 zv : Value
 inf : TypeInfo
 hu : P.underlying i = some (.slice e)
 hs : ∀ w, (sizeOf e).run P w = .ok (t.kd G).sz w
 hel : ElOK P e (t.kd G).sz by_
 hz : ∀ w, (zeroValue e).run P w = .ok zv w
 hzR : ∀ m, (t.kd G).R m zv.cells.toList z
 hi : P.info? e = some inf
 hiz : inf.zero = some zv
 hsz : inf.size = (t.kd G).sz
 hby : inf.bytes = by_
def UI (P : Program) (G : Sg) (i : TypeId) : Ty → Type
 | .int k => PLift (P.underlying i = some (.int k))
 | .bool => PLift (P.underlying i = some .bool)
 | .str => PLift (P.underlying i = some .string)
 | .sl t => SlI P G i t
 | .st _ => Unit
structure TI (P : Program) (G : Sg) (i : TypeId) where
 T : Ty
 ok : TyOK P i (T.kd G)
 u : UI P G i T
 z : T.den G
 zv : Value
 hz : ∀ w, (zeroValue i).run P w = .ok zv w
 hzR : ∀ m, (T.kd G).R m zv.cells.toList z
structure AI (P : Program) (G : Sg) (i : TypeId) where
 n : Nat
 t : Ty
 e : TypeId
 z : t.den G
 zv : Value
 c : List Value
 hu : P.underlying i = some (.array n e)
 hs : ∀ w, (sizeOf e).run P w = .ok (t.kd G).sz w
 hz : ∀ w, (zeroValue i).run P w = .ok zv w
 hzc : zv.cells = ((List.replicate n c).flatten).toArray
 hzR : ∀ m, (t.kd G).R m c z
 hn : Nat.ble n maxSz = true
structure FI (P : Program) (G : Sg) (s f : Nat) where
 t : Ty
 A : Acc G (.st s) t
 ok : FldOK P s f A.off
structure EI (P : Program) (G : Sg) (s : Nat) where
 dec : DecidableEq (G.α s)
 ok : EqOK P s (G.k s)
 agg : (G.k s).agg = true
structure BI (P : Program) (G : Sg) (s : Nat) where
 fs : Array Field
 pl : List (Nat × Nat)
 z : G.α s
 zv : Value
 hu : P.underlying s = some (.struct fs)
 hpl : fs.toList.mapM (fun f => (P.info? f.type).map fun i => (f.offset, i.size)) = some pl
 hz : ∀ w, (zeroValue s).run P w = .ok zv w
 hzR : ∀ m, (G.k s).R m zv.cells.toList z
 agg : (G.k s).agg = true
structure Tab (P : Program) (G : Sg) where
 ty : (i : TypeId) → Option (TI P G i)
 ar : (i : TypeId) → Option (AI P G i)
 fl : (s f : Nat) → Option (FI P G s f)
 eq : (s : Nat) → Option (EI P G s)
 bu : (s : Nat) → Option (BI P G s)
structure Res1 (G : Sg) where
 β : Type
 mv : Option β
 k : β → EV G
section
variable {G : Sg} {P : Program}
def pv (v : AV G) : Option (Res1 G) := some ⟨Unit, some (), fun _ => .one v⟩
def pe (v : EV G) : Option (Res1 G) := some ⟨Unit, some (), fun _ => v⟩
def pb {β : Type} (mv : Option β) (k : β → AV G) : Option (Res1 G) := some ⟨β, mv, fun b => .one (k b)⟩
def AV.i? : AV G → Option (IntKind × Int)
 | .li k n => some (k, n)
 | .dat (.int k) x _ => some (k, x)
 | _ => none
def AV.lit? : AV G → Option Int
 | .li _ n => some n
 | _ => none
def AV.b? : AV G → Option Bool
 | .dat .bool x _ => some x
 | _ => none
def AV.s? : AV G → Option (List Int)
 | .dat .str x _ => some x
 | _ => none
def vEq : Value → Value → Bool
 | .int k n, .int k' n' => decide (k = k') && decide (n = n')
 | .bool b, .bool b' => b == b'
 | .string s, .string s' => decide (s.data.toList = s'.data.toList)
 | .slice none 0 0, .slice none 0 0 => true
 | _, _ => false
theorem vEq_eq {a b : Value} (h : vEq a b = true) : a = b := by
 unfold vEq at h
 split at h
 ·simp only [Bool.and_eq_true, decide_eq_true_eq] at h
  rw [h.1, h.2]
 ·simp only [beq_iff_eq] at h
  rw [h]
 ·rename_i s s'
  simp only [decide_eq_true_eq] at h
  cases s; cases s'
  simp only at h
  rw [Array.toList_inj.1 h]
 ·rfl
 ·cases h
def vEqL : List Value → List Value → Bool
 | [], [] => true
 | a :: asv, b :: bs => vEq a b && vEqL asv bs
 | _, _ => false
theorem vEqL_eq : ∀ {asv bs : List Value}, vEqL asv bs = true → asv = bs
 | [], [], _ => rfl
 | a :: asv, b :: bs, h => by
  simp only [vEqL, Bool.and_eq_true] at h
  rw [vEq_eq h.1, vEqL_eq h.2]
 | [], _ :: _, h => by cases h
 | _ :: _, [], h => by cases h
def AV.as (Γ : Tab P G) (t : Ty) : AV G → Option (t.den G)
 | .li k n => castTy G (.int k) t n
 | .dat t' x _ => castTy G t' t x
 | .nils => match t with | .sl _ => some [] | _ => none
 | .agc cs => match t with
  | .st i => match Γ.bu i with
   | some B => if vEqL B.zv.cells.toList cs then some B.z else none
   | none => none
  | _ => none
 | _ => none
def av? : Option (EV G) → Option (AV G)
 | some (.one v) => some v
 | _ => none
def di (k : IntKind) (x : Int) : AV G := .dat (.int k) x none
def db (x : Bool) : AV G := .dat .bool x none
def binI (op : BinOp) (k k' : IntKind) (p q : Int) (lit : Option Int) : Option (Res1 G) :=
 match op with
 | .add => if k = k' then pv (di k (k.wrap (p + q))) else none
 | .sub => if k = k' then pv (di k (k.wrap (p - q))) else none
 | .mul => if k = k' then pv (di k (k.wrap (p * q))) else none
 | .quo => if k = k' then (match lit with | some n => if n = q ∧ n ≠ 0 then pv (di k (k.wrap (p.tdiv q))) else none | none => pb (chk (q != 0)) fun _ => di k (k.wrap (p.tdiv q))) else none
 | .rem => if k = k' then (match lit with | some n => if n = q ∧ n ≠ 0 then pv (di k (p.tmod q)) else none | none => pb (chk (q != 0)) fun _ => di k (p.tmod q)) else none
 | .and => if k = k' then pv (di k (bAnd k p q)) else none
 | .or => if k = k' then pv (di k (bOr k p q)) else none
 | .xor => if k = k' then pv (di k (bXor k p q)) else none
 | .shl => match lit with
  | some n => if n = q ∧ 0 ≤ n then pv (di k (iShl k p q)) else none
  | none => if k' = .u8 ∨ k' = .u32 ∨ k' = .u64 then pv (di k (iShl k p q)) else pb (chk (decide (0 ≤ q))) fun _ => di k (iShl k p q)
 | .shr => match lit with
  | some n => if n = q ∧ 0 ≤ n then pv (di k (iShr k p q)) else none
  | none => if k' = .u8 ∨ k' = .u32 ∨ k' = .u64 then pv (di k (iShr k p q)) else pb (chk (decide (0 ≤ q))) fun _ => di k (iShr k p q)
 | .eql => if k = k' then pv (db (p == q)) else none
 | .neq => if k = k' then pv (db (p != q)) else none
 | .lss => if k = k' then pv (db (decide (p < q))) else none
 | .leq => if k = k' then pv (db (decide (p ≤ q))) else none
 | .gtr => if k = k' then pv (db (decide (q < p))) else none
 | .geq => if k = k' then pv (db (decide (q ≤ p))) else none
 | _ => none
def Gives (G : Sg) (P : Program) (m : M) (z : Cz) (r : Option (Res1 G)) (o : Oper) (a : Act) : Prop :=
 ∀ R b, r = some R → R.mv = some b → ∀ w, ∃ v, Run1 P o a w v w ∧ (R.k b).Rel G P m z v
theorem Gives.pv {v : AV G} {m : M} {z : Cz} {o : Oper} {a : Act} (h : ∀ w, ∃ u, Run1 P o a w u w ∧ v.Rel G P m z u) : Gives G P m z (pv v) o a := by
 intro R b hr hb w
 injection hr with hr
 subst hr
 exact h w
theorem Gives.none {m : M} {z : Cz} {o : Oper} {a : Act} : Gives G P m z none o a := by
 intro R b hr; cases hr
theorem Gives.pb {β : Type} {mv : Option β} {k : β → AV G} {m : M} {z : Cz} {o : Oper} {a : Act} (h : ∀ b, mv = some b → ∀ w, ∃ u, Run1 P o a w u w ∧ (k b).Rel G P m z u) : Gives G P m z (pb mv k) o a := by
 intro R b hr hb w
 injection hr with hr
 subst hr
 exact h b hb w
theorem Gives.ite {c : Prop} [Decidable c] {x y : Option (Res1 G)} {m : M} {z : Cz} {o : Oper} {a : Act} (h : c → Gives G P m z x o a) (h' : ¬ c → Gives G P m z y o a) : Gives G P m z (if c then x else y) o a := by
 split
 ·exact h ‹_›
 ·exact h' ‹_›
theorem rel_int {m : M} {z : Cz} {k : IntKind} {x : Int} (h : inR k x) : (di k x : AV G).Rel G P m z (.int k x) := ⟨RV_of_int h, trivial⟩
theorem rel_bool {m : M} {z : Cz} {x : Bool} : (db x : AV G).Rel G P m z (.bool x) := ⟨RV_of_bool, trivial⟩
theorem AV.i_rel {a : AV G} {m : M} {z : Cz} {v : Value} {k : IntKind} {x : Int} (h : a.i? = some (k, x)) (hr : a.Rel G P m z v) : v = .int k x ∧ inR k x := by
 cases a with
 | li k' n =>
  simp only [AV.i?, Option.some.injEq, Prod.mk.injEq] at h
  obtain ⟨rfl, rfl⟩ := h
  exact hr
 | dat t y o =>
  cases t <;> simp only [AV.i?, reduceCtorEq] at h
  obtain ⟨rfl, rfl⟩ := Prod.mk.inj (Option.some.inj h)
  exact RV_int hr.1
 | _ => simp [AV.i?] at h
theorem AV.b_rel {a : AV G} {m : M} {z : Cz} {v : Value} {x : Bool} (h : a.b? = some x) (hr : a.Rel G P m z v) : v = .bool x := by
 cases a with
 | dat t y o =>
  cases t <;> simp only [AV.b?, reduceCtorEq] at h
  obtain rfl := Option.some.inj h
  exact RV_bool hr.1
 | _ => simp [AV.b?] at h
theorem AV.s_rel {a : AV G} {m : M} {z : Cz} {v : Value} {x : List Int} (h : a.s? = some x) (hr : a.Rel G P m z v) : v = .string (bts x) ∧ (∀ n ∈ x, 0 ≤ n ∧ n < 256) ∧ x.length ≤ maxSz := by
 cases a with
 | dat t y o =>
  cases t <;> simp only [AV.s?, reduceCtorEq] at h
  obtain rfl := Option.some.inj h
  exact RV_str hr.1
 | _ => simp [AV.s?] at h
theorem AV.as_rel {Γ : Tab P G} {a : AV G} {m : M} {z : Cz} {v : Value} {t : Ty} {x : t.den G} (h : a.as Γ t = some x) (hr : a.Rel G P m z v) : RV (t.kd G) m v x := by
 cases a with
 | li k n =>
  obtain ⟨e, h⟩ := castTy_some h
  subst e; subst h
  obtain ⟨rfl, h2⟩ := hr
  exact RV_of_int h2
 | dat t' y o =>
  obtain ⟨e, h⟩ := castTy_some h
  subst e; subst h
  exact hr.1
 | nils =>
  cases t with
  | sl t =>
   simp only [AV.as] at h
   obtain rfl := Option.some.inj h
   have : v = .slice none 0 0 := hr
   subst this
   exact RV_nil
  | _ => simp [AV.as] at h
 | agc cs =>
  cases t with
  | st i =>
   simp only [AV.as] at h
   split at h
   ·rename_i B _
    split at h
    ·rename_i he
     obtain rfl := Option.some.inj h
     have hv : v = .agg cs.toArray := hr
     have := vEqL_eq he
     refine ⟨cs, ?_, ?_⟩
     ·rw [← this]; exact B.hzR m
     ·subst hv
      show _ = (G.k i).val cs
      simp [Kd.val, B.agg]
    ·cases h
   ·cases h
  | _ => simp [AV.as] at h
 | _ => simp [AV.as] at h
theorem binI_gives {op : BinOp} {k k' : IntKind} {p q : Int} {lit : Option Int} {m : M} {z : Cz} {t t' : TypeId} {x y : Operand} {dst : Option Tmp} {ty : TypeId} {pos : String} {aft : Array Edge} {g : Option (Nat × Bool)} {δ : List Nat} {n : Nat} {l : List (Nat × Value)} {a : Act}
  (hE : EnvD δ n a l) (hx : evl l x = some (.int k p)) (hy : evl l y = some (.int k' q)) (hp : inR k p) (hq : inR k' q) : Gives G P m z (binI op k k' p q lit) ⟨dst, .binOp op t x y t', ty, pos, aft, g⟩ a := by
 have nn : k' = .u8 ∨ k' = .u32 ∨ k' = .u64 → 0 ≤ q := by
  rintro (rfl | rfl | rfl)
  ·exact inR_nonneg8 hq
  ·exact inR_nonneg32 hq
  ·exact inR_nonneg64 hq
 cases op <;> simp only [binI]
 case add => exact .ite (fun e => by subst e; exact .pv fun w => ⟨_, r_bin hE hx hy (b_add rfl), rel_int (inR_wrap _ _)⟩) fun _ => .none
 case sub => exact .ite (fun e => by subst e; exact .pv fun w => ⟨_, r_bin hE hx hy (b_sub rfl), rel_int (inR_wrap _ _)⟩) fun _ => .none
 case mul => exact .ite (fun e => by subst e; exact .pv fun w => ⟨_, r_bin hE hx hy (b_mul rfl), rel_int (inR_wrap _ _)⟩) fun _ => .none
 case quo =>
  refine .ite (fun e => ?_) fun _ => .none
  subst e
  split
  ·exact .ite (fun h => .pv fun w => ⟨_, r_bin hE hx hy (b_quo rfl (by rw [← h.1]; exact h.2)), rel_int (inR_wrap _ _)⟩) fun _ => .none
  ·exact .pb fun b hb w => ⟨_, r_bin hE hx hy (b_quo rfl (bne_iff_ne.1 (chk_some hb))), rel_int (inR_wrap _ _)⟩
 case rem =>
  refine .ite (fun e => ?_) fun _ => .none
  subst e
  split
  ·exact .ite (fun h => .pv fun w => ⟨_, r_bin hE hx hy (b_rem rfl (by rw [← h.1]; exact h.2)), rel_int (inR_mod hp)⟩) fun _ => .none
  ·exact .pb fun b hb w => ⟨_, r_bin hE hx hy (b_rem rfl (bne_iff_ne.1 (chk_some hb))), rel_int (inR_mod hp)⟩
 case and => exact .ite (fun e => by subst e; exact .pv fun w => ⟨_, r_bin hE hx hy (b_and rfl), rel_int (inR_and _ _ _)⟩) fun _ => .none
 case or => exact .ite (fun e => by subst e; exact .pv fun w => ⟨_, r_bin hE hx hy (b_or rfl), rel_int (inR_or _ _ _)⟩) fun _ => .none
 case xor => exact .ite (fun e => by subst e; exact .pv fun w => ⟨_, r_bin hE hx hy (b_xor rfl), rel_int (inR_xor _ _ _)⟩) fun _ => .none
 case shl =>
  split
  ·exact .ite (fun h => .pv fun w => ⟨_, r_bin hE hx hy (b_shl rfl (by rw [← h.1]; exact h.2)), rel_int (inR_shl _ _ _)⟩) fun _ => .none
  ·exact .ite (fun h => .pv fun w => ⟨_, r_bin hE hx hy (b_shl rfl (nn h)), rel_int (inR_shl _ _ _)⟩) fun _ => .pb fun b hb w => ⟨_, r_bin hE hx hy (b_shl rfl (of_decide_eq_true (chk_some hb))), rel_int (inR_shl _ _ _)⟩
 case shr =>
  split
  ·exact .ite (fun h => .pv fun w => ⟨_, r_bin hE hx hy (b_shr rfl (by rw [← h.1]; exact h.2)), rel_int (inR_shr hp _)⟩) fun _ => .none
  ·exact .ite (fun h => .pv fun w => ⟨_, r_bin hE hx hy (b_shr rfl (nn h)), rel_int (inR_shr hp _)⟩) fun _ => .pb fun b hb w => ⟨_, r_bin hE hx hy (b_shr rfl (of_decide_eq_true (chk_some hb))), rel_int (inR_shr hp _)⟩
 case andNot => exact .none
 case eql => exact .ite (fun e => by subst e; exact .pv fun w => ⟨_, r_bin hE hx hy b_eql, rel_bool⟩) fun _ => .none
 case neq => exact .ite (fun e => by subst e; exact .pv fun w => ⟨_, r_bin hE hx hy b_neq, rel_bool⟩) fun _ => .none
 case lss => exact .ite (fun e => by subst e; exact .pv fun w => ⟨_, r_bin hE hx hy b_lss, rel_bool⟩) fun _ => .none
 case leq => exact .ite (fun e => by subst e; exact .pv fun w => ⟨_, r_bin hE hx hy b_leq, rel_bool⟩) fun _ => .none
 case gtr => exact .ite (fun e => by subst e; exact .pv fun w => ⟨_, r_bin hE hx hy b_gtr, rel_bool⟩) fun _ => .none
 case geq => exact .ite (fun e => by subst e; exact .pv fun w => ⟨_, r_bin hE hx hy b_geq, rel_bool⟩) fun _ => .none
theorem opEnv {δ : List Nat} {n : Nat} {a : Act} (hd : a.defers = δ.map fun D => { target := .collected D, args := #[] }) (hs : a.tmps.size = n) (xs : List Operand) : ∃ l, EnvD δ n a l ∧ ∀ x ∈ xs, evl l x = some (a.eval x) := by
 refine ⟨xs.filterMap fun x => match x with | .tmp t => some (t, a.tmps.getD t undef) | _ => none, ⟨hd, hs, fun j v hj => ?_⟩, fun x hx => ?_⟩
 ·induction xs with
  | nil => simp [lk] at hj
  | cons x xs ih =>
   cases x with
   | tmp t =>
    simp only [List.filterMap_cons, lk] at hj
    split at hj
    ·rename_i e
     have := Nat.eq_of_beq_eq_true e
     subst this
     injection hj
    ·exact ih hj
   | _ => exact ih (by simpa using hj)
 ·cases x with
  | tmp t =>
   show lk _ t = some (a.tmps.getD t undef)
   induction xs with
   | nil => cases hx
   | cons y xs ih =>
    by_cases hy : y = .tmp t
    ·subst hy; simp [lk]
    ·have hx' : Operand.tmp t ∈ xs := by
      rcases List.mem_cons.1 hx with h | h
      ·exact absurd h.symm hy
      ·exact h
     cases y with
     | tmp t' =>
      have : t' ≠ t := fun e => hy (by rw [e])
      have hb : Nat.beq t' t = false := by
       cases hb : Nat.beq t' t with
       | false => rfl
       | true => exact absurd (Nat.eq_of_beq_eq_true hb) this
      simp only [List.filterMap_cons, lk, hb]
      exact ih hx'
     | _ => simp only [List.filterMap_cons]; exact ih hx'
  | _ => rfl
end
end Go.Proofs.YthbonoagbeilkaaGreat.Hay
namespace Go.Proofs.YthbonoagbeilkaaGreat.Hay
section
variable {G : Sg} {P : Program}
def getL {α : Type} (xs : List α) (j : Nat) : Option α := xs[j]?
def TI.elem {i : TypeId} : TI P G i → Option TypeId
 | ⟨.sl _, _, u, _, _, _, _⟩ => some u.e
 | _ => none
def binA (Γ : Tab P G) (op : BinOp) (t : TypeId) (a b : AV G) : Option (Res1 G) :=
 match a.i?, b.i? with
 | some (k, p), some (k', q) => binI op k k' p q b.lit?
 | _, _ =>
  match Γ.ty t with
  | some I => (match I.T with
   | .bool => (match a.b?, b.b? with
    | some p, some q => (match op with | .eql => pv (db (p == q)) | .neq => pv (db (!(p == q))) | _ => none)
    | _, _ => none)
   | .str => (match a.s?, b.s? with
    | some p, some q => (match op with | .eql => pv (db (decide (p = q))) | .neq => pv (db (!decide (p = q))) | .lss => pv (db (ltB p q)) | _ => none)
    | _, _ => none)
   | .st i => (match Γ.eq t with
    | some E => if i = t then (match a.as Γ (.st t), b.as Γ (.st t) with
     | some p, some q => (match op with | .eql => pv (db (@decide _ (E.dec p q))) | .neq => pv (db (!(@decide _ (E.dec p q)))) | _ => none)
     | _, _ => none) else none
    | none => none)
   | _ => none)
  | none => none
def unA (op : UnOp) (a : AV G) : Option (Res1 G) :=
 match op with
 | .not => (match a.b? with | some p => pv (db (!p)) | none => none)
 | .neg => (match a.i? with | some (k, p) => pv (di k (k.wrap (0 - p))) | none => none)
 | .xor => (match a.i? with | some (k, p) => pv (di k (iNot k p)) | none => none)
 | _ => none
def convA (Γ : Tab P G) (t t2 : TypeId) (a : AV G) : Option (Res1 G) :=
 match Γ.ty t, Γ.ty t2 with
 | some I, some I2 => (match I.T, I2.T with
  | .int _, .int k' => (match a.i? with | some (_, p) => pv (di k' (k'.wrap p)) | none => none)
  | .sl (.int k), .str => (match I.elem with
   | some e => (match Γ.ty e with
    | some J => if k = .u8 ∧ J.T = .int .u8 then (match a.as Γ (.sl (.int k)) with | some x => pv (.dat .str x none) | none => none) else none
    | none => none)
   | none => none)
  | _, _ => none)
 | _, _ => none
def loadA (Γ : Tab P G) (Lv : Nat → Option (BC G)) (t : TypeId) (a : AV G) : Option (Res1 G) :=
 match Γ.ty t with
 | some I => (match a with
  | .ptr b v => if b = I.T then pv (.dat b v none) else none
  | .blk i => (match Lv i with
   | some (.dat c x) => if c = I.T then pv (.dat c x none) else none
   | _ => none)
  | .loc i c b A => if b = I.T then (match Lv i with
   | some (.dat c' x) => (match castTy G c' c x with | some x => pv (.dat b (A.get x) none) | none => none)
   | _ => none) else none
  | .elp i j c b A => if b = I.T then (match Lv i with
   | some (.arr c' _ xs) => (match castTy G (.sl c') (.sl c) xs with | some xs => pb (getL (α := c.den G) xs j) fun x => .dat b (A.get x) none | none => none)
   | _ => none) else none
  | _ => none)
 | none => none
def fieldA (Γ : Tab P G) (Lv : Nat → Option (BC G)) (s f : Nat) (a : AV G) : Option (Res1 G) :=
 match Γ.fl s f with
 | some F => (match a with
  | .ptr t v => (match castTy G t (.st s) v with | some x => pv (.ptr F.t (F.A.get x)) | none => none)
  | .blk i => (match Lv i with | some (.dat c _) => if c = .st s then pv (.loc i (.st s) F.t F.A) else none | _ => none)
  | .loc i c b A => if h : b = .st s then pv (.loc i c F.t ((h ▸ A : Acc G c (.st s)).comp F.A)) else none
  | .elp i j c b A => if h : b = .st s then pv (.elp i j c F.t ((h ▸ A : Acc G c (.st s)).comp F.A)) else none
  | _ => none)
 | none => none
def indexA (Γ : Tab P G) (Lv : Nat → Option (BC G)) (t : TypeId) (a b : AV G) : Option (Res1 G) :=
 match b.i? with
 | some (_, q) => (match a with
  | .blk i => (match Γ.ar t, Lv i with
   | some R, some (.arr c (some n) xs) => if c = R.t ∧ n = R.n then pb (ix xs q) fun j => .elp i j c c (.self G c) else none
   | _, _ => none)
  | .own i => (match Γ.ty t, Lv i with
   | some I, some (.arr c _ xs) => if I.T = .sl c then pb (ix xs q) fun j => .elp i j c c (.self G c) else none
   | _, _ => none)
  | a => (match Γ.ty t with
   | some I => (match I.T with
    | .sl c => (match a.as Γ (.sl c) with | some xs => pb (idx (xs : List (c.den G)) q) fun x => .ptr c x | none => none)
    | _ => none)
   | none => none))
 | none => none
def indexS (Γ : Tab P G) (t : TypeId) (a b : AV G) : Option (Res1 G) :=
 match Γ.ty t, a.s?, b.i? with
 | some I, some s, some (_, q) => (match I.T with | .str => pb (idx s q) fun c => di .u8 c | _ => none)
 | _, _, _ => none
def bnd (dflt : Int) : Option (Option (AV G)) → Option Int
 | none => some dflt
 | some (some v) => v.i?.map (·.2)
 | some none => none
def sliceA (Γ : Tab P G) (t : TypeId) (a : AV G) (lo hi : Option (Option (AV G))) : Option (Res1 G) :=
 match Γ.ty t with
 | some I => (match I.T with
  | .sl c => (match a.as Γ (.sl c) with
   | some xs => (match bnd 0 lo, bnd ((xs : List (c.den G)).length : Int) hi with
    | some l, some h => pb (sub (xs : List (c.den G)) l h) fun y => .dat (.sl c) y none
    | _, _ => none)
   | none => none)
  | _ => none)
 | none => none
def partsA (Γ : Tab P G) (s : Nat) (pl : List (Nat × Nat)) : List (Nat × Option (AV G)) → G.α s → Option (G.α s)
 | [], x => some x
 | (f, some a) :: r, x => match Γ.fl s f with
  | some F => (match a.as Γ F.t with
   | some y => (match pl[f]? with
    | some q => if q.1 = F.A.off ∧ q.2 = (F.t.kd G).sz then partsA Γ s pl r (F.A.set x y) else none
    | none => none)
   | none => none)
  | none => none
 | _, _ => none
def buildA (Γ : Tab P G) (t : TypeId) (ps : List (Nat × Option (AV G))) : Option (Res1 G) :=
 match Γ.bu t with
 | some B => (match partsA Γ t B.pl ps B.z with | some x => pv (.dat (.st t) x none) | none => none)
 | none => none
def lenA (Γ : Tab P G) (Lv : Nat → Option (BC G)) (t : TypeId) (a : AV G) : Option (Res1 G) :=
 match Γ.ty t with
 | some I => (match I.T with
  | .str => (match a.s? with | some s => pv (di .i64 (s.length : Int)) | none => none)
  | .sl c => (match a with
   | .nils => pv (.li .i64 0)
   | .own i => (match Lv i with | some (.arr c' _ xs) => if c' = c then pv (di .i64 (xs.length : Int)) else none | _ => none)
   | a => (match a.as Γ (.sl c) with | some xs => pv (di .i64 ((xs : List (c.den G)).length : Int)) | none => none))
  | _ => none)
 | none => none
def mmA (mx : Bool) (a b : AV G) : Option (Res1 G) :=
 match a.i?, b.i? with
 | some (k, p), some (k', q) => if k = k' then pv (di k (match mx with | true => (if p < q then q else p) | false => (if q < p then q else p))) else none
 | _, _ => none
def oav (ρ : Operand → Option (EV G)) : Option Operand → Option (Option (AV G))
 | none => none
 | some x => some (av? (ρ x))
def pureOp (Γ : Tab P G) (ρ : Operand → Option (EV G)) (Lv : Nat → Option (BC G)) : Op → Option (Res1 G)
 | .move x => (match ρ x with | some e => pe e | none => none)
 | .assign x => (match ρ x with | some e => pe e | none => none)
 | .pick c x y => (match av? (ρ c) with
  | some a => (match a.b? with
   | some b => (match b with
    | true => (match ρ x with | some e => pe e | none => none)
    | false => (match ρ y with | some e => pe e | none => none))
   | none => none)
  | none => none)
 | .nilCheck x => (match av? (ρ x) with
  | some (.ptr t v) => pv (.ptr t v)
  | some (.loc i a b A) => pv (.loc i a b A)
  | some (.elp i j a b A) => pv (.elp i j a b A)
  | some (.blk i) => pv (.blk i)
  | _ => none)
 | .binOp op t x y _ => (match av? (ρ x), av? (ρ y) with | some a, some b => binA Γ op t a b | _, _ => none)
 | .unOp op _ x => (match av? (ρ x) with | some a => unA op a | none => none)
 | .convert t t2 x => (match av? (ρ x) with | some a => convA Γ t t2 a | none => none)
 | .extract x i => (match ρ x with | some (.tup vs) => (match vs[i]? with | some v => pv v | none => none) | _ => none)
 | .load t x => (match av? (ρ x) with | some a => loadA Γ Lv t a | none => none)
 | .fieldAddr s x f => (match av? (ρ x) with | some a => fieldA Γ Lv s f a | none => none)
 | .indexAddr t x y => (match av? (ρ x), av? (ρ y) with | some a, some b => indexA Γ Lv t a b | _, _ => none)
 | .index t x y => (match av? (ρ x), av? (ρ y) with | some a, some b => indexS Γ t a b | _, _ => none)
 | .slice t x lo hi none => (match av? (ρ x) with | some a => sliceA Γ t a (oav ρ lo) (oav ρ hi) | none => none)
 | .build t ps => buildA Γ t (ps.toList.map fun p => (p.1, av? (ρ p.2)))
 | .call ⟨.builtin .len, ⟨[x]⟩, ⟨[t]⟩⟩ => (match av? (ρ x) with | some a => lenA Γ Lv t a | none => none)
 | .call ⟨.builtin .max, ⟨[x, y]⟩, _⟩ => (match av? (ρ x), av? (ρ y) with | some a, some b => mmA true a b | _, _ => none)
 | .call ⟨.builtin .min, ⟨[x, y]⟩, _⟩ => (match av? (ρ x), av? (ρ y) with | some a, some b => mmA false a b | _, _ => none)
 | _ => none
def GivesS (G : Sg) (P : Program) (m : M) (z : Cz) (r : Option (Res1 G)) (o : Oper) (a : Act) (w : World) : Prop :=
 ∀ R b, r = some R → R.mv = some b → Step P o a w (fun v w' => w = w' ∧ (R.k b).Rel G P m z v)
section
variable {m : M} {z : Cz} {o : Oper} {a : Act} {w : World}
theorem Gives.s {r : Option (Res1 G)} (h : Gives G P m z r o a) : GivesS G P m z r o a w := fun R b hr hb => by
 obtain ⟨v, h1, h2⟩ := h R b hr hb w
 exact h1.step ⟨rfl, h2⟩
theorem GivesS.none : GivesS G P m z none o a w := fun R b hr => by cases hr
theorem GivesS.pv {v : AV G} (h : Step P o a w (fun u w' => w = w' ∧ v.Rel G P m z u)) : GivesS G P m z (pv v) o a w := fun R b hr _ => by
 injection hr with hr; subst hr; exact h
theorem GivesS.run {v : AV G} {u : Value} (h : Run1 P o a w u w) (hr : v.Rel G P m z u) : GivesS G P m z (Hay.pv v) o a w := .pv (h.step ⟨rfl, hr⟩)
theorem GivesS.pb {β : Type} {mv : Option β} {k : β → AV G} (h : ∀ b, mv = some b → Step P o a w (fun u w' => w = w' ∧ (k b).Rel G P m z u)) : GivesS G P m z (pb mv k) o a w := fun R b hr hb => by
 injection hr with hr; subst hr; exact h b hb
theorem GivesS.pe {e : EV G} (h : Step P o a w (fun u w' => w = w' ∧ e.Rel G P m z u)) : GivesS G P m z (pe e) o a w := fun R b hr _ => by
 injection hr with hr; subst hr; exact h
end
section
variable {δ : List Nat} {n : Nat} {l : List (Nat × Value)} {a : Act} {m : M} {z : Cz} {w : World} {t t2 ty : TypeId} {x y : Operand} {d : Nat} {pos : String} {aft : Array Edge} {g : Option (Nat × Bool)} {u v : Value} {p q : AV G} {Γ : Tab P G}
theorem TI.int {i : TypeId} {I : TI P G i} {k : IntKind} (h : I.T = .int k) : P.underlying i = some (.int k) := by
 have := I.u
 rw [h] at this
 exact this.down
theorem TI.bool {i : TypeId} {I : TI P G i} (h : I.T = .bool) : P.underlying i = some .bool := by
 have := I.u
 rw [h] at this
 exact this.down
theorem TI.str {i : TypeId} {I : TI P G i} (h : I.T = .str) : P.underlying i = some .string := by
 have := I.u
 rw [h] at this
 exact this.down
def TI.sl {i : TypeId} (I : TI P G i) {c : Ty} (h : I.T = .sl c) : SlI P G i c := by
 have := I.u
 rw [h] at this
 exact this
theorem elem_sl {i e : TypeId} {I : TI P G i} {c : Ty} (h : I.T = .sl c) (he : I.elem = some e) : (I.sl h).e = e := by
 obtain ⟨T, a1, u, a3, a4, a5, a6⟩ := I
 simp only at h
 subst h
 simp only [TI.elem, Option.some.injEq] at he
 exact he
theorem binA_ok {op : BinOp} (hE : EnvD δ n a l) (hx : evl l x = some u) (hy : evl l y = some v) (hp : p.Rel G P m z u) (hq : q.Rel G P m z v) : GivesS G P m z (binA Γ op t p q) ⟨some d, .binOp op t x y t2, ty, pos, aft, g⟩ a w := by
 unfold binA
 split
 ·rename_i k p' k' q' h1 h2
  obtain ⟨rfl, h3⟩ := AV.i_rel h1 hp
  obtain ⟨rfl, h4⟩ := AV.i_rel h2 hq
  exact (binI_gives hE hx hy h3 h4).s
 ·split
  ·rename_i I _
   split
   ·rename_i hT
    split
    ·rename_i b c h1 h2
     have e1 := AV.b_rel h1 hp
     have e2 := AV.b_rel h2 hq
     subst e1; subst e2
     split
     ·exact .run (r_eqlB hE hx hy (TI.bool hT)) rel_bool
     ·exact .run (r_neqB hE hx hy (TI.bool hT)) rel_bool
     ·exact .none
    ·exact .none
   ·rename_i hT
    split
    ·rename_i b c h1 h2
     obtain ⟨rfl, h3, _⟩ := AV.s_rel h1 hp
     obtain ⟨rfl, h4, _⟩ := AV.s_rel h2 hq
     split
     ·exact .run (r_eqlS hE hx hy h3 h4) rel_bool
     ·exact .run (r_neqS hE hx hy h3 h4) rel_bool
     ·exact .run (r_lssS hE hx hy h3 h4) rel_bool
     ·exact .none
    ·exact .none
   ·split
    ·rename_i E _
     split
     ·split
      ·rename_i b c h1 h2
       have e1 := AV.as_rel h1 hp
       have e2 := AV.as_rel h2 hq
       letI := E.dec
       split
       ·exact .run (r_eqlK hE E.ok hx hy e1 e2 E.agg) rel_bool
       ·exact .run (r_neqK hE E.ok hx hy e1 e2 E.agg) rel_bool
       ·exact .none
      ·exact .none
     ·exact .none
    ·exact .none
   ·exact .none
  ·exact .none
theorem unA_ok {op : UnOp} (hE : EnvD δ n a l) (hx : evl l x = some u) (hp : p.Rel G P m z u) : GivesS G P m z (unA op p) ⟨some d, .unOp op t x, ty, pos, aft, g⟩ a w := by
 unfold unA
 split
 ·split
  ·rename_i h1
   have e1 := AV.b_rel h1 hp
   subst e1
   exact .run (r_not hE hx) rel_bool
  ·exact .none
 ·split
  ·rename_i h1
   obtain ⟨rfl, h3⟩ := AV.i_rel h1 hp
   exact .run (r_neg hE hx rfl) (rel_int (inR_wrap _ _))
  ·exact .none
 ·split
  ·rename_i h1
   obtain ⟨rfl, h3⟩ := AV.i_rel h1 hp
   exact .run (r_cpl hE hx rfl) (rel_int (inR_not _ _))
  ·exact .none
 ·exact .none
theorem convA_ok {W0 : Bse} {L : List (Nat × List Value)} {TL : List (Nat × Value)} (hE : EnvD δ n a l) (hS : S W0 m w L TL) (hx : evl l x = some u) (hp : p.Rel G P m z u) : GivesS G P m z (convA Γ t t2 p) ⟨some d, .convert t t2 x, ty, pos, aft, g⟩ a w := by
 unfold convA
 split
 ·rename_i I I2 h1 h2
  split
  ·rename_i hT hT2
   split
   ·rename_i h3
    obtain ⟨rfl, _⟩ := AV.i_rel h3 hp
    exact .run (r_conv hE hx (TI.int hT) (TI.int hT2) rfl) (rel_int (inR_wrap _ _))
   ·exact .none
  ·rename_i k hT hT2
   split
   ·rename_i e he
    split
    ·rename_i J _
     split
     ·rename_i hk
      obtain ⟨rfl, hJ⟩ := hk
      split
      ·rename_i xs h3
       have hv := AV.as_rel h3 hp
       exact .run (r_bytes hE hS hx (I.sl hT).hu ((elem_sl hT he).symm ▸ TI.int hJ) (TI.str hT2) hv) ⟨RV_of_str (RV_bytes hv) (RV_len hv), trivial⟩
      ·exact .none
     ·exact .none
    ·exact .none
   ·exact .none
  ·exact .none
 ·exact .none
end
end
end Go.Proofs.YthbonoagbeilkaaGreat.Hay
namespace Go.Proofs.YthbonoagbeilkaaGreat.Hay
section
variable {G : Sg} {P : Program} {δ : List Nat} {n : Nat} {l : List (Nat × Value)} {a : Act} {m : M} {z : Cz} {w : World} {t t2 ty : TypeId} {x y : Operand} {d : Nat} {pos : String} {aft : Array Edge} {g : Option (Nat × Bool)} {u v : Value} {p q : AV G} {Γ : Tab P G}
 {W0 : Bse} {L0 : Rs} {T0 : List (Nat × Value)} {Ls : List (Nat × BC G)} {Ts : List Nat}
def lvOf (Ls : List (Nat × BC G)) (i : Nat) : Option (BC G) := (fb Ls i).map (·.2)
theorem lvOf_some {i : Nat} {B : BC G} (h : lvOf Ls i = some B) : ∃ s, fb Ls i = some (s, B) := by
 unfold lvOf at h
 cases hf : fb Ls i with
 | none => simp [hf] at h
 | some e => simp [hf] at h; exact ⟨e.1, by rw [← h]⟩
theorem MemS.get (hM : MemS G W0 L0 T0 Ls Ts m z w) {i : Nat} {B : BC G} (h : lvOf Ls i = some B) : ∃ (L : List (Nat × List Value)) (TL : List (Nat × Value)) (p : Nat × Value) (cs : List Value) (j : Nat), S W0 m w L TL ∧ fb z.b i = some p ∧ L[j]? = some (p.1, cs) ∧ B.Rel G m p cs := by
 obtain ⟨Lc, Tc, h1, h2, h3, _⟩ := hM
 obtain ⟨s, hs⟩ := lvOf_some h
 obtain ⟨p, cs, j, g1, g2, g3, _⟩ := h1.get hs
 refine ⟨_, _, p, cs, j, h3, g1, ?_, g3⟩
 have : j < Lc.length := (List.getElem?_eq_some_iff.1 g2).1
 rw [List.getElem?_append_left this]; exact g2
theorem MemS.any (hM : MemS G W0 L0 T0 Ls Ts m z w) : ∃ L TL, S W0 m w L TL := let ⟨_, _, _, _, h, _⟩ := hM; ⟨_, _, h⟩
theorem acc_drop {c b : Ty} (A : Acc G c b) {cs : List Value} {o : Nat} {xx : c.den G} (h : (c.kd G).R m ((cs.drop o).take (c.kd G).sz) xx) : (b.kd G).R m ((cs.drop (o + A.off)).take (b.kd G).sz) (A.get xx) := A.fld.R_drop h
theorem loadA_ok (hE : EnvD δ n a l) (hM : MemS G W0 L0 T0 Ls Ts m z w) (hx : evl l x = some u) (hp : p.Rel G P m z u) : GivesS G P m z (loadA Γ (lvOf Ls) t p) ⟨some d, .load t x, ty, pos, aft, g⟩ a w := by
 unfold loadA
 split
 ·rename_i I _
  split
  ·rename_i b xx
   split
   ·rename_i hb
    subst hb
    obtain ⟨L, TL, hS⟩ := hM.any
    exact .pv ((st_loadM hE hS I.ok hx hp).imp fun _ _ h => ⟨h.1, h.2, trivial⟩)
   ·exact .none
  ·rename_i i
   split
   ·rename_i c' x0 hB
    split
    ·rename_i hb
     subst hb
     obtain ⟨L, TL, p', cs, j, hS, g1, g2, g3⟩ := hM.get hB
     obtain ⟨p'', g4, rfl⟩ := hp
     rw [g1] at g4; injection g4 with g4; subst g4
     exact .pv ((st_loadL hE hS I.ok hx g2 (R_whole g3)).imp fun _ _ h => ⟨h.1, h.2, trivial⟩)
    ·exact .none
   ·exact .none
  ·rename_i i c b A
   split
   ·rename_i hb
    subst hb
    split
    ·rename_i c' x0 hB
     split
     ·rename_i x1 hc
      obtain ⟨e, hc⟩ := castTy_some hc
      subst e; subst hc
      obtain ⟨L, TL, p', cs, j, hS, g1, g2, g3⟩ := hM.get hB
      obtain ⟨p'', g4, rfl⟩ := hp
      rw [g1] at g4; injection g4 with g4; subst g4
      have := acc_drop A (o := 0) (R_whole g3)
      rw [Nat.zero_add] at this
      exact .pv ((st_loadL hE hS I.ok hx g2 this).imp fun _ _ h => ⟨h.1, h.2, trivial⟩)
     ·exact .none
    ·exact .none
   ·exact .none
  ·rename_i i j c b A
   split
   ·rename_i hb
    subst hb
    split
    ·rename_i c' nn xs hB
     split
     ·rename_i ys hc
      obtain ⟨e, hc⟩ := castTy_some hc
      injection e with e
      subst e; subst hc
      refine .pb fun xx hxx => ?_
      obtain ⟨L, TL, p', cs, j', hS, g1, g2, g3⟩ := hM.get hB
      obtain ⟨p'', g4, rfl⟩ := hp
      rw [g1] at g4; injection g4 with g4; subst g4
      exact (st_loadL hE hS I.ok hx g2 (acc_drop A (GS.elem g3.1 hxx))).imp fun _ _ h => ⟨h.1, h.2, trivial⟩
     ·exact .none
    ·exact .none
   ·exact .none
  ·exact .none
 ·exact .none
theorem fieldA_ok {s f : Nat} (hE : EnvD δ n a l) (hx : evl l x = some u) (hp : p.Rel G P m z u) : GivesS G P m z (fieldA Γ (lvOf Ls) s f p) ⟨some d, .fieldAddr s x f, ty, pos, aft, g⟩ a w := by
 unfold fieldA
 split
 ·rename_i F _
  split
  ·rename_i t0 v0
   split
   ·rename_i x1 hc
    obtain ⟨e, hc⟩ := castTy_some hc
    subst e; subst hc
    exact .pv (st_fieldM hE F.ok F.A.fld hx hp)
   ·exact .none
  ·rename_i i
   split
   ·split
    ·obtain ⟨p', g1, rfl⟩ := hp
     exact .run (r_fieldL hE F.ok hx) ⟨p', g1, by rw [Nat.zero_add]⟩
    ·exact .none
   ·exact .none
  ·rename_i i c b A
   split
   ·rename_i hb
    subst hb
    obtain ⟨p', g1, rfl⟩ := hp
    exact .run (r_fieldL hE F.ok hx) ⟨p', g1, rfl⟩
   ·exact .none
  ·rename_i i j c b A
   split
   ·rename_i hb
    subst hb
    obtain ⟨p', g1, rfl⟩ := hp
    exact .run (r_fieldL hE F.ok hx) ⟨p', g1, by show _ = _; simp only [Acc.comp, Nat.add_assoc]⟩
   ·exact .none
  ·exact .none
 ·exact .none
theorem indexA_ok (hE : EnvD δ n a l) (hM : MemS G W0 L0 T0 Ls Ts m z w) (hx : evl l x = some u) (hy : evl l y = some v) (hp : p.Rel G P m z u) (hq : q.Rel G P m z v) : GivesS G P m z (indexA Γ (lvOf Ls) t p q) ⟨some d, .indexAddr t x y, ty, pos, aft, g⟩ a w := by
 unfold indexA
 split
 ·rename_i k q' hi
  obtain ⟨rfl, _⟩ := AV.i_rel hi hq
  split
  ·rename_i i
   split
   ·rename_i R c nn xs _ hB
    split
    ·rename_i h1
     obtain ⟨rfl, rfl⟩ := h1
     refine .pb fun j hj => ?_
     obtain ⟨L, TL, p', cs, j', hS, g1, g2, g3⟩ := hM.get hB
     obtain ⟨p'', g4, rfl⟩ := hp
     rw [g1] at g4; injection g4 with g4; subst g4
     exact (r_indexA (k := R.t.kd G) hE hx hy R.hu R.hs g3.2 hj rfl).step ⟨rfl, p', g1, rfl⟩
    ·exact .none
   ·exact .none
  ·rename_i i
   split
   ·rename_i I c nn xs _ hB
    split
    ·rename_i h1
     refine .pb fun j hj => ?_
     obtain ⟨L, TL, p', cs, j', hS, g1, g2, g3⟩ := hM.get hB
     obtain ⟨p'', g4, rfl⟩ := hp
     rw [g1] at g4; injection g4 with g4; subst g4
     exact (r_indexG hE hx hy (I.sl h1).hu (I.sl h1).hs g3.1 hj rfl).step ⟨rfl, p', g1, rfl⟩
    ·exact .none
   ·exact .none
  ·split
   ·rename_i I _
    split
    ·rename_i c hT
     split
     ·rename_i xs h3
      have hv := AV.as_rel h3 hp
      exact .pb fun xx hxx => st_index (k := c.kd G) hE hx hy (I.sl hT).hu (I.sl hT).hs hv hxx
     ·exact .none
    ·exact .none
   ·exact .none
 ·exact .none
theorem indexS_ok (hE : EnvD δ n a l) (hx : evl l x = some u) (hy : evl l y = some v) (hp : p.Rel G P m z u) (hq : q.Rel G P m z v) : GivesS G P m z (indexS Γ t p q) ⟨some d, .index t x y, ty, pos, aft, g⟩ a w := by
 unfold indexS
 split
 ·rename_i I s k q' _ h1 h2
  obtain ⟨rfl, _⟩ := AV.i_rel h2 hq
  obtain ⟨rfl, h3, _⟩ := AV.s_rel h1 hp
  split
  ·rename_i hT
   exact .pb fun c hc => (r_indexS hE hx hy (TI.str hT) h3 hc).step ⟨rfl, rel_int (inR_byte h3 hc)⟩
  ·exact .none
 ·exact .none
def OkO (G : Sg) (P : Program) (l : List (Nat × Value)) (m : M) (z : Cz) : Option Operand → Option (Option (AV G)) → Prop
 | none, none => True
 | some o, some av => ∀ b, av = some b → ∃ v, evl l o = some v ∧ b.Rel G P m z v
 | _, _ => False
theorem bound_ok {o : Option Operand} {lv : Option (Option (AV G))} {dflt e : Int} : OkO G P l m z o lv → bnd dflt lv = some e → match o with | some o => ∃ kk, evl l o = some (.int kk e) | none => e = dflt := by
 intro h he
 cases o with
 | none =>
  cases lv with
  | none => injection he with he; exact he.symm
  | some _ => exact h.elim
 | some o =>
  cases lv with
  | none => exact h.elim
  | some av =>
   cases av with
   | none => cases he
   | some b =>
    obtain ⟨v, g1, g2⟩ := h b rfl
    cases hb : b.i? with
    | none => simp [bnd, hb] at he
    | some r =>
     simp [bnd, hb] at he
     obtain ⟨rfl, _⟩ := AV.i_rel (k := r.1) (x := r.2) hb g2
     exact ⟨r.1, by rw [g1, he]⟩
theorem sliceA_ok {lo hi : Option Operand} {lv hv : Option (Option (AV G))} (hE : EnvD δ n a l) (hx : evl l x = some u) (hp : p.Rel G P m z u)
  (hlo : OkO G P l m z lo lv)
  (hhi : OkO G P l m z hi hv) :
  GivesS G P m z (sliceA Γ t p lv hv) ⟨some d, .slice t x lo hi none, ty, pos, aft, g⟩ a w := by
 unfold sliceA
 split
 ·rename_i I _
  split
  ·rename_i c hT
   split
   ·rename_i xs h3
    have hV := AV.as_rel h3 hp
    split
    ·rename_i lo' hi' e1 e2
     refine .pb fun ys hys => ?_
     have k1 := bound_ok hlo e1
     have k2 := bound_ok hhi e2
     exact (st_slice (k := c.kd G) hE hx (I.sl hT).hu (I.sl hT).hs hV k1 k2 hys).imp fun _ _ h => ⟨h.1, h.2, trivial⟩
    ·exact .none
   ·exact .none
  ·exact .none
 ·exact .none
theorem partsA_ok {s : Nat} {B : BI P G s} {l : List (Nat × Value)} : ∀ {ps : List (Nat × Operand)} {x0 xx : G.α s} {σ : Operand → Option (AV G)}, (∀ p ∈ ps, ∀ b, σ p.2 = some b → ∃ v, evl l p.2 = some v ∧ b.Rel G P m z v) →
  partsA Γ s B.pl (ps.map fun p => (p.1, σ p.2)) x0 = some xx → ∃ pv, ps.mapM (fun p => (evl l p.2).map fun v => (p.1, v)) = some pv ∧ Parts (B.pl.toArray[·]?) (G.k s) m pv x0 xx
 | [], x0, xx, σ, _, h => by
  simp only [List.map_nil, partsA, Option.some.injEq] at h
  subst h
  exact ⟨[], rfl, .nil⟩
 | (f, o) :: ps, x0, xx, σ, hr, h => by
  simp only [List.map_cons] at h
  cases hs : σ o with
  | none => simp [hs, partsA] at h
  | some b =>
   rw [hs] at h
   unfold partsA at h
   split at h
   ·rename_i F _
    split at h
    ·rename_i y hy
     split at h
     ·rename_i q hq
      split at h
      ·rename_i he
       obtain ⟨v, g1, g2⟩ := hr (f, o) (by simp) b hs
       obtain ⟨pv, k1, k2⟩ := partsA_ok (fun p hp => hr p (by simp [hp])) h
       refine ⟨(f, v) :: pv, by simp [g1, k1], ?_⟩
       refine .cons (off := F.A.off) ?_ F.A.stf (AV.as_rel hy g2) k2
       show B.pl.toArray[f]? = _
       rw [List.getElem?_toArray, hq, ← he.1, ← he.2]
      ·cases h
     ·cases h
    ·cases h
   ·cases h
theorem buildA_ok {ps : Array (Nat × Operand)} {σ : Operand → Option (AV G)} (hE : EnvD δ n a l) (hr : ∀ p ∈ ps.toList, ∀ b, σ p.2 = some b → ∃ v, evl l p.2 = some v ∧ b.Rel G P m z v) :
  GivesS G P m z (buildA Γ t (ps.toList.map fun p => (p.1, σ p.2))) ⟨some d, .build t ps, ty, pos, aft, g⟩ a w := by
 unfold buildA
 split
 ·rename_i B _
  split
  ·rename_i xx hxx
   obtain ⟨pvs, k1, k2⟩ := partsA_ok hr hxx
   exact .pv ((st_build hE k1 B.hu B.hpl B.hz B.hzR B.agg k2).imp fun _ _ h => ⟨h.1, h.2, trivial⟩)
  ·exact .none
 ·exact .none
theorem lenA_ok (hE : EnvD δ n a l) (hM : MemS G W0 L0 T0 Ls Ts m z w) (hx : evl l x = some u) (hp : p.Rel G P m z u) : GivesS G P m z (lenA Γ (lvOf Ls) t p) ⟨some d, .call ⟨.builtin .len, #[x], #[t]⟩, ty, pos, aft, g⟩ a w := by
 unfold lenA
 split
 ·rename_i I _
  split
  ·rename_i hT
   split
   ·rename_i s hs
    obtain ⟨rfl, h1, h2⟩ := AV.s_rel hs hp
    exact .run (r_lenStr hE hx rfl (TI.str hT)) (rel_int (inR_len h2))
   ·exact .none
  ·rename_i c hT
   split
   ·have hv : u = .slice none 0 0 := hp
    subst hv
    exact .run (r_lenSl (k := c.kd G) (m := m) (xs := []) hE hx rfl (I.sl hT).hu RV_nil) ⟨rfl, inR_lit (by decide)⟩
   ·rename_i i
    split
    ·rename_i c' nn xs hB
     split
     ·rename_i hc
      subst hc
      obtain ⟨L, TL, p', cs, j', hS, g1, g2, g3⟩ := hM.get hB
      obtain ⟨p'', g4, rfl⟩ := hp
      rw [g1] at g4; injection g4 with g4; subst g4
      exact .run (r_lenG hE hx rfl (I.sl hT).hu g3.1) (rel_int (inR_len (GS.len g3.1)))
     ·exact .none
    ·exact .none
   ·split
    ·rename_i xs h3
     have hV := AV.as_rel h3 hp
     exact .run (r_lenSl (k := c.kd G) hE hx rfl (I.sl hT).hu hV) (rel_int (inR_len (RV_len hV)))
    ·exact .none
  ·exact .none
 ·exact .none
theorem mmA_ok {mx : Bool} {ts : Array TypeId} (hE : EnvD δ n a l) (hx : evl l x = some u) (hy : evl l y = some v) (hp : p.Rel G P m z u) (hq : q.Rel G P m z v) : GivesS G P m z (mmA mx p q) ⟨some d, .call ⟨.builtin (match mx with | true => .max | false => .min), #[x, y], ts⟩, ty, pos, aft, g⟩ a w := by
 unfold mmA
 split
 ·rename_i k p' k' q' h1 h2
  obtain ⟨rfl, h3⟩ := AV.i_rel h1 hp
  obtain ⟨rfl, h4⟩ := AV.i_rel h2 hq
  split
  ·rename_i e
   subst e
   cases mx with
   | true => exact .run (r_max2 hE hx hy) (rel_int (inR_max h3 h4))
   | false => exact .run (r_min2 hE hx hy) (rel_int (inR_min h3 h4))
  ·exact .none
 ·exact .none
end
end Go.Proofs.YthbonoagbeilkaaGreat.Hay
namespace Go.Proofs.YthbonoagbeilkaaGreat.Hay
section
variable {G : Sg} {P : Program} {δ : List Nat} {n : Nat} {a : Act} {m : M} {z : Cz} {w : World} {ty : TypeId} {d : Nat} {pos : String} {aft : Array Edge} {g : Option (Nat × Bool)} {Γ : Tab P G}
 {W0 : Bse} {L0 : Rs} {T0 : List (Nat × Value)} {Ls : List (Nat × BC G)} {Ts : List Nat} {ρ : Operand → Option (EV G)}
theorem av_rel (hρ : ∀ x e, ρ x = some e → e.Rel G P m z (a.eval x)) {x : Operand} {b : AV G} (h : av? (ρ x) = some b) : b.Rel G P m z (a.eval x) := by
 cases hx : ρ x with
 | none => simp [hx, av?] at h
 | some e =>
  cases e with
  | one v =>
   simp only [hx, av?, Option.some.injEq] at h
   subst h
   exact hρ x _ hx
  | tup vs => simp [hx, av?] at h
theorem relL_get {asv : List (AV G)} {vs : List Value} (h : RelL G P m z asv vs) {i : Nat} {b : AV G} (hb : asv[i]? = some b) : ∃ v, vs[i]? = some v ∧ b.Rel G P m z v := by
 induction asv generalizing vs i with
 | nil => simp at hb
 | cons x asv ih =>
  cases vs with
  | nil => exact h.elim
  | cons v vs =>
   cases i with
   | zero => simp at hb; subst hb; exact ⟨v, rfl, h.1⟩
   | succ i => simp at hb; obtain ⟨v', g1, g2⟩ := ih h.2 hb; exact ⟨v', by simpa using g1, g2⟩
theorem pure_ok {o : Op} (hd : a.defers = δ.map fun D => { target := .collected D, args := #[] }) (hs : a.tmps.size = n) (hM : MemS G W0 L0 T0 Ls Ts m z w) (hρ : ∀ x e, ρ x = some e → e.Rel G P m z (a.eval x)) :
  GivesS G P m z (pureOp Γ ρ (lvOf Ls) o) ⟨some d, o, ty, pos, aft, g⟩ a w := by
 unfold pureOp
 split
 ·rename_i x
  obtain ⟨l, hE, hl⟩ := opEnv hd hs [x]
  split
  ·rename_i e he; exact .pe ((r_move hE (hl x (by simp))).step ⟨rfl, hρ _ _ he⟩)
  ·exact .none
 ·rename_i x
  obtain ⟨l, hE, hl⟩ := opEnv hd hs [x]
  split
  ·rename_i e he; exact .pe ((r_assign hE (hl x (by simp))).step ⟨rfl, hρ _ _ he⟩)
  ·exact .none
 ·rename_i c x y
  obtain ⟨l, hE, hl⟩ := opEnv hd hs [c, x, y]
  split
  ·rename_i ca hc
   split
   ·rename_i b hb
    have hv := AV.b_rel hb (av_rel hρ hc)
    have hc' := hl c (by simp)
    rw [hv] at hc'
    split
    ·split
     ·rename_i e he; exact .pe ((r_pickT hE hc' rfl (hl x (by simp))).step ⟨rfl, hρ _ _ he⟩)
     ·exact .none
    ·split
     ·rename_i e he; exact .pe ((r_pickF hE hc' rfl (hl y (by simp))).step ⟨rfl, hρ _ _ he⟩)
     ·exact .none
   ·exact .none
  ·exact .none
 ·rename_i x
  obtain ⟨l, hE, hl⟩ := opEnv hd hs [x]
  have hx := hl x (by simp)
  split
  ·rename_i t v h1
   have hr := av_rel hρ h1
   obtain ⟨b, o, hv, hR⟩ := hr
   rw [hv] at hx
   exact .run (r_nilCheck hE hx) ⟨b, o, rfl, hR⟩
  ·rename_i h1
   obtain ⟨p, hp, hv⟩ := av_rel hρ h1
   rw [hv] at hx
   exact .run (r_nilCheck hE hx) ⟨p, hp, rfl⟩
  ·rename_i h1
   obtain ⟨p, hp, hv⟩ := av_rel hρ h1
   rw [hv] at hx
   exact .run (r_nilCheck hE hx) ⟨p, hp, rfl⟩
  ·rename_i h1
   obtain ⟨p, hp, hv⟩ := av_rel hρ h1
   rw [hv] at hx
   exact .run (r_nilCheck hE hx) ⟨p, hp, rfl⟩
  ·exact .none
 ·rename_i x y _
  obtain ⟨l, hE, hl⟩ := opEnv hd hs [x, y]
  split
  ·rename_i h1 h2
   exact binA_ok hE (hl x (by simp)) (hl y (by simp)) (av_rel hρ h1) (av_rel hρ h2)
  ·exact .none
 ·rename_i x
  obtain ⟨l, hE, hl⟩ := opEnv hd hs [x]
  split
  ·rename_i h1; exact unA_ok hE (hl x (by simp)) (av_rel hρ h1)
  ·exact .none
 ·rename_i x
  obtain ⟨l, hE, hl⟩ := opEnv hd hs [x]
  split
  ·rename_i h1
   obtain ⟨L, TL, hS⟩ := hM.any
   exact convA_ok hE hS (hl x (by simp)) (av_rel hρ h1)
  ·exact .none
 ·rename_i x i
  obtain ⟨l, hE, hl⟩ := opEnv hd hs [x]
  have hx := hl x (by simp)
  split
  ·rename_i vs h1
   split
   ·rename_i v hv
    obtain ⟨us, hu, hR⟩ := hρ _ _ h1
    obtain ⟨u, g1, g2⟩ := relL_get hR hv
    rw [hu] at hx
    exact .run (r_extract hE hx (by simpa using g1)) g2
   ·exact .none
  ·exact .none
 ·rename_i x
  obtain ⟨l, hE, hl⟩ := opEnv hd hs [x]
  split
  ·rename_i h1; exact loadA_ok hE hM (hl x (by simp)) (av_rel hρ h1)
  ·exact .none
 ·rename_i x _
  obtain ⟨l, hE, hl⟩ := opEnv hd hs [x]
  split
  ·rename_i h1; exact fieldA_ok hE (hl x (by simp)) (av_rel hρ h1)
  ·exact .none
 ·rename_i x y
  obtain ⟨l, hE, hl⟩ := opEnv hd hs [x, y]
  split
  ·rename_i h1 h2; exact indexA_ok hE hM (hl x (by simp)) (hl y (by simp)) (av_rel hρ h1) (av_rel hρ h2)
  ·exact .none
 ·rename_i x y
  obtain ⟨l, hE, hl⟩ := opEnv hd hs [x, y]
  split
  ·rename_i h1 h2; exact indexS_ok hE (hl x (by simp)) (hl y (by simp)) (av_rel hρ h1) (av_rel hρ h2)
  ·exact .none
 ·rename_i x lo hi
  obtain ⟨l, hE, hl⟩ := opEnv hd hs (x :: (lo.toList ++ hi.toList))
  split
  ·rename_i h1
   refine sliceA_ok hE (hl x (by simp)) (av_rel hρ h1) ?_ ?_
   ·cases lo with
    | none => trivial
    | some o => exact fun b hb => ⟨_, hl o (by simp), av_rel hρ hb⟩
   ·cases hi with
    | none => trivial
    | some o => exact fun b hb => ⟨_, hl o (by simp), av_rel hρ hb⟩
  ·exact .none
 ·rename_i t ps
  obtain ⟨l, hE, hl⟩ := opEnv hd hs (ps.toList.map (·.2))
  exact buildA_ok (σ := fun x => av? (ρ x)) hE fun p hp b hb => ⟨_, hl p.2 (List.mem_map_of_mem hp), av_rel hρ hb⟩
 ·rename_i x t
  obtain ⟨l, hE, hl⟩ := opEnv hd hs [x]
  split
  ·rename_i h1; exact lenA_ok hE hM (hl x (by simp)) (av_rel hρ h1)
  ·exact .none
 ·rename_i x y _
  obtain ⟨l, hE, hl⟩ := opEnv hd hs [x, y]
  split
  ·rename_i h1 h2; exact mmA_ok (mx := true) hE (hl x (by simp)) (hl y (by simp)) (av_rel hρ h1) (av_rel hρ h2)
  ·exact .none
 ·rename_i x y _
  obtain ⟨l, hE, hl⟩ := opEnv hd hs [x, y]
  split
  ·rename_i h1 h2; exact mmA_ok (mx := false) hE (hl x (by simp)) (hl y (by simp)) (av_rel hρ h1) (av_rel hρ h2)
  ·exact .none
 ·exact .none
end
end Go.Proofs.YthbonoagbeilkaaGreat.Hay
namespace Go.Proofs.YthbonoagbeilkaaGreat.Hay
section
variable {W0 : Bse} {m : M} {w : World} {L : List (Nat × List Value)} {TL : List (Nat × Value)}
theorem S.takeL (h : S W0 m w L TL) {i : Nat} {e : Nat × List Value} (hi : L[i]? = some e) : S W0 m w (e :: L.set i (e.1, [])) TL := by
 have key : ∀ (j : Nat) (x : Nat × List Value), (e :: L.set i (e.1, []))[j]? = some x → x.2 ≠ [] → ∃ k, L[k]? = some x ∧ (j = 0 ∧ k = i ∨ j = k + 1 ∧ k ≠ i) := by
  intro j x hx hv
  cases j with
  | zero => simp at hx; subst hx; exact ⟨i, hi, .inl ⟨rfl, rfl⟩⟩
  | succ j =>
   simp only [List.getElem?_cons_succ, List.getElem?_set] at hx
   split at hx
   ·split at hx
    ·injection hx with hx; subst hx; exact absurd rfl hv
    ·cases hx
   ·rename_i hne; exact ⟨j, hx, .inr ⟨rfl, fun e => hne e.symm⟩⟩
 refine ⟨h.below, h.imm, fun j x hx hv => ?_, fun j k x y hx hy hjk hv hv' => ?_, h.tails, h.apart⟩
 ·obtain ⟨k, hk, _⟩ := key j x hx hv; exact h.own k x hk hv
 ·obtain ⟨j', hj, h1⟩ := key j x hx hv
  obtain ⟨k', hk, h2⟩ := key k y hy hv'
  exact h.nodup j' k' x y hj hk (by omega) hv hv'
theorem S.putL {e : Nat × List Value} (h : S W0 m w (e :: L) TL) {i b : Nat} (_hi : L[i]? = some (b, [])) : S W0 m w (L.set i e) TL := by
 have key : ∀ (j : Nat) (x : Nat × List Value), (L.set i e)[j]? = some x → x.2 ≠ [] → ∃ k, (e :: L)[k]? = some x ∧ (j = i ∧ k = 0 ∨ j ≠ i ∧ k = j + 1) := by
  intro j x hx hv
  rw [List.getElem?_set] at hx
  split at hx
  ·rename_i hij
   split at hx
   ·injection hx with hx; subst hx; exact ⟨0, rfl, .inl ⟨hij.symm, rfl⟩⟩
   ·cases hx
  ·rename_i hij; exact ⟨j + 1, by simpa using hx, .inr ⟨fun e => hij e.symm, rfl⟩⟩
 refine ⟨h.below, h.imm, fun j x hx hv => ?_, fun j k x y hx hy hjk hv hv' => ?_, h.tails, h.apart⟩
 ·obtain ⟨k, hk, _⟩ := key j x hx hv; exact h.own k x hk hv
 ·obtain ⟨j', hj, h1⟩ := key j x hx hv
  obtain ⟨k', hk, h2⟩ := key k y hy hv'
  exact h.nodup j' k' x y hj hk (by omega) hv hv'
theorem S.takeT (h : S W0 m w L TL) {i : Nat} {e : Nat × Value} (hi : TL[i]? = some e) : S W0 m w L (e :: TL.set i (e.1, .slice none 0 0)) := by
 have key : ∀ (j : Nat) (x : Nat × Value), (e :: TL.set i (e.1, .slice none 0 0))[j]? = some x → x.2 = .slice none 0 0 ∨ ∃ k, TL[k]? = some x ∧ (j = 0 ∧ k = i ∨ j = k + 1 ∧ k ≠ i) := by
  intro j x hx
  cases j with
  | zero => simp at hx; subst hx; exact .inr ⟨i, hi, .inl ⟨rfl, rfl⟩⟩
  | succ j =>
   simp only [List.getElem?_cons_succ, List.getElem?_set] at hx
   split at hx
   ·split at hx
    ·injection hx with hx; subst hx; exact .inl rfl
    ·cases hx
   ·rename_i hne; exact .inr ⟨j, hx, .inr ⟨rfl, fun e => hne e.symm⟩⟩
 refine ⟨h.below, h.imm, h.own, h.nodup, fun j x hx => ?_, fun j k x y hx hy hjk => ?_⟩
 ·rcases key j x hx with hx | ⟨k, hk, _⟩
  ·obtain ⟨s, v⟩ := x; simp only at hx; subst hx; trivial
  ·exact h.tails k x hk
 ·rcases key j x hx with hx | ⟨j', hj, h1⟩
  ·intro b hb; rw [hx] at hb; simp [sblk] at hb
  ·rcases key k y hy with hy | ⟨k', hk, h2⟩
   ·intro b hb; rw [hy]; simp [sblk]
   ·exact h.apart j' k' x y hj hk (by omega)
end
def DenTs (G : Sg) : List Ty → Type
 | [] => Unit
 | [t] => t.den G
 | t :: t' :: ts => t.den G × DenTs G (t' :: ts)
def hdT (G : Sg) (t : Ty) : (ts : List Ty) → DenTs G (t :: ts) → t.den G
 | [], x => x
 | _ :: _, x => x.1
def tlT (G : Sg) (t : Ty) : (ts : List Ty) → DenTs G (t :: ts) → DenTs G ts
 | [], _ => ()
 | _ :: _, x => x.2
def mkT (G : Sg) (t : Ty) : (ts : List Ty) → t.den G → DenTs G ts → DenTs G (t :: ts)
 | [], x, _ => x
 | _ :: _, x, y => (x, y)
theorem hd_mk {G : Sg} {t : Ty} : ∀ {ts : List Ty} {x : t.den G} {y : DenTs G ts}, hdT G t ts (mkT G t ts x y) = x
 | [], _, _ => rfl
 | _ :: _, _, _ => rfl
theorem tl_mk {G : Sg} {t : Ty} : ∀ {ts : List Ty} {x : t.den G} {y : DenTs G ts}, tlT G t ts (mkT G t ts x y) = y
 | [], _, _ => rfl
 | _ :: _, _, _ => rfl
inductive Pm where
 | rd (u : Ty)
 | ap (u : Ty)
 | pt (u : Ty)
 | ow (u : Ty)
 | f1 (a b : Ty)
 | f2 (a c b : Ty)
inductive Rm where
 | rd (u : Ty)
 | ap (u : Ty)
 | ow (u : Ty)
def Pm.den (G : Sg) : Pm → Type
 | .rd t => t.den G
 | .ap t => List (t.den G)
 | .pt t => t.den G
 | .ow t => List (t.den G)
 | .f1 a b => a.den G → Option (b.den G)
 | .f2 a c b => a.den G → c.den G → Option (b.den G)
def DenPs (G : Sg) : List Pm → Type
 | [] => Unit
 | p :: ps => p.den G × DenPs G ps
def Pm.out : Pm → Option Ty
 | .pt t => some t
 | .ow t => some (.sl t)
 | _ => none
def Rm.ty : Rm → Ty
 | .rd t => t
 | .ap t => .sl t
 | .ow t => .sl t
def PRel (G : Sg) (P : Program) (m : M) : (ps : List Pm) → List Value → DenPs G ps → List (Nat × List Value) → List (Nat × Value) → Prop
 | [], [], _, [], [] => True
 | .rd t :: ps, v :: vs, x, Lp, Tp => RV (t.kd G) m v x.1 ∧ PRel G P m ps vs x.2 Lp Tp
 | .ap t :: ps, v :: vs, x, Lp, e :: Tp => RV (kSl (t.kd G)) m v x.1 ∧ e = ((t.kd G).sz, v) ∧ PRel G P m ps vs x.2 Lp Tp
 | .pt t :: ps, v :: vs, x, e :: Lp, Tp => (t.kd G).R m e.2 x.1 ∧ v = .pointer (some ⟨e.1, 0, none⟩) ∧ PRel G P m ps vs x.2 Lp Tp
 | .ow t :: ps, v :: vs, x, e :: Lp, Tp => GS (t.kd G) m e.1 e.2 v x.1 ∧ PRel G P m ps vs x.2 Lp Tp
 | .f1 a b :: ps, v :: vs, x, Lp, Tp => Fn1 P (a.kd G) (b.kd G) m v x.1 ∧ PRel G P m ps vs x.2 Lp Tp
 | .f2 a c b :: ps, v :: vs, x, Lp, Tp => Fn2 P (a.kd G) (c.kd G) (b.kd G) m v x.1 ∧ PRel G P m ps vs x.2 Lp Tp
 | _, _, _, _, _ => False
def ORel (G : Sg) (m : M) : (ps : List Pm) → List Value → DenTs G (ps.filterMap Pm.out) → List (Nat × List Value) → List (Nat × List Value) → Prop
 | [], _, _, [], [] => True
 | .pt t :: ps, _ :: vs, x, e :: Lp, e' :: Lp' => e'.1 = e.1 ∧ (t.kd G).R m e'.2 (hdT G t (ps.filterMap Pm.out) x) ∧ ORel G m ps vs (tlT G t (ps.filterMap Pm.out) x) Lp Lp'
 | .ow t :: ps, v :: vs, x, e :: Lp, e' :: Lp' => e'.1 = e.1 ∧ GS (t.kd G) m e'.1 e'.2 v (hdT G (.sl t) (ps.filterMap Pm.out) x) ∧ ORel G m ps vs (tlT G (.sl t) (ps.filterMap Pm.out) x) Lp Lp'
 | .rd _ :: ps, _ :: vs, x, Lp, Lp' => ORel G m ps vs x Lp Lp'
 | .ap _ :: ps, _ :: vs, x, Lp, Lp' => ORel G m ps vs x Lp Lp'
 | .f1 _ _ :: ps, _ :: vs, x, Lp, Lp' => ORel G m ps vs x Lp Lp'
 | .f2 _ _ _ :: ps, _ :: vs, x, Lp, Lp' => ORel G m ps vs x Lp Lp'
 | _, _, _, _, _ => False
def RRel (G : Sg) (m : M) (os : List Ty) : (rs : List Rm) → List Value → DenTs G (rs.map Rm.ty ++ os) → List (Nat × List Value) → List (Nat × Value) → Prop
 | [], [], _, [], [] => True
 | .rd t :: rs, v :: vs, x, Lr, Tr => RV (t.kd G) m v (hdT G t (rs.map Rm.ty ++ os) x) ∧ RRel G m os rs vs (tlT G t (rs.map Rm.ty ++ os) x) Lr Tr
 | .ap t :: rs, v :: vs, x, Lr, e :: Tr => RV (kSl (t.kd G)) m v (hdT G (.sl t) (rs.map Rm.ty ++ os) x) ∧ e = ((t.kd G).sz, v) ∧ RRel G m os rs vs (tlT G (.sl t) (rs.map Rm.ty ++ os) x) Lr Tr
 | .ow t :: rs, v :: vs, x, e :: Lr, Tr => GS (t.kd G) m e.1 e.2 v (hdT G (.sl t) (rs.map Rm.ty ++ os) x) ∧ RRel G m os rs vs (tlT G (.sl t) (rs.map Rm.ty ++ os) x) Lr Tr
 | _, _, _, _, _ => False
def rest (G : Sg) (os : List Ty) : (rs : List Rm) → DenTs G (rs.map Rm.ty ++ os) → DenTs G os
 | [], x => x
 | r :: rs, x => rest G os rs (tlT G r.ty (rs.map Rm.ty ++ os) x)
abbrev Outs (ps : List Pm) (rs : List Rm) : List Ty := rs.map Rm.ty ++ ps.filterMap Pm.out
def Ctr (G : Sg) (P : Program) (f : FuncId) (ps : List Pm) (rs : List Rm) (g : DenPs G ps → Option (DenTs G (Outs ps rs))) : Prop :=
 ∀ (W0 : Bse) (m : M) (w : World) (L : List (Nat × List Value)) (TL : List (Nat × Value)) (vs : List Value) (x : DenPs G ps) (r : DenTs G (Outs ps rs)) (Lp : List (Nat × List Value)) (Tp : List (Nat × Value)),
  S W0 m w (Lp ++ L) (Tp ++ TL) → PRel G P m ps vs x Lp Tp → g x = some r →
  Calls P f vs.toArray w (Ret fun v w' => ∃ (m' : M) (us : List Value) (Lr Lp' : List (Nat × List Value)) (Tr : List (Nat × Value)), M.le m m' ∧ S W0 m' w' (Lr ++ (Lp' ++ L)) (Tr ++ TL) ∧ v = tup us ∧ RRel G m' (ps.filterMap Pm.out) rs us r Lr Tr ∧ ORel G m' ps vs (rest G (ps.filterMap Pm.out) rs r) Lp Lp')
structure CS (P : Program) (G : Sg) where
 f : FuncId
 ps : List Pm
 rs : List Rm
 g : DenPs G ps → Option (DenTs G (Outs ps rs))
 ok : Ctr G P f ps rs g
 hc : ∀ vs w, (callFunc f vs).run P w = .ok (.enter f vs) w
end Go.Proofs.YthbonoagbeilkaaGreat.Hay
set_option linter.unusedVariables false
namespace Go.Proofs.YthbonoagbeilkaaGreat.Hay
section
variable {G : Sg} {P : Program}
def rmk {α : Type} : List (Nat × α) → Nat → List (Nat × α)
  | [], _ => []
  | (q, x) :: l, d => if Nat.beq q d then rmk l d else (q, x) :: rmk l d
theorem mem_rmk {α : Type} {l : List (Nat × α)} {d : Nat} {e : Nat × α} (h : e ∈ rmk l d) : e ∈ l ∧ e.1 ≠ d := by
  induction l with
  | nil => cases h
  | cons x l ih =>
    obtain ⟨q, x⟩ := x
    simp only [rmk] at h
    split at h
    · have := ih h; exact ⟨by simp [this.1], this.2⟩
    · rename_i hq
      rcases List.mem_cons.1 h with h | h
      · subst h
        exact ⟨by simp, fun e => by subst e; simp at hq⟩
      · have := ih h; exact ⟨by simp [this.1], this.2⟩
def St.put (st : St G) (d : Nat) (e : EV G) : St G := { st with env := (d, st.c, e) :: rmk st.env d }
def St.push (st : St G) (B : BC G) : St G := { st with L := (st.c, B) :: st.L }
def St.setB (st : St G) (i : Nat) (B : BC G) : St G := { st with L := sb st.L i (st.c, B) }
def strL (s : ByteArray) : List Int := s.data.toList.map fun b => (b.toNat : Int)
def cAV : Value → Option (AV G)
  | .int k n => if k.wrap n = n then some (.li k n) else none
  | .bool b => some (db b)
  | .string s => if Nat.ble (strL s).length maxSz then some (.dat .str (strL s) none) else none
  | .slice none 0 0 => some .nils
  | .agg cs => some (.agc cs.toList)
  | _ => none
theorem strL_bts (s : ByteArray) : bts (strL s) = s := by
  cases s with
  | mk d =>
    unfold bts strL
    congr 1
    apply Array.ext'
    simp [List.map_map, Function.comp_def]
theorem strL_bd (s : ByteArray) : ∀ n ∈ strL s, 0 ≤ n ∧ n < 256 := by
  intro n hn
  unfold strL at hn
  obtain ⟨b, _, rfl⟩ := List.mem_map.1 hn
  have := b.toNat_lt
  omega
theorem cAV_rel {v : Value} {b : AV G} {m : M} {z : Cz} (h : cAV v = some b) : b.Rel G P m z v := by
  unfold cAV at h
  split at h
  · split at h
    · rename_i hk; injection h with h; subst h; exact ⟨rfl, hk⟩
    · cases h
  · injection h with h; subst h; exact rel_bool
  · rename_i s
    split at h
    · rename_i hk
      injection h with h; subst h
      refine ⟨?_, trivial⟩
      have := RV_of_str (m := m) (strL_bd s) (Nat.le_of_ble_eq_true hk)
      rw [strL_bts] at this
      exact this
    · cases h
  · injection h with h; subst h; rfl
  · rename_i cs
    injection h with h; subst h
    show _ = _
    simp
  · cases h
def St.op (st : St G) : Operand → Option (EV G)
  | .tmp t => (match lke st.env t with | some e => some e.2 | none => none)
  | .const v => (match cAV v with | some b => some (.one b) | none => none)
  | _ => none
theorem lke_mem {α : Type} {l : List (Nat × α)} {q : Nat} {x : α} (h : lke l q = some x) : (q, x) ∈ l := by
  induction l with
  | nil => cases h
  | cons e l ih =>
    obtain ⟨j, y⟩ := e
    simp only [lke] at h
    split at h
    · rename_i hq
      have := Nat.eq_of_beq_eq_true hq
      injection h with h
      subst this; subst h; simp
    · simp [ih h]
def EnvR (G : Sg) (P : Program) (m : M) (z : Cz) (env : List (Nat × Nat × EV G)) (a : Act) : Prop := ∀ e ∈ env, e.2.2.Rel G P m z (a.tmps.getD e.1 undef)
theorem op_rel {st : St G} {a : Act} {m : M} {z : Cz} (h : EnvR G P m z st.env a) : ∀ x e, st.op x = some e → e.Rel G P m z (a.eval x) := by
  intro x e hx
  cases x with
  | tmp t =>
    simp only [St.op] at hx
    split at hx
    · rename_i e' he
      injection hx with hx; subst hx
      exact h _ (lke_mem he)
    · cases hx
  | const v =>
    simp only [St.op] at hx
    split at hx
    · rename_i b hb
      injection hx with hx; subst hx
      exact cAV_rel hb
    · cases hx
  | _ => simp [St.op] at hx
structure Sat (G : Sg) (P : Program) (δ : List Nat) (n : Nat) (W0 : Bse) (L0 : Rs) (T0 : List (Nat × Value)) (m0 : M) (st : St G) (a : Act) (w : World) : Prop where
  ex : ∃ m z, M.le m0 m ∧ EnvR G P m z st.env a ∧ MemS G W0 L0 T0 st.L st.T m z w
  df : a.defers = δ.map fun D => { target := .collected D, args := #[] }
  sz : a.tmps.size = n
structure Ext (k0 : Nat) (st st' : St G) : Prop where
  env : ∀ k, k < k0 → ∀ e ∈ st'.env, e.2.1 ≤ k → ∃ lv, lv ≤ k ∧ (e.1, lv, e.2.2) ∈ st.env
  blk : ∀ k, k < k0 → ∀ i s B, fb st'.L i = some (s, B) → s ≤ k → ∃ s', s' ≤ k ∧ fb st.L i = some (s', B)
theorem Ext.refl (k0 : Nat) (st : St G) : Ext k0 st st := ⟨fun k _ e he hl => ⟨e.2.1, hl, he⟩, fun k _ i s B h hs => ⟨s, hs, h⟩⟩
theorem Ext.trans {k0 : Nat} {a b c : St G} (h : Ext k0 a b) (k : Ext k0 b c) : Ext k0 a c :=
  ⟨fun q hq e he hl => by
    obtain ⟨lv, h1, h2⟩ := k.env q hq e he hl
    exact h.env q hq (e.1, lv, e.2.2) h2 h1,
   fun q hq i s B hb hs => by
    obtain ⟨s', h1, h2⟩ := k.blk q hq i s B hb hs
    exact h.blk q hq i s' B h2 h1⟩
theorem Ext.le {k0 k1 : Nat} {a b : St G} (h : Ext k0 a b) (hk : k1 ≤ k0) : Ext k1 a b := ⟨fun q hq => h.env q (by omega), fun q hq => h.blk q (by omega)⟩
theorem Ext.put {st : St G} {d : Nat} {e : EV G} : Ext st.c st (st.put d e) :=
  ⟨fun k hk x hx hl => by
    rcases List.mem_cons.1 hx with rfl | hx
    · simp only at hl; omega
    · exact ⟨x.2.1, hl, (mem_rmk hx).1⟩, fun k hk i s B h hs => ⟨s, hs, h⟩⟩
theorem fb_lt {α : Type} {l : List α} {i : Nat} {y : α} (h : fb l i = some y) : i < l.length := by
  induction l with
  | nil => simp [fb] at h
  | cons a l ih =>
    simp only [fb] at h
    split at h
    · rename_i e
      have := Nat.eq_of_beq_eq_true e
      simp; omega
    · have := ih h; simp; omega
theorem fb_push {α : Type} {l : List α} {x y : α} {i : Nat} (h : fb (x :: l) i = some y) : (i = l.length ∧ x = y) ∨ fb l i = some y := by
  simp only [fb] at h
  split at h
  · rename_i e
    injection h with h
    exact .inl ⟨Nat.eq_of_beq_eq_true e, h⟩
  · exact .inr h
theorem fb_sb {α : Type} {l : List α} {i j : Nat} {x y : α} (h : fb (sb l i x) j = some y) : (j = i ∧ x = y) ∨ (j ≠ i ∧ fb l j = some y) := by
  by_cases e : i = j
  · subst e
    cases hl : fb l i with
    | none =>
      exfalso
      have hlen : (sb l i x).length = l.length := by
        clear h hl
        induction l with
        | nil => rfl
        | cons a l ih => simp only [sb]; split <;> simp [ih]
      have h1 := fb_lt h
      rw [hlen] at h1
      have : ∀ {l : List α} {i : Nat}, i < l.length → fb l i ≠ none := by
        intro l
        induction l with
        | nil => intro i h; simp at h
        | cons a l ih =>
          intro i h hn
          simp only [fb] at hn
          split at hn
          · cases hn
          · rename_i hb
            have : i ≠ l.length := fun e => by subst e; simp at hb
            simp at h
            exact ih (by omega) hn
      exact this h1 hl
    | some y' =>
      rw [fb_sb_eq hl] at h
      injection h with h
      exact .inl ⟨rfl, h⟩
  · rw [fb_sb_ne e] at h
    exact .inr ⟨fun x => e x.symm, h⟩
theorem Ext.push {st : St G} {B : BC G} : Ext st.c st (st.push B) :=
  ⟨fun k hk x hx hl => ⟨x.2.1, hl, hx⟩, fun k hk i s B' h hs => by
    rcases fb_push h with ⟨_, h1⟩ | h
    · injection h1 with h1 _; omega
    · exact ⟨s, hs, h⟩⟩
theorem Ext.setB {st : St G} {i : Nat} {B : BC G} : Ext st.c st (st.setB i B) :=
  ⟨fun k hk x hx hl => ⟨x.2.1, hl, hx⟩, fun k hk j s B' h hs => by
    rcases fb_sb h with ⟨_, h1⟩ | ⟨_, h⟩
    · injection h1 with h1 _; omega
    · exact ⟨s, hs, h⟩⟩
structure Zle (z z' : Cz) : Prop where
  b : ∀ i p, fb z.b i = some p → fb z'.b i = some p
  t : ∀ j v, fb z.t j = some v → fb z'.t j = some v
theorem Zle.refl (z : Cz) : Zle z z := ⟨fun _ _ h => h, fun _ _ h => h⟩
theorem AV.Rel.z {m : M} {z z' : Cz} {b : AV G} {v : Value} (h : b.Rel G P m z v) (hz : Zle z z') : b.Rel G P m z' v := by
  cases b with
  | dat t x o =>
    refine ⟨h.1, ?_⟩
    cases o with
    | none => trivial
    | some j => exact hz.t j v h.2
  | loc i a b A => obtain ⟨p, h1, h2⟩ := h; exact ⟨p, hz.b _ _ h1, h2⟩
  | elp i j a b A => obtain ⟨p, h1, h2⟩ := h; exact ⟨p, hz.b _ _ h1, h2⟩
  | blk i => obtain ⟨p, h1, h2⟩ := h; exact ⟨p, hz.b _ _ h1, h2⟩
  | own i => obtain ⟨p, h1, h2⟩ := h; exact ⟨p, hz.b _ _ h1, h2⟩
  | _ => exact h
theorem EV.Rel.z {m : M} {z z' : Cz} {e : EV G} {v : Value} (h : e.Rel G P m z v) (hz : Zle z z') : e.Rel G P m z' v := by
  cases e with
  | one b => exact AV.Rel.z h hz
  | tup asv =>
    obtain ⟨vs, h1, h2⟩ := h
    refine ⟨vs, h1, ?_⟩
    clear h1
    induction asv generalizing vs with
    | nil => cases vs <;> exact h2
    | cons a asv ih =>
      cases vs with
      | nil => exact h2
      | cons v vs => exact ⟨h2.1.z hz, ih vs h2.2⟩
theorem EnvR.z {m m' : M} {z z' : Cz} {env : List (Nat × Nat × EV G)} {a : Act} (h : EnvR G P m z env a) (hm : M.le m m') (hz : Zle z z') : EnvR G P m' z' env a := fun e he => ((h e he).mono hm).z hz
theorem EnvR.put {m : M} {z : Cz} {env : List (Nat × Nat × EV G)} {a : Act} {n d lv : Nat} {e : EV G} {v : Value} (h : EnvR G P m z env a) (hs : a.tmps.size = n) (hd : Nat.blt d n = true) (hv : e.Rel G P m z v) : EnvR G P m z ((d, lv, e) :: rmk env d) (a.put (some d) v) := by
  have hd' : d < n := Nat.le_of_ble_eq_true hd
  intro x hx
  rcases List.mem_cons.1 hx with rfl | hx
  · simpa [Act.put, hs, hd'] using hv
  · obtain ⟨h1, h2⟩ := mem_rmk hx
    have := h x h1
    have hne : d ≠ x.1 := fun e => h2 e.symm
    simpa [Act.put, Array.getElem?_setIfInBounds_ne hne] using this
theorem sb_self {α : Type} {l : List α} {i : Nat} {x : α} (h : fb l i = some x) : sb l i x = l := by
  induction l with
  | nil => simp [fb] at h
  | cons a l ih =>
    simp only [fb] at h
    simp only [sb]
    split at h
    · rename_i e; injection h with h; subst h; simp [e]
    · rename_i e; simp [e, ih h]
end
end Go.Proofs.YthbonoagbeilkaaGreat.Hay
set_option linter.unusedVariables false
namespace Go.Proofs.YthbonoagbeilkaaGreat.Hay
structure Res2 (G : Sg) where
 β : Type
 mv : Option β
 k : β → St G
section
variable {G : Sg} {P : Program}
def AV.tagged (j : Nat) : AV G → Bool
 | .dat _ _ (some i) => Nat.beq i j
 | _ => false
def AV.er : AV G → AV G
 | .dat t x _ => .dat t x none
 | b => b
def EV.tagged (j : Nat) : EV G → Bool
 | .one b => b.tagged j
 | .tup asv => asv.any (AV.tagged j)
def EV.er : EV G → EV G
 | .one b => .one b.er
 | .tup asv => .tup (asv.map AV.er)
def erEnv (j c : Nat) (env : List (Nat × Nat × EV G)) : List (Nat × Nat × EV G) := env.map fun e => if e.2.2.tagged j then (e.1, c, e.2.2.er) else e
def nx (m : Nat) (by_ : Nat) : Nat := m / (if by_ = 0 then 1 else by_)
theorem nx_le (m by_ : Nat) : nx m by_ * by_ ≤ m ∧ nx m by_ ≤ m := by
 unfold nx
 split
 ·rename_i h; subst h; simp
 ·exact ⟨Nat.div_mul_le_self _ _, Nat.div_le_self _ _⟩
def two47 : Nat := 140737488355328
def two48 : Nat := 281474976710656
def TI.sl? {i : TypeId} : TI P G i → Option (Sigma fun c : Ty => SlI P G i c)
 | ⟨.sl c, _, u, _, _, _, _⟩ => some ⟨c, u⟩
 | _ => none
def AV.own? : AV G → Option Nat
 | .own i => some i
 | _ => none
def srcS (Γ : Tab P G) (Lv : Nat → Option (BC G)) (c : Ty) (q : AV G) : Option (List (c.den G)) :=
 match q.own? with
 | some i => (match Lv i with | some (.arr c' _ xs) => castTy G (.sl c') (.sl c) xs | _ => none)
 | none => q.as Γ (.sl c)
def srcA (Γ : Tab P G) (Lv : Nat → Option (BC G)) (c T2 : Ty) (q : AV G) : Option (List (c.den G)) :=
 match T2 with
 | .str => (match q.s? with | some s => castTy G (.sl (.int .u8)) (.sl c) s | none => none)
 | .sl _ => srcS Γ Lv c q
 | _ => none
def litA (Γ : Tab P G) (c : Ty) : List (Nat × Option (AV G)) → Nat → Option (List (c.den G))
 | [], _ => some []
 | (i, some b) :: r, k => if i = k then (match b.as Γ c, litA Γ c r (k + 1) with | some x, some xs => some (x :: xs) | _, _ => none) else none
 | _, _ => none
def sameO : Operand → Operand → Bool
 | .tmp i, .tmp j => Nat.beq i j
 | .const (.int k i), .const (.int k' j) => decide (i = j)
 | _, _ => false
def two {β : Type} (mv : Option β) (k : β → St G) : Option (Res2 G) := some ⟨β, mv, k⟩
def one2 (s : St G) : Option (Res2 G) := some ⟨Unit, some (), fun _ => s⟩
def allocT (Γ : Tab P G) (st : St G) (t : TypeId) (d : Nat) : Option (Res2 G) :=
 match Γ.ar t with
 | some R => one2 ((st.push (.arr R.t (some R.n) (List.replicate R.n R.z))).put d (.one (.blk st.L.length)))
 | none => (match Γ.ty t with
  | some I => one2 ((st.push (.dat I.T I.z)).put d (.one (.blk st.L.length)))
  | none => none)
def boxT (Γ : Tab P G) (st : St G) (t : TypeId) (x : Operand) (d : Nat) : Option (Res2 G) :=
 match Γ.ty t, av? (st.op x) with
 | some I, some b => (match b.as Γ I.T with
  | some y => one2 ((st.push (.dat I.T y)).put d (.one (.blk st.L.length)))
  | none => none)
 | _, _ => none
def storeT (Γ : Tab P G) (st : St G) (t : TypeId) (x y : Operand) : Option (Res2 G) :=
 match Γ.ty t, av? (st.op x), av? (st.op y) with
 | some I, some p, some q => (match q.as Γ I.T with
  | some v => (match p with
   | .blk i => (match lvOf st.L i with
    | some (.dat c x0) => if c = I.T then one2 (st.setB i (.dat I.T v)) else none
    | _ => none)
   | .loc i c b A => (match lvOf st.L i with
    | some (.dat c' x0) => (match castTy G c' c x0, castTy G I.T b v with
     | some x1, some v => one2 (st.setB i (.dat c (A.set x1 v)))
     | _, _ => none)
    | _ => none)
   | .elp i j c b A => (match lvOf st.L i with
    | some (.arr c' n xs) => (match castTy G (.sl c') (.sl c) xs, castTy G I.T b v with
     | some ys, some v => two (getL (α := c.den G) ys j) fun x1 => st.setB i (.arr c n (List.set (α := c.den G) ys j (A.set x1 v)))
     | _, _ => none)
    | _ => none)
   | _ => none)
  | none => none)
 | _, _, _ => none
def litT (Γ : Tab P G) (st : St G) (t : TypeId) (len : Nat) (ps : Array (Nat × Operand)) (d : Nat) : Option (Res2 G) :=
 match Γ.ty t with
 | some I => (match I.sl? with
  | some ⟨c, _⟩ => (match litA Γ c (ps.toList.map fun p => (p.1, av? (st.op p.2))) 0 with
   | some xs => if ps.toList.length = len ∧ Nat.ble (len * (c.kd G).sz) 16777216 = true then one2 ({ st with T := (c.kd G).sz :: st.T }.put d (.one (.dat (.sl c) xs (some st.T.length)))) else none
   | none => none)
  | none => none)
 | none => none
def appT (Γ : Tab P G) (st : St G) (t t2 : TypeId) (x y : Operand) (d : Nat) : Option (Res2 G) :=
 match Γ.ty t, Γ.ty t2, av? (st.op x), av? (st.op y) with
 | some I, some I2, some p, some q => (match I.sl? with
  | some ⟨c, B⟩ => (match srcA Γ (lvOf st.L) c I2.T q with
   | some ys => (match p with
    | .nils => two (app (nx two47 B.by_) ([] : List (c.den G)) ys) fun zs => { st with T := (c.kd G).sz :: st.T }.put d (.one (.dat (.sl c) zs (some st.T.length)))
    | .dat t' xs (some j) => (match castTy G t' (.sl c) xs with
     | some xs => if fb st.T j = some (c.kd G).sz then two (app (α := c.den G) (nx two47 B.by_) xs ys) fun zs => { st with env := erEnv j st.c st.env }.put d (.one (.dat (.sl c) zs (some j))) else none
     | none => none)
    | _ => none)
   | none => none)
  | none => none)
 | _, _, _, _ => none
def makeT (Γ : Tab P G) (st : St G) (t : TypeId) (x y : Operand) (d : Nat) : Option (Res2 G) :=
 match Γ.ty t, av? (st.op x), av? (st.op y) with
 | some I, some p, some q => (match I.sl?, p.i?, q.i? with
  | some ⟨c, B⟩, some (_, i), some (_, _) => if sameO x y = true then two (mk (nx two48 B.by_) i B.z) fun zs => (st.push (.arr c none zs)).put d (.one (.own st.L.length)) else none
  | _, _, _ => none)
 | _, _, _ => none
def copyT (Γ : Tab P G) (st : St G) (t : TypeId) (x y : Operand) (d : Nat) : Option (Res2 G) :=
 match Γ.ty t, av? (st.op x), av? (st.op y) with
 | some I, some (.own i), some q => (match I.sl?, lvOf st.L i with
  | some ⟨c, B⟩, some (.arr c' n xs) => (match castTy G (.sl c') (.sl c) xs, q.as Γ (.sl c) with
   | some xs, some ys => one2 ((st.setB i (.arr c n (cpy (α := c.den G) xs ys))).put d (.one (di .i64 ((min (List.length (α := c.den G) ys) (List.length (α := c.den G) xs) : Nat) : Int))))
   | _, _ => none)
  | _, _ => none)
 | _, _, _ => none
def turnOp (Γ : Tab P G) (st : St G) : Op → Option Nat → Option (Res2 G)
 | .alloc t, some d => allocT Γ st t d
 | .box t x, some d => boxT Γ st t x d
 | .store t x y, none => storeT Γ st t x y
 | .buildSlice t len ps, some d => litT Γ st t len ps d
 | .call ⟨.builtin .append, ⟨[x, y]⟩, ⟨[t, t2]⟩⟩, some d => appT Γ st t t2 x y d
 | .call ⟨.builtin .copy, ⟨[x, y]⟩, ⟨[t, _]⟩⟩, some d => copyT Γ st t x y d
 | .makeSlice t x y, some d => makeT Γ st t x y d
 | _, _ => none
end
end Go.Proofs.YthbonoagbeilkaaGreat.Hay
set_option linter.unusedVariables false
namespace Go.Proofs.YthbonoagbeilkaaGreat.Hay
section
variable {G : Sg} {P : Program} {δ : List Nat} {n : Nat} {W0 : Bse} {L0 : Rs} {T0 : List (Nat × Value)} {m0 : M} {st : St G} {a : Act} {w : World} {Γ : Tab P G} {ty t t2 : TypeId} {d : Nat} {pos : String} {aft : Array Edge} {g : Option (Nat × Bool)} {x y : Operand} {o : Oper}
def TG (G : Sg) (P : Program) (δ : List Nat) (n : Nat) (W0 : Bse) (L0 : Rs) (T0 : List (Nat × Value)) (m0 : M) (st : St G) (r : Option (Res2 G)) (o : Oper) (a : Act) (w : World) : Prop :=
 ∀ R b, r = some R → R.mv = some b → Step P o a w (fun v w' => Sat G P δ n W0 L0 T0 m0 (R.k b) (a.put o.dst v) w' ∧ Ext st.c st (R.k b) ∧ (R.k b).c = st.c)
theorem TG.none : TG G P δ n W0 L0 T0 m0 st none o a w := fun R b hr => by cases hr
theorem TG.one {s : St G} (h : Step P o a w (fun v w' => Sat G P δ n W0 L0 T0 m0 s (a.put o.dst v) w' ∧ Ext st.c st s ∧ s.c = st.c)) : TG G P δ n W0 L0 T0 m0 st (one2 s) o a w := fun R b hr hb => by
 injection hr with hr; subst hr; exact h
theorem TG.two {β : Type} {mv : Option β} {k : β → St G} (h : ∀ b, mv = some b → Step P o a w (fun v w' => Sat G P δ n W0 L0 T0 m0 (k b) (a.put o.dst v) w' ∧ Ext st.c st (k b) ∧ (k b).c = st.c)) : TG G P δ n W0 L0 T0 m0 st (two mv k) o a w := fun R b hr hb => by
 injection hr with hr; subst hr; exact h b hb
theorem Sat.of {env : List (Nat × Nat × EV G)} {L : List (Nat × BC G)} {T : List Nat} {c : Nat} {m m' : M} {z : Cz} {e : EV G} {v : Value} {w' : World} (h0 : M.le m0 m) (hm : M.le m m') (hr : EnvR G P m' z env a) (hv : e.Rel G P m' z v) (hM : MemS G W0 L0 T0 L T m' z w')
  (hd : Nat.blt d n = true) (hdf : a.defers = δ.map fun D => { target := .collected D, args := #[] }) (hs : a.tmps.size = n) : Sat G P δ n W0 L0 T0 m0 (St.put ⟨env, c, L, T⟩ d e) (a.put (some d) v) w' :=
 ⟨⟨m', z, h0.trans hm, hr.put hs hd hv, hM⟩, by simp [Act.put, hdf], by simp [Act.put, hs]⟩
theorem Sat.of0 {env : List (Nat × Nat × EV G)} {L : List (Nat × BC G)} {T : List Nat} {c : Nat} {m m' : M} {z : Cz} {v : Value} {w' : World} (h0 : M.le m0 m) (hm : M.le m m') (hr : EnvR G P m' z env a) (hM : MemS G W0 L0 T0 L T m' z w')
  (hdf : a.defers = δ.map fun D => { target := .collected D, args := #[] }) (hs : a.tmps.size = n) : Sat G P δ n W0 L0 T0 m0 ⟨env, c, L, T⟩ (a.put none v) w' :=
 ⟨⟨m', z, h0.trans hm, hr, hM⟩, hdf, hs⟩
theorem Zle.pushB (z : Cz) (p : Nat × Value) : Zle z ⟨p :: z.b, z.t⟩ := ⟨fun _ _ h => fb_cons h, fun _ _ h => h⟩
theorem Zle.pushT (z : Cz) (v : Value) : Zle z ⟨z.b, v :: z.t⟩ := ⟨fun _ _ h => h, fun _ _ h => fb_cons h⟩
theorem fb_top {α : Type} {x : α} {l : List α} : fb (x :: l) l.length = some x := by
 simp [fb]
theorem MemS.len {Ls : List (Nat × BC G)} {Ts : List Nat} {m : M} {z : Cz} (h : MemS G W0 L0 T0 Ls Ts m z w) : z.b.length = Ls.length ∧ z.t.length = Ts.length := by
 obtain ⟨Lc, Tc, h1, h2, _⟩ := h
 exact ⟨h1.len.1, h2.len.1⟩
theorem MemS.push {Ls : List (Nat × BC G)} {Ts : List Nat} {m : M} {z : Cz} {w' : World} {Lc : List (Nat × List Value)} {Tc : List (Nat × Value)} {b : Nat} {cs : List Value} {sv : Value} {s : Nat} {B : BC G} (h1 : LR G m Ls z.b Lc) (h2 : TRl Ts z.t Tc)
  (hS : S W0 m w' ((b, cs) :: (Lc ++ L0.l)) (Tc ++ T0)) (hsf : Sfx z.b L0.nm) (hB : B.Rel G m (b, sv) cs) : MemS G W0 L0 T0 ((s, B) :: Ls) Ts m ⟨(b, sv) :: z.b, z.t⟩ w' :=
 ⟨(b, cs) :: Lc, Tc, ⟨rfl, hB, h1⟩, h2, hS, hsf.cons⟩
theorem Ext.push_put {B : BC G} {e : EV G} : Ext st.c st ((st.push B).put d e) := Ext.push.trans (Ext.put (st := st.push B))
theorem Ext.envL {st st' : St G} (h1 : st'.env = st.env) (h2 : st'.L = st.L) : Ext st.c st st' := by
 refine ⟨fun k _ e he hl => ⟨e.2.1, hl, ?_⟩, fun k _ i s B hb hs => ⟨s, hs, ?_⟩⟩
 ·rw [h1] at he; exact he
 ·rw [h2] at hb; exact hb
theorem allocT_ok (hs : Sat G P δ n W0 L0 T0 m0 st a w) (hd : Nat.blt d n = true) : TG G P δ n W0 L0 T0 m0 st (allocT Γ st t d) ⟨some d, .alloc t, ty, pos, aft, g⟩ a w := by
 obtain ⟨⟨m, z, h0, hr, hM⟩, hdf, hsz⟩ := hs
 have hlen := hM.len
 obtain ⟨Lc, Tc, h1, h2, hS, hsf⟩ := hM
 unfold allocT
 split
 ·rename_i R _
  refine .one ((st_alloc hS R.hz R.hzc).imp fun v w' hq => ?_)
  obtain ⟨b, rfl, hS'⟩ := hq
  have hB : (BC.arr R.t (some R.n) (List.replicate R.n R.z)).Rel G m (b, .slice (some ⟨b, 0, none⟩) R.n R.n) (List.replicate R.n R.c).flatten := ⟨GS.zero R.hzR R.hn, by simp⟩
  exact ⟨Sat.of h0 (M.le.refl m) (hr.z (M.le.refl m) (Zle.pushB z _)) ⟨_, by rw [← hlen.1]; exact fb_top, rfl⟩ (MemS.push h1 h2 hS' hsf hB) hd hdf hsz, Ext.push_put, rfl⟩
 ·split
  ·rename_i I _
   refine .one ((st_alloc hS I.hz (cs := I.zv.cells.toList) (by simp)).imp fun v w' hq => ?_)
   obtain ⟨b, rfl, hS'⟩ := hq
   have hB : (BC.dat I.T I.z).Rel G m (b, undef) I.zv.cells.toList := I.hzR m
   exact ⟨Sat.of h0 (M.le.refl m) (hr.z (M.le.refl m) (Zle.pushB z _)) ⟨_, by rw [← hlen.1]; exact fb_top, rfl⟩ (MemS.push h1 h2 hS' hsf hB) hd hdf hsz, Ext.push_put, rfl⟩
  ·exact .none
theorem boxT_ok (hs : Sat G P δ n W0 L0 T0 m0 st a w) (hd : Nat.blt d n = true) : TG G P δ n W0 L0 T0 m0 st (boxT Γ st t x d) ⟨some d, .box t x, ty, pos, aft, g⟩ a w := by
 obtain ⟨⟨m, z, h0, hr, hM⟩, hdf, hsz⟩ := hs
 have hlen := hM.len
 obtain ⟨Lc, Tc, h1, h2, hS, hsf⟩ := hM
 unfold boxT
 split
 ·rename_i I b _ hx
  split
  ·rename_i y hy
   obtain ⟨l, hE, hl⟩ := opEnv hdf hsz [x]
   have hv := AV.as_rel hy (av_rel (op_rel hr) hx)
   refine .one ((st_box hE hS (hl x (by simp)) hv).imp fun v w' hq => ?_)
   obtain ⟨b, cs, rfl, hc, hS'⟩ := hq
   have hB : (BC.dat I.T y).Rel G m (b, undef) cs := hc
   exact ⟨Sat.of h0 (M.le.refl m) (hr.z (M.le.refl m) (Zle.pushB z _)) ⟨_, by rw [← hlen.1]; exact fb_top, rfl⟩ (MemS.push h1 h2 hS' hsf hB) hd hdf hsz, Ext.push_put, rfl⟩
  ·exact .none
 ·exact .none
theorem set_app {α : Type} {l l0 : List α} {j : Nat} {x y : α} (h : l[j]? = some y) : (l ++ l0).set j x = l.set j x ++ l0 := by
 have : j < l.length := (List.getElem?_eq_some_iff.1 h).1
 rw [List.set_append_left _ _ this]
theorem get_app {α : Type} {l l0 : List α} {j : Nat} {y : α} (h : l[j]? = some y) : (l ++ l0)[j]? = some y := by
 have : j < l.length := (List.getElem?_eq_some_iff.1 h).1
 rw [List.getElem?_append_left this]; exact h
theorem storeT_ok (hs : Sat G P δ n W0 L0 T0 m0 st a w) : TG G P δ n W0 L0 T0 m0 st (storeT Γ st t x y) ⟨none, .store t x y, ty, pos, aft, g⟩ a w := by
 obtain ⟨⟨m, z, h0, hr, hM⟩, hdf, hsz⟩ := hs
 obtain ⟨Lc, Tc, h1, h2, hS, hsf⟩ := hM
 unfold storeT
 split
 ·rename_i I p q _ hx hy
  obtain ⟨l, hE, hl⟩ := opEnv hdf hsz [x, y]
  have hxl := hl x (by simp)
  have hyl := hl y (by simp)
  have hp := av_rel (op_rel hr) hx
  split
  ·rename_i vv hv
   have hV := AV.as_rel hv (av_rel (op_rel hr) hy)
   split
   ·rename_i i
    split
    ·rename_i c x0 hB
     split
     ·rename_i hc
      subst hc
      obtain ⟨s, hs⟩ := lvOf_some hB
      obtain ⟨p', cs, j, g1, g2, g3, g4⟩ := h1.get hs
      obtain ⟨p'', g5, g6⟩ := hp
      rw [g1] at g5; injection g5 with g5; subst g5
      rw [g6] at hxl
      refine .one ((st_storeF hE hS I.ok StF_self hxl hyl hV (get_app g2) g3).imp fun v w' hq => ?_)
      obtain ⟨cs', hc', hS'⟩ := hq
      have hB' : (BC.dat I.T vv).Rel G m (p'.1, p'.2) cs' := hc'
      have := g4 (st.c, BC.dat I.T vv) p'.2 cs' hB'
      rw [sb_self g1] at this
      exact ⟨Sat.of0 h0 (M.le.refl m) hr ⟨_, Tc, this, h2, by rw [← set_app g2]; exact hS', hsf⟩ hdf hsz, Ext.setB, rfl⟩
     ·exact .none
    ·exact .none
   ·rename_i i c b A
    split
    ·rename_i c' x0 hB
     split
     ·rename_i x1 v1 e1 e2
      obtain ⟨e, e1⟩ := castTy_some e1
      subst e; subst e1
      obtain ⟨e, e2⟩ := castTy_some e2
      subst e; subst e2
      obtain ⟨s, hs⟩ := lvOf_some hB
      obtain ⟨p', cs, j, g1, g2, g3, g4⟩ := h1.get hs
      obtain ⟨p'', g5, g6⟩ := hp
      rw [g1] at g5; injection g5 with g5; subst g5
      rw [g6] at hxl
      refine .one ((st_storeF hE hS I.ok A.stf hxl hyl hV (get_app g2) g3).imp fun v w' hq => ?_)
      obtain ⟨cs', hc', hS'⟩ := hq
      have := g4 (st.c, BC.dat c' _) p'.2 cs' hc'
      rw [sb_self g1] at this
      exact ⟨Sat.of0 h0 (M.le.refl m) hr ⟨_, Tc, this, h2, by rw [← set_app g2]; exact hS', hsf⟩ hdf hsz, Ext.setB, rfl⟩
     ·exact .none
    ·exact .none
   ·rename_i i j c b A
    split
    ·rename_i c' nn xs hB
     split
     ·rename_i ys v1 e1 e2
      obtain ⟨e, e1⟩ := castTy_some e1
      injection e with e
      subst e; subst e1
      obtain ⟨e, e2⟩ := castTy_some e2
      subst e; subst e2
      refine .two fun x1 hx1 => ?_
      obtain ⟨s, hs⟩ := lvOf_some hB
      obtain ⟨p', cs, j', g1, g2, g3, g4⟩ := h1.get hs
      obtain ⟨p'', g5, g6⟩ := hp
      rw [g1] at g5; injection g5 with g5; subst g5
      rw [g6] at hxl
      refine (st_storeG hE hS I.ok A.stf g3.1 hx1 hxl hyl hV (get_app g2)).imp fun v w' hq => ?_
      obtain ⟨cs', hc', hS'⟩ := hq
      have hB' : (BC.arr c' nn (List.set (α := c'.den G) _ j (A.set x1 _))).Rel G m (p'.1, p'.2) cs' := ⟨hc', by
       have := g3.2
       cases nn with
       | none => trivial
       | some k => exact (List.length_set ..).trans this⟩
      have := g4 (st.c, _) p'.2 cs' hB'
      rw [sb_self g1] at this
      exact ⟨Sat.of0 h0 (M.le.refl m) hr ⟨_, Tc, this, h2, by rw [← set_app g2]; exact hS', hsf⟩ hdf hsz, Ext.setB, rfl⟩
     ·exact .none
    ·exact .none
   ·exact .none
  ·exact .none
 ·exact .none
theorem litA_ok {c : Ty} {l : List (Nat × Value)} {m : M} {z : Cz} : ∀ {ps : List (Nat × Operand)} {k : Nat} {xs : List (c.den G)} {σ : Operand → Option (AV G)}, (∀ p ∈ ps, ∀ b, σ p.2 = some b → ∃ v, evl l p.2 = some v ∧ b.Rel G P m z v) →
  litA Γ c (ps.map fun p => (p.1, σ p.2)) k = some xs → ∃ vs, ps.mapM (fun p => (evl l p.2).map fun v => (p.1, v)) = some (num k vs) ∧ RVl (c.kd G) m vs xs ∧ vs.length = ps.length
 | [], k, xs, σ, _, h => by
  simp only [List.map_nil, litA, Option.some.injEq] at h
  subst h
  exact ⟨[], rfl, trivial, rfl⟩
 | (i, o) :: ps, k, xs, σ, hr, h => by
  simp only [List.map_cons] at h
  cases hs : σ o with
  | none => simp [hs, litA] at h
  | some b =>
   rw [hs] at h
   unfold litA at h
   split at h
   ·rename_i hik
    subst hik
    split at h
    ·rename_i x xs' hx hxs
     injection h with h
     subst h
     obtain ⟨v, g1, g2⟩ := hr (i, o) (by simp) b hs
     obtain ⟨vs, k1, k2, k3⟩ := litA_ok (fun p hp => hr p (by simp [hp])) hxs
     exact ⟨v :: vs, by simp [g1, k1, num], ⟨AV.as_rel hx g2, k2⟩, by simp [k3]⟩
    ·cases h
   ·cases h
theorem litT_ok {len : Nat} {ps : Array (Nat × Operand)} (hs : Sat G P δ n W0 L0 T0 m0 st a w) (hd : Nat.blt d n = true) : TG G P δ n W0 L0 T0 m0 st (litT Γ st t len ps d) ⟨some d, .buildSlice t len ps, ty, pos, aft, g⟩ a w := by
 obtain ⟨⟨m, z, h0, hr, hM⟩, hdf, hsz⟩ := hs
 have hlen := hM.len
 obtain ⟨Lc, Tc, h1, h2, hS, hsf⟩ := hM
 unfold litT
 split
 ·split
  ·rename_i c B _
   split
   ·rename_i xs hxs
    split
    ·rename_i hc
     obtain ⟨l, hE, hl⟩ := opEnv hdf hsz (ps.toList.map (·.2))
     obtain ⟨vs, k1, k2, k3⟩ := litA_ok (σ := fun x => av? (st.op x)) (fun p hp b hb => ⟨_, hl p.2 (List.mem_map_of_mem hp), av_rel (op_rel hr) hb⟩) hxs
     refine .one ((st_lit hE hS k1 B.hu B.hs B.hz k2 (len := len) (by rw [k3]; exact hc.1) hc.2).imp fun v w' hq => ?_)
     obtain ⟨m', hm, hS', hv⟩ := hq
     refine ⟨Sat.of (z := ⟨z.b, v :: z.t⟩) h0 hm (hr.z hm (Zle.pushT z v)) ⟨hv, ?_⟩ ⟨Lc, ((c.kd G).sz, v) :: Tc, h1.mono hm, ⟨rfl, h2⟩, hS', hsf⟩ hd hdf hsz, (Ext.envL (st := st) (st' := { st with T := (c.kd G).sz :: st.T }) rfl rfl).trans (Ext.put (st := { st with T := (c.kd G).sz :: st.T })), rfl⟩
     show fb (v :: z.t) st.T.length = some v
     rw [← hlen.2]; exact fb_top
    ·exact .none
   ·exact .none
  ·exact .none
 ·exact .none
theorem AV.rel_app {b : AV G} {v u : Value} {j : Nat} {m : M} {z : Cz} (h : b.Rel G P m z v) : (b.tagged j = false → b.Rel G P m ⟨z.b, sb z.t j u⟩ v) ∧ b.er.Rel G P m ⟨z.b, sb z.t j u⟩ v := by
 cases b with
 | dat t x o =>
  refine ⟨fun hb => ⟨h.1, ?_⟩, ⟨h.1, trivial⟩⟩
  cases o with
  | none => trivial
  | some i =>
   have hne : j ≠ i := fun e => by subst e; simp [AV.tagged] at hb
   show fb (sb z.t j u) i = some v
   rw [fb_sb_ne hne]; exact h.2
 | _ => exact ⟨fun _ => h, h⟩
theorem relL_app {asv : List (AV G)} {vs : List Value} {u : Value} {j : Nat} {m : M} {z : Cz} (h : RelL G P m z asv vs) : (asv.any (AV.tagged j) = false → RelL G P m ⟨z.b, sb z.t j u⟩ asv vs) ∧ RelL G P m ⟨z.b, sb z.t j u⟩ (asv.map AV.er) vs := by
 induction asv generalizing vs with
 | nil => cases vs <;> exact ⟨fun _ => h, h⟩
 | cons b asv ih =>
  cases vs with
  | nil => exact h.elim
  | cons v vs =>
   have h1 := AV.rel_app (u := u) (j := j) h.1
   have h2 := ih h.2
   refine ⟨fun hb => ?_, ⟨h1.2, h2.2⟩⟩
   simp only [List.any_cons, Bool.or_eq_false_iff] at hb
   exact ⟨h1.1 hb.1, h2.1 hb.2⟩
theorem erEnv_rel {env : List (Nat × Nat × EV G)} {u : Value} {j c : Nat} {m : M} {z : Cz} (h : EnvR G P m z env a) : EnvR G P m ⟨z.b, sb z.t j u⟩ (erEnv j c env) a := by
 intro e he
 obtain ⟨e0, h0, rfl⟩ := List.mem_map.1 he
 have hr := h e0 h0
 split
 ·show (EV.er e0.2.2).Rel G P m _ (a.tmps.getD e0.1 undef)
  cases hb : e0.2.2 with
  | one b => rw [hb] at hr; exact (AV.rel_app hr).2
  | tup asv => rw [hb] at hr; obtain ⟨vs, k1, k2⟩ := hr; exact ⟨vs, k1, (relL_app k2).2⟩
 ·rename_i ht
  simp only [Bool.not_eq_true] at ht
  cases hb : e0.2.2 with
  | one b => rw [hb] at hr ht; exact (AV.rel_app hr).1 ht
  | tup asv => rw [hb] at hr ht; obtain ⟨vs, k1, k2⟩ := hr; exact ⟨vs, k1, (relL_app k2).1 ht⟩
theorem Ext.er {j : Nat} : Ext st.c st { st with env := erEnv j st.c st.env } :=
 ⟨fun k hk e he hl => by
  obtain ⟨e0, h0, rfl⟩ := List.mem_map.1 he
  split at hl
  ·simp only at hl; omega
  ·rename_i ht
   rw [if_neg ht]
   exact ⟨e0.2.1, hl, h0⟩, fun k _ i s B hb hs => ⟨s, hs, hb⟩⟩
theorem AV.own_eq {q : AV G} {i : Nat} (h : q.own? = some i) : q = .own i := by
 cases q <;> simp [AV.own?] at h
 rw [h]
theorem srcA_ok {c : Ty} {q : AV G} {ys : List (c.den G)} {m : M} {z : Cz} {v : Value} {Lc : List (Nat × List Value)} {TL : List (Nat × Value)} (h1 : LR G m st.L z.b Lc) (hS : S W0 m w (Lc ++ L0.l) TL) {I2 : TI P G t2}
  (hq : q.Rel G P m z v) (h : srcA Γ (lvOf st.L) c I2.T q = some ys) : SrcOK P (c.kd G) m w t2 v ys := by
 unfold srcA at h
 split at h
 ·rename_i hT
  split at h
  ·rename_i s hs
   obtain ⟨e, h⟩ := castTy_some h
   injection e with e
   subst e; subst h
   obtain ⟨rfl, k1, _⟩ := AV.s_rel hs hq
   exact src_str (TI.str hT) k1
  ·cases h
 ·rename_i c0 hT
  unfold srcS at h
  split at h
  ·rename_i i hi
   rw [AV.own_eq hi] at hq
   cases hB : lvOf st.L i with
   | none => simp [hB] at h
   | some B =>
    cases B with
    | arr c' nn xs =>
     simp only [hB] at h
     obtain ⟨e, h⟩ := castTy_some h
     injection e with e
     subst e; subst h
     obtain ⟨s, hs⟩ := lvOf_some hB
     obtain ⟨p', cs, j, g1, g2, g3, g4⟩ := h1.get hs
     obtain ⟨p'', g5, rfl⟩ := hq
     rw [g1] at g5; injection g5 with g5; subst g5
     exact src_own hS (I2.sl hT).hu (get_app g2) g3.1
    | _ => simp [hB] at h
  ·exact src_sl hS (I2.sl hT).hu (AV.as_rel h hq)
 ·cases h
theorem appT_ok (hs : Sat G P δ n W0 L0 T0 m0 st a w) (hd : Nat.blt d n = true) : TG G P δ n W0 L0 T0 m0 st (appT Γ st t t2 x y d) ⟨some d, .call ⟨.builtin .append, #[x, y], #[t, t2]⟩, ty, pos, aft, g⟩ a w := by
 obtain ⟨⟨m, z, h0, hr, hM⟩, hdf, hsz⟩ := hs
 have hlen := hM.len
 obtain ⟨Lc, Tc, h1, h2, hS, hsf⟩ := hM
 unfold appT
 split
 ·rename_i I I2 p q _ _ hx hy
  obtain ⟨l, hE, hl⟩ := opEnv hdf hsz [x, y]
  have hxl := hl x (by simp)
  have hyl := hl y (by simp)
  have hp := av_rel (op_rel hr) hx
  have hq := av_rel (op_rel hr) hy
  split
  ·rename_i c B _
   have hN : Nat.ble (nx two47 B.by_ * B.by_) 140737488355328 = true := Nat.ble_eq_true_of_le (nx_le two47 B.by_).1
   have hM : Nat.ble (nx two47 B.by_) 281474976710656 = true := Nat.ble_eq_true_of_le (Nat.le_trans (nx_le two47 B.by_).2 (by decide))
   split
   ·rename_i ys hys
    split
    ·refine .two fun zs hzs => ?_
     have hv : a.eval x = .slice none 0 0 := hp
     rw [hv] at hxl
     have hS0 := hS.tail0 (c.kd G).sz
     refine (st_appX hE hS0 hxl hyl B.hu B.hel (i := 0) rfl RV_nil (srcA_ok h1 hS hq hys) hzs hN hM).imp fun v w' hq => ?_
     obtain ⟨m', hm, hS', hv⟩ := hq
     refine ⟨Sat.of (z := ⟨z.b, v :: z.t⟩) h0 hm (hr.z hm (Zle.pushT z v)) ⟨hv, ?_⟩ ⟨Lc, ((c.kd G).sz, v) :: Tc, h1.mono hm, ⟨rfl, h2⟩, hS', hsf⟩ hd hdf hsz, (Ext.envL (st := st) (st' := { st with T := (c.kd G).sz :: st.T }) rfl rfl).trans (Ext.put (st := { st with T := (c.kd G).sz :: st.T })), rfl⟩
     show fb (v :: z.t) st.T.length = some v
     rw [← hlen.2]; exact fb_top
    ·rename_i t' xs0 j
     split
     ·rename_i xs hc
      obtain ⟨e, hc⟩ := castTy_some hc
      subst e; subst hc
      split
      ·rename_i hj
       refine .two fun zs hzs => ?_
       obtain ⟨i, k1, k2⟩ := h2.get hj hp.2
       refine (st_appX hE hS hxl hyl B.hu B.hel (get_app k1) hp.1 (srcA_ok h1 hS hq hys) hzs hN hM).imp fun v w' hq => ?_
       obtain ⟨m', hm, hS', hv⟩ := hq
       rw [set_app k1] at hS'
       have hr' := erEnv_rel (u := v) (j := j) (c := st.c) hr
       refine ⟨Sat.of (z := ⟨z.b, sb z.t j v⟩) h0 hm (fun e he => (hr' e he).mono hm) ⟨hv, fb_sb_eq hp.2⟩ ⟨Lc, _, h1.mono hm, k2 v, hS', hsf⟩ hd hdf hsz, Ext.er.trans (Ext.put (st := { st with env := erEnv j st.c st.env })), rfl⟩
      ·exact .none
     ·exact .none
    ·exact .none
   ·exact .none
  ·exact .none
 ·exact .none
theorem sameO_eq {x y : Operand} {l : List (Nat × Value)} {p q : AV G} {k k' : IntKind} {i i' : Int} {m : M} {z : Cz} (h : sameO x y = true) (hx : evl l x = some (.int k i)) (hy : evl l y = some (.int k' i')) : i = i' := by
 unfold sameO at h
 split at h
 ·have := Nat.eq_of_beq_eq_true h
  subst this
  rw [hx] at hy
  injection hy with hy; injection hy
 ·have h := of_decide_eq_true h
  subst h
  simp only [evl, Option.some.injEq, Value.int.injEq] at hx hy
  omega
 ·cases h
theorem makeT_ok (hs : Sat G P δ n W0 L0 T0 m0 st a w) (hd : Nat.blt d n = true) : TG G P δ n W0 L0 T0 m0 st (makeT Γ st t x y d) ⟨some d, .makeSlice t x y, ty, pos, aft, g⟩ a w := by
 obtain ⟨⟨m, z, h0, hr, hM⟩, hdf, hsz⟩ := hs
 have hlen := hM.len
 obtain ⟨Lc, Tc, h1, h2, hS, hsf⟩ := hM
 unfold makeT
 split
 ·rename_i I p q _ hx hy
  obtain ⟨l, hE, hl⟩ := opEnv hdf hsz [x, y]
  have hxl := hl x (by simp)
  have hyl := hl y (by simp)
  have hp := av_rel (op_rel hr) hx
  have hq := av_rel (op_rel hr) hy
  split
  ·rename_i c B k i k' i' _ e1 e2
   split
   ·rename_i hsame
    refine .two fun zs hzs => ?_
    rw [(AV.i_rel e1 hp).1] at hxl
    rw [(AV.i_rel e2 hq).1] at hyl
    have := sameO_eq (p := p) (q := q) (m := m) (z := z) hsame hxl hyl
    subst this
    refine (st_makeG (m := m) hE hS hxl hyl B.hu B.hi B.hiz B.hsz B.hby B.hzR hzs (Nat.ble_eq_true_of_le (nx_le two48 B.by_).1) (Nat.ble_eq_true_of_le (nx_le two48 B.by_).2)).imp fun v w' hq => ?_
    obtain ⟨b, cs, hg, hS'⟩ := hq
    have hB : (BC.arr c none zs).Rel G m (b, v) cs := ⟨hg, trivial⟩
    exact ⟨Sat.of h0 (M.le.refl m) (hr.z (M.le.refl m) (Zle.pushB z _)) ⟨_, by rw [← hlen.1]; exact fb_top, rfl⟩ (MemS.push h1 h2 hS' hsf hB) hd hdf hsz, Ext.push_put, rfl⟩
   ·exact .none
  ·exact .none
 ·exact .none
theorem copyT_ok (hs : Sat G P δ n W0 L0 T0 m0 st a w) (hd : Nat.blt d n = true) : TG G P δ n W0 L0 T0 m0 st (copyT Γ st t x y d) ⟨some d, .call ⟨.builtin .copy, #[x, y], #[t, t2]⟩, ty, pos, aft, g⟩ a w := by
 obtain ⟨⟨m, z, h0, hr, hM⟩, hdf, hsz⟩ := hs
 obtain ⟨Lc, Tc, h1, h2, hS, hsf⟩ := hM
 unfold copyT
 split
 ·rename_i I i q _ hx hy
  obtain ⟨l, hE, hl⟩ := opEnv hdf hsz [x, y]
  have hxl := hl x (by simp)
  have hyl := hl y (by simp)
  have hp := av_rel (op_rel hr) hx
  have hq := av_rel (op_rel hr) hy
  split
  ·rename_i c B c' nn xs0 _ hB
   split
   ·rename_i xs ys e1 e2
    obtain ⟨e, e1⟩ := castTy_some e1
    injection e with e
    subst e; subst e1
    obtain ⟨s, hs⟩ := lvOf_some hB
    obtain ⟨p', cs, j, g1, g2, g3, g4⟩ := h1.get hs
    obtain ⟨p'', g5, g6⟩ := hp
    rw [g1] at g5; injection g5 with g5; subst g5
    rw [g6] at hxl
    refine .one ((st_copyG hE hS hxl hyl B.hu B.hs (get_app g2) g3.1 (AV.as_rel e2 hq)).imp fun v w' hq => ?_)
    obtain ⟨rfl, cs', hc', hS'⟩ := hq
    have hB' : (BC.arr c' nn (cpy (α := c'.den G) _ ys)).Rel G m (p'.1, p'.2) cs' := ⟨hc', by
     have := g3.2
     cases nn with
     | none => trivial
     | some k =>
      have hh := GS.len_eq g3.1 hc'
      exact hh.trans this⟩
    have := g4 (st.c, _) p'.2 cs' hB'
    rw [sb_self g1] at this
    exact ⟨Sat.of h0 (M.le.refl m) hr (rel_int (P := P) (inR_len (Nat.le_trans (Nat.min_le_right _ _) (GS.len g3.1)))) ⟨_, Tc, this, h2, by rw [← set_app g2]; exact hS', hsf⟩ hd hdf hsz, Ext.setB.trans (Ext.put (st := st.setB i _)), rfl⟩
   ·exact .none
  ·exact .none
 ·exact .none
theorem turn_ok {o : Op} {dst : Option Nat} (hs : Sat G P δ n W0 L0 T0 m0 st a w) (hd : ∀ d, dst = some d → Nat.blt d n = true) : TG G P δ n W0 L0 T0 m0 st (turnOp Γ st o dst) ⟨dst, o, ty, pos, aft, g⟩ a w := by
 unfold turnOp
 split
 ·exact allocT_ok hs (hd _ rfl)
 ·exact boxT_ok hs (hd _ rfl)
 ·exact storeT_ok hs
 ·exact litT_ok hs (hd _ rfl)
 ·exact appT_ok hs (hd _ rfl)
 ·exact copyT_ok hs (hd _ rfl)
 ·exact makeT_ok hs (hd _ rfl)
 ·exact .none
end
end Go.Proofs.YthbonoagbeilkaaGreat.Hay
set_option linter.unusedVariables false
namespace Go.Proofs.YthbonoagbeilkaaGreat.Hay
section
variable {G : Sg} {P : Program}
def EV.isOwn (i : Nat) : EV G → Bool
 | .one (.own j) => Nat.beq i j
 | _ => false
def frz (st : St G) (i : Nat) : St G :=
 match lvOf st.L i with
 | some (.arr c none xs) => { st with env := st.env.map fun e => if e.2.2.isOwn i then (e.1, st.c, .one (.dat (.sl c) xs none)) else e, L := sb st.L i (st.c, .gone) }
 | _ => st
def frzO (st : St G) (x : Operand) : St G :=
 match av? (st.op x) with
 | some (.own i) => frz st i
 | _ => st
def frzPs : List Pm → List Operand → St G → St G
 | .rd _ :: ps, x :: xs, st => frzPs ps xs (frzO st x)
 | _ :: ps, _ :: xs, st => frzPs ps xs st
 | _, _, st => st
def argsA (Γ : Tab P G) : (ps : List Pm) → List Operand → St G → Option (DenPs G ps × St G × List (Nat × Option Nat))
 | [], [], st => some ((), st, [])
 | .rd t :: ps, x :: xs, st => (match argsA Γ ps xs st with
  | some (y, st', bk) => (match av? (st'.op x) with
   | some b => (match b.as Γ t with | some u => some ((u, y), st', bk) | none => none)
   | none => none)
  | none => none)
 | .ap t :: ps, x :: xs, st => (match argsA Γ ps xs st with
  | some (y, st', bk) => (match av? (st'.op x) with
   | some .nils => some (([], y), st', bk)
   | some (.dat t' u (some j)) => (match castTy G t' (.sl t) u with
    | some u => if fb st'.T j = some (t.kd G).sz then some ((u, y), { st' with env := erEnv j st'.c st'.env }, bk) else none
    | none => none)
   | _ => none)
  | none => none)
 | .pt t :: ps, x :: xs, st => (match argsA Γ ps xs st with
  | some (y, st', bk) => (match av? (st'.op x) with
   | some (.blk i) => (match lvOf st'.L i with
    | some (.dat c u) => (match castTy G c t u with | some u => some ((u, y), st'.setB i .gone, (i, none) :: bk) | none => none)
    | _ => none)
   | _ => none)
  | none => none)
 | .ow t :: ps, x :: xs, st => (match argsA Γ ps xs st with
  | some (y, st', bk) => (match av? (st'.op x) with
   | some (.own i) => (match lvOf st'.L i with
    | some (.arr c n u) => (match castTy G (.sl c) (.sl t) u with | some u => some ((u, y), st'.setB i .gone, (i, n) :: bk) | none => none)
    | _ => none)
   | _ => none)
  | none => none)
 | .f1 a b :: ps, x :: xs, st => (match argsA Γ ps xs st with
  | some (y, st', bk) => (match av? (st'.op x) with
   | some (.fn1 a' b' f) => if h : a' = a ∧ b' = b then some ((h.1 ▸ h.2 ▸ f, y), st', bk) else none
   | _ => none)
  | none => none)
 | .f2 a c b :: ps, x :: xs, st => (match argsA Γ ps xs st with
  | some (y, st', bk) => (match av? (st'.op x) with
   | some (.fn2 a' c' b' f) => if h : a' = a ∧ c' = c ∧ b' = b then some ((h.1 ▸ h.2.1 ▸ h.2.2 ▸ f, y), st', bk) else none
   | _ => none)
  | none => none)
 | _, _, _ => none
def outsA (G : Sg) : (ps : List Pm) → List (Nat × Option Nat) → DenTs G (ps.filterMap Pm.out) → St G → St G
 | .pt t :: ps, (i, _) :: bk, x, st => outsA G ps bk (tlT G t (ps.filterMap Pm.out) x) (st.setB i (.dat t (hdT G t (ps.filterMap Pm.out) x)))
 | .ow t :: ps, (i, n) :: bk, x, st => outsA G ps bk (tlT G (.sl t) (ps.filterMap Pm.out) x) (st.setB i (.arr t n (hdT G (.sl t) (ps.filterMap Pm.out) x)))
 | .rd _ :: ps, bk, x, st => outsA G ps bk x st
 | .ap _ :: ps, bk, x, st => outsA G ps bk x st
 | .f1 _ _ :: ps, bk, x, st => outsA G ps bk x st
 | .f2 _ _ _ :: ps, bk, x, st => outsA G ps bk x st
 | _, _, _, st => st
def resA (G : Sg) (os : List Ty) : (rs : List Rm) → DenTs G (rs.map Rm.ty ++ os) → St G → List (AV G) × St G
 | [], _, st => ([], st)
 | .rd t :: rs, x, st => match resA G os rs (tlT G t (rs.map Rm.ty ++ os) x) st with | (asv, st') => (.dat t (hdT G t (rs.map Rm.ty ++ os) x) none :: asv, st')
 | .ap t :: rs, x, st => match resA G os rs (tlT G (.sl t) (rs.map Rm.ty ++ os) x) st with | (asv, st') => (.dat (.sl t) (hdT G (.sl t) (rs.map Rm.ty ++ os) x) (some st'.T.length) :: asv, { st' with T := (t.kd G).sz :: st'.T })
 | .ow t :: rs, x, st => match resA G os rs (tlT G (.sl t) (rs.map Rm.ty ++ os) x) st with | (asv, st') => (.own st'.L.length :: asv, st'.push (.arr t none (hdT G (.sl t) (rs.map Rm.ty ++ os) x)))
def evs : List (AV G) → EV G
 | [b] => .one b
 | asv => .tup asv
def findC : List (CS P G) → FuncId → Option (CS P G)
 | [], _ => none
 | c :: D, f => if Nat.beq c.f f then some c else findC D f
def behind (C : CS P G) (st' : St G) (bk : List (Nat × Option Nat)) (d : Option Nat) (r : DenTs G (Outs C.ps C.rs)) : St G :=
 match resA G (C.ps.filterMap Pm.out) C.rs r (outsA G C.ps bk (rest G (C.ps.filterMap Pm.out) C.rs r) st') with
 | (asv, st2) => match d with | some d => st2.put d (evs asv) | none => st2
def callT (Γ : Tab P G) (D : List (CS P G)) (st : St G) (f : FuncId) (xs : List Operand) (d : Option Nat) : Option (Res2 G) :=
 match findC D f with
 | some C => (match argsA Γ C.ps xs (frzPs C.ps xs st) with
  | some (x, st', bk) => two (C.g x) (behind C st' bk d)
  | none => none)
 | none => none
def callV (Γ : Tab P G) (st : St G) (x : Operand) (xs : List Operand) (d : Nat) : Option (Res2 G) :=
 match av? (st.op x), xs with
 | some (.fn1 a b f), [y] => (match av? (st.op y) with
  | some p => (match p.as Γ a with | some u => two (f u) fun r => st.put d (.one (.dat b r none)) | none => none)
  | none => none)
 | some (.fn2 a c b f), [y, y'] => (match av? (st.op y), av? (st.op y') with
  | some p, some p' => (match p.as Γ a, p'.as Γ c with | some u, some u' => two (f u u') fun r => st.put d (.one (.dat b r none)) | _, _ => none)
  | _, _ => none)
 | _, _ => none
end
end Go.Proofs.YthbonoagbeilkaaGreat.Hay
set_option linter.unusedVariables false
set_option linter.unusedSimpArgs false
namespace Go.Proofs.YthbonoagbeilkaaGreat.Hay
section
variable {G : Sg} {P : Program} {δ : List Nat} {n : Nat} {W0 : Bse} {L0 : Rs} {T0 : List (Nat × Value)} {m0 : M} {st : St G} {a : Act} {w : World} {Γ : Tab P G} {ty t t2 : TypeId} {pos : String} {aft : Array Edge} {g : Option (Nat × Bool)}
theorem set_mid {α : Type} {A B C : List α} {j : Nat} {x y : α} (h : B[j]? = some y) : (A ++ (B ++ C)).set (A.length + j) x = A ++ (B.set j x ++ C) := by
 rw [List.set_append_right _ _ (by omega), Nat.add_sub_cancel_left, set_app h]
theorem get_mid {α : Type} {A B C : List α} {j : Nat} {y : α} (h : B[j]? = some y) : (A ++ (B ++ C))[A.length + j]? = some y := by
 rw [List.getElem?_append_right (by omega), Nat.add_sub_cancel_left]; exact get_app h
structure MF (G : Sg) (P : Program) (W0 : Bse) (L0 : Rs) (T0 : List (Nat × Value)) (a : Act) (w : World) (m : M) (z : Cz) (st : St G) (Lp : List (Nat × List Value)) (Tp : List (Nat × Value)) : Prop where
 env : EnvR G P m z st.env a
 mem : ∃ Lc Tc, LR G m st.L z.b Lc ∧ TRl st.T z.t Tc ∧ S W0 m w (Lp ++ (Lc ++ L0.l)) (Tp ++ (Tc ++ T0)) ∧ Sfx z.b L0.nm
theorem thaw_rel {m m' : M} {z : Cz} {i : Nat} {c : Ty} {xs : List (c.den G)} {p : Nat × Value} {env : List (Nat × Nat × EV G)} {s : Nat} (hz : fb z.b i = some p) (hm : M.le m m') (hv : RV (kSl (c.kd G)) m' p.2 xs) (h : EnvR G P m z env a) :
  EnvR G P m' z (env.map fun e => if e.2.2.isOwn i then (e.1, s, .one (.dat (.sl c) xs none)) else e) a := by
 intro e he
 obtain ⟨e0, h0, rfl⟩ := List.mem_map.1 he
 have hr := h e0 h0
 split
 ·rename_i ho
  show (RV (kSl (c.kd G)) m' (a.tmps.getD e0.1 undef) xs) ∧ True
  cases hb : e0.2.2 with
  | tup asv => rw [hb] at ho; simp [EV.isOwn] at ho
  | one b =>
   rw [hb] at ho hr
   cases b <;> simp [EV.isOwn] at ho
   subst ho
   obtain ⟨p', h1, h2⟩ := hr
   rw [hz] at h1; injection h1 with h1; subst h1
   rw [h2]; exact ⟨hv, trivial⟩
 ·exact hr.mono hm
theorem frz_ok {m : M} {z : Cz} {i : Nat} (h : MF G P W0 L0 T0 a w m z st [] []) : ∃ m', M.le m m' ∧ MF G P W0 L0 T0 a w m' z (frz st i) [] [] ∧ Ext st.c st (frz st i) ∧ (frz st i).c = st.c := by
 unfold frz
 split
 ·rename_i c xs hB
  obtain ⟨hr, Lc, Tc, h1, h2, hS, hsf⟩ := h
  obtain ⟨s, hs⟩ := lvOf_some hB
  obtain ⟨p', cs, j, g1, g2, g3, g4⟩ := h1.get hs
  have hS0 : S W0 m w (Lc ++ L0.l) (Tc ++ T0) := hS
  have hS1 := S.takeL hS0 (get_app g2)
  rw [set_app g2] at hS1
  obtain ⟨m', hm, hS2, hv⟩ := S.freeze hS1 g3.1
  refine ⟨m', hm, ⟨thaw_rel g1 hm hv hr, _, Tc, ?_, h2, hS2, hsf⟩, ?_, rfl⟩
  ·have := (g4 (st.c, BC.gone) p'.2 [] rfl).mono hm
   rw [sb_self g1] at this
   exact this
  ·refine ⟨fun k hk e he hl => ?_, fun k hk i s B hb hs => ?_⟩
   ·obtain ⟨e0, h0, rfl⟩ := List.mem_map.1 he
    split at hl
    ·simp only at hl; omega
    ·rename_i ho
     rw [if_neg ho]; exact ⟨e0.2.1, hl, h0⟩
   ·rcases fb_sb hb with ⟨_, h1⟩ | ⟨_, h⟩
    ·injection h1 with h1 _; omega
    ·exact ⟨s, hs, h⟩
 ·exact ⟨m, M.le.refl m, h, Ext.refl _ _, rfl⟩
theorem frzO_ok {m : M} {z : Cz} {x : Operand} (h : MF G P W0 L0 T0 a w m z st [] []) : ∃ m', M.le m m' ∧ MF G P W0 L0 T0 a w m' z (frzO st x) [] [] ∧ Ext st.c st (frzO st x) ∧ (frzO st x).c = st.c := by
 unfold frzO
 split
 ·exact frz_ok h
 ·exact ⟨m, M.le.refl m, h, Ext.refl _ _, rfl⟩
theorem frzPs_ok {m : M} {z : Cz} : ∀ {ps : List Pm} {xs : List Operand} {st : St G} {m : M}, MF G P W0 L0 T0 a w m z st [] [] → ∃ m', M.le m m' ∧ MF G P W0 L0 T0 a w m' z (frzPs ps xs st) [] [] ∧ Ext st.c st (frzPs ps xs st) ∧ (frzPs ps xs st).c = st.c := by
 intro ps
 induction ps with
 | nil => intro xs st m h; cases xs <;> exact ⟨m, M.le.refl m, h, Ext.refl _ _, rfl⟩
 | cons p ps ih =>
  intro xs st m h
  cases xs with
  | nil => cases p <;> exact ⟨m, M.le.refl m, h, Ext.refl _ _, rfl⟩
  | cons x xs =>
   cases p with
   | rd t =>
    obtain ⟨m1, h1, h2, h3, h4⟩ := frzO_ok (x := x) h
    obtain ⟨m2, k1, k2, k3, k4⟩ := ih (xs := xs) h2
    rw [h4] at k3 k4
    exact ⟨m2, h1.trans k1, k2, h3.trans k3, k4⟩
   | _ => exact ih h
def BK (G : Sg) (z : Cz) (Ls : List (Nat × BC G)) : List Pm → List (Nat × Option Nat) → List Value → List (Nat × List Value) → Prop
 | [], [], _, [] => True
 | .pt t :: ps, (i, _) :: bk, v :: vs, e :: Lp => (∃ sv s, fb z.b i = some (e.1, sv) ∧ fb Ls i = some (s, .gone)) ∧ (∀ q ∈ bk, q.1 ≠ i) ∧ BK G z Ls ps bk vs Lp
 | .ow t :: ps, (i, n) :: bk, v :: vs, e :: Lp => (∃ s, fb z.b i = some (e.1, v) ∧ fb Ls i = some (s, .gone)) ∧ (∀ q ∈ bk, q.1 ≠ i) ∧ (∃ m cs, ∃ xs : List (t.den G), GS (t.kd G) m e.1 cs v xs ∧ (match n with | none => True | some k => xs.length = k)) ∧ BK G z Ls ps bk vs Lp
 | .rd _ :: ps, bk, _ :: vs, Lp => BK G z Ls ps bk vs Lp
 | .ap _ :: ps, bk, _ :: vs, Lp => BK G z Ls ps bk vs Lp
 | .f1 _ _ :: ps, bk, _ :: vs, Lp => BK G z Ls ps bk vs Lp
 | .f2 _ _ _ :: ps, bk, _ :: vs, Lp => BK G z Ls ps bk vs Lp
 | _, _, _, _ => False
theorem BK.gone {z : Cz} {Ls : List (Nat × BC G)} : ∀ {ps : List Pm} {bk : List (Nat × Option Nat)} {vs : List Value} {Lp : List (Nat × List Value)}, BK G z Ls ps bk vs Lp → ∀ q ∈ bk, ∃ s, fb Ls q.1 = some (s, .gone) := by
 intro ps
 induction ps with
 | nil => intro bk vs Lp h q hq; cases bk with | nil => cases hq | cons b bk => exact h.elim
 | cons p ps ih =>
  intro bk vs Lp h q hq
  cases p with
  | pt t =>
   cases bk with
   | nil => cases hq
   | cons b bk =>
    cases vs with
    | nil => exact h.elim
    | cons v vs =>
     cases Lp with
     | nil => exact h.elim
     | cons e Lp =>
      obtain ⟨⟨sv, s, _, h1⟩, _, h2⟩ := h
      rcases List.mem_cons.1 hq with rfl | hq
      ·exact ⟨s, h1⟩
      ·exact ih h2 q hq
  | ow t =>
   cases bk with
   | nil => cases hq
   | cons b bk =>
    cases vs with
    | nil => exact h.elim
    | cons v vs =>
     cases Lp with
     | nil => exact h.elim
     | cons e Lp =>
      obtain ⟨⟨s, _, h1⟩, _, _, h2⟩ := h
      rcases List.mem_cons.1 hq with rfl | hq
      ·exact ⟨s, h1⟩
      ·exact ih h2 q hq
  | _ =>
   cases vs with
   | nil => cases bk <;> exact h.elim
   | cons v vs => exact ih h q hq
theorem BK.other {z : Cz} {Ls : List (Nat × BC G)} {i : Nat} {B : Nat × BC G} : ∀ {ps : List Pm} {bk : List (Nat × Option Nat)} {vs : List Value} {Lp : List (Nat × List Value)}, BK G z Ls ps bk vs Lp → (∀ q ∈ bk, q.1 ≠ i) → BK G z (sb Ls i B) ps bk vs Lp := by
 intro ps
 induction ps with
 | nil => intro bk vs Lp h _; cases bk <;> cases Lp <;> first | exact h | exact h.elim
 | cons p ps ih =>
  intro bk vs Lp h hne
  cases p with
  | pt t =>
   cases bk with
   | nil => cases vs <;> cases Lp <;> exact h.elim
   | cons b bk =>
    cases vs with
    | nil => exact h.elim
    | cons v vs =>
     cases Lp with
     | nil => exact h.elim
     | cons e Lp =>
      obtain ⟨⟨sv, s, h0, h1⟩, h2, h3⟩ := h
      exact ⟨⟨sv, s, h0, by rw [fb_sb_ne (fun x => hne b (by simp) x.symm)]; exact h1⟩, h2, ih h3 fun q hq => hne q (by simp [hq])⟩
  | ow t =>
   cases bk with
   | nil => cases vs <;> cases Lp <;> exact h.elim
   | cons b bk =>
    cases vs with
    | nil => exact h.elim
    | cons v vs =>
     cases Lp with
     | nil => exact h.elim
     | cons e Lp =>
      obtain ⟨⟨s, h0, h1⟩, h2, h4, h3⟩ := h
      exact ⟨⟨s, h0, by rw [fb_sb_ne (fun x => hne b (by simp) x.symm)]; exact h1⟩, h2, h4, ih h3 fun q hq => hne q (by simp [hq])⟩
  | _ =>
   cases vs with
   | nil => cases bk <;> exact h.elim
   | cons v vs => exact ih h hne
theorem argsA_ok {m : M} {z : Cz} (h : MF G P W0 L0 T0 a w m z st [] []) : ∀ {ps : List Pm} {xs : List Operand} {y : DenPs G ps} {st' : St G} {bk : List (Nat × Option Nat)}, argsA Γ ps xs st = some (y, st', bk) →
  ∃ z' Lp Tp, z'.b = z.b ∧ MF G P W0 L0 T0 a w m z' st' Lp Tp ∧ PRel G P m ps (xs.map a.eval) y Lp Tp ∧ BK G z' st'.L ps bk (xs.map a.eval) Lp ∧ Ext st.c st st' ∧ st'.c = st.c := by
 intro ps
 induction ps with
 | nil =>
  intro xs y st' bk he
  cases xs with
  | cons x xs => simp [argsA] at he
  | nil =>
   simp only [argsA, Option.some.injEq, Prod.mk.injEq] at he
   obtain ⟨_, rfl, rfl⟩ := he
   exact ⟨z, [], [], rfl, h, trivial, trivial, Ext.refl _ _, rfl⟩
 | cons p ps ih =>
  intro xs y st' bk he
  cases xs with
  | nil => cases p <;> simp [argsA] at he
  | cons x xs =>
   cases hr : argsA Γ ps xs st with
   | none => cases p <;> simp [argsA, hr] at he
   | some q =>
    obtain ⟨y1, st1, bk1⟩ := q
    obtain ⟨z1, Lp, Tp, hz, hM, hP, hK, hx, hc⟩ := ih hr
    obtain ⟨hE, Lc, Tc, h1, h2, hS, hsf⟩ := hM
    have hrel : ∀ b, av? (st1.op x) = some b → b.Rel G P m z1 (a.eval x) := fun b hb => av_rel (op_rel hE) hb
    cases p with
    | rd t =>
     simp only [argsA, hr] at he
     split at he
     ·rename_i b hb
      split at he
      ·rename_i u hu
       simp only [Option.some.injEq, Prod.mk.injEq] at he
       obtain ⟨rfl, rfl, rfl⟩ := he
       exact ⟨z1, Lp, Tp, hz, ⟨hE, Lc, Tc, h1, h2, hS, hsf⟩, ⟨AV.as_rel hu (hrel b hb), hP⟩, hK, hx, hc⟩
      ·cases he
     ·cases he
    | ap t =>
     simp only [argsA, hr] at he
     split at he
     ·rename_i hb
      simp only [Option.some.injEq, Prod.mk.injEq] at he
      obtain ⟨rfl, rfl, rfl⟩ := he
      have hv : a.eval x = .slice none 0 0 := hrel _ hb
      refine ⟨z1, Lp, ((t.kd G).sz, .slice none 0 0) :: Tp, hz, ⟨hE, Lc, Tc, h1, h2, hS.tail0 _, hsf⟩, ?_, hK, hx, hc⟩
      show RV _ m (a.eval x) _ ∧ _ ∧ _
      rw [hv]
      exact ⟨RV_nil, rfl, hP⟩
     ·rename_i t' u j hb
      split at he
      ·rename_i u' hu
       obtain ⟨e, hu⟩ := castTy_some hu
       subst e; subst hu
       split at he
       ·rename_i hj
        simp only [Option.some.injEq, Prod.mk.injEq] at he
        obtain ⟨rfl, rfl, rfl⟩ := he
        have hv := hrel _ hb
        obtain ⟨i, k1, k2⟩ := h2.get hj hv.2
        have hS1 := S.takeT hS (get_mid k1)
        rw [set_mid k1] at hS1
        refine ⟨⟨z1.b, sb z1.t j (.slice none 0 0)⟩, Lp, ((t.kd G).sz, a.eval x) :: Tp, hz, ⟨erEnv_rel hE, Lc, _, h1, k2 _, hS1, hsf⟩, ⟨hv.1, rfl, hP⟩, ?_, hx.trans ?_, hc⟩
        ·show BK G _ st1.L ps _ _ Lp
         clear hP hr
         revert hK
         have : ∀ {ps : List Pm} {bk : List (Nat × Option Nat)} {vs : List Value} {Lp : List (Nat × List Value)}, BK G z1 st1.L ps bk vs Lp → BK G ⟨z1.b, sb z1.t j (.slice none 0 0)⟩ st1.L ps bk vs Lp := by
          intro ps
          induction ps with
          | nil => intro bk vs Lp h; cases bk <;> cases Lp <;> first | exact h | exact h.elim
          | cons p ps ih =>
           intro bk vs Lp h
           cases p with
           | pt t =>
            cases bk <;> cases vs <;> cases Lp <;> first | exact h.elim | exact ⟨h.1, h.2.1, ih h.2.2⟩
           | ow t =>
            cases bk <;> cases vs <;> cases Lp <;> first | exact h.elim | exact ⟨h.1, h.2.1, h.2.2.1, ih h.2.2.2⟩
           | _ =>
            cases vs with
            | nil => cases bk <;> exact h.elim
            | cons v vs => exact ih h
         exact this
        ·have := Ext.er (st := st1) (j := j)
         rw [hc] at this ⊢
         exact this
       ·cases he
      ·cases he
     ·cases he
    | pt t =>
     simp only [argsA, hr] at he
     split at he
     ·rename_i i hb
      split at he
      ·rename_i c u hB
       split at he
       ·rename_i u' hu
        obtain ⟨e, hu⟩ := castTy_some hu
        subst e; subst hu
        simp only [Option.some.injEq, Prod.mk.injEq] at he
        obtain ⟨rfl, rfl, rfl⟩ := he
        obtain ⟨p, g5, g6⟩ := hrel _ hb
        obtain ⟨s, hs⟩ := lvOf_some hB
        obtain ⟨p', cs, j, g1, g2, g3, g4⟩ := h1.get hs
        rw [g1] at g5; injection g5 with g5; subst g5
        have hS1 := S.takeL hS (get_mid g2)
        rw [set_mid g2] at hS1
        have hL := g4 (st1.c, BC.gone) p'.2 [] rfl
        rw [sb_self g1] at hL
        have hne : ∀ q ∈ bk1, q.1 ≠ i := fun q hq e => by
         obtain ⟨s', hg⟩ := hK.gone q hq
         rw [e, hs] at hg
         injection hg with hg; injection hg with _ hg; cases hg
        refine ⟨z1, (p'.1, cs) :: Lp, Tp, hz, ⟨hE, _, Tc, hL, h2, hS1, hsf⟩, ⟨g3, g6, hP⟩, ⟨⟨p'.2, st1.c, g1, fb_sb_eq hs⟩, hne, hK.other hne⟩, hx.trans ?_, hc⟩
        have := Ext.setB (st := st1) (i := i) (B := .gone)
        rw [hc] at this
        exact this
       ·cases he
      ·cases he
     ·cases he
    | ow t =>
     simp only [argsA, hr] at he
     split at he
     ·rename_i i hb
      split at he
      ·rename_i c nn u hB
       split at he
       ·rename_i u' hu
        obtain ⟨e, hu⟩ := castTy_some hu
        injection e with e
        subst e; subst hu
        simp only [Option.some.injEq, Prod.mk.injEq] at he
        obtain ⟨rfl, rfl, rfl⟩ := he
        obtain ⟨p, g5, g6⟩ := hrel _ hb
        obtain ⟨s, hs⟩ := lvOf_some hB
        obtain ⟨p', cs, j, g1, g2, g3, g4⟩ := h1.get hs
        rw [g1] at g5; injection g5 with g5; subst g5
        have hS1 := S.takeL hS (get_mid g2)
        rw [set_mid g2] at hS1
        have hL := g4 (st1.c, BC.gone) p'.2 [] rfl
        rw [sb_self g1] at hL
        have hne : ∀ q ∈ bk1, q.1 ≠ i := fun q hq e => by
         obtain ⟨s', hg⟩ := hK.gone q hq
         rw [e, hs] at hg
         injection hg with hg; injection hg with _ hg; cases hg
        have g3' := g3.1
        rw [← g6] at g3'
        refine ⟨z1, (p'.1, cs) :: Lp, Tp, hz, ⟨hE, _, Tc, hL, h2, hS1, hsf⟩, ⟨g3', hP⟩, ⟨⟨st1.c, by rw [g1, g6], fb_sb_eq hs⟩, hne, ⟨m, cs, _, g3', g3.2⟩, hK.other hne⟩, hx.trans ?_, hc⟩
        have := Ext.setB (st := st1) (i := i) (B := .gone)
        rw [hc] at this
        exact this
       ·cases he
      ·cases he
     ·cases he
    | f1 b c =>
     simp only [argsA, hr] at he
     split at he
     ·rename_i a' b' f hb
      split at he
      ·rename_i hh
       obtain ⟨rfl, rfl⟩ := hh
       simp only [Option.some.injEq, Prod.mk.injEq] at he
       obtain ⟨rfl, rfl, rfl⟩ := he
       exact ⟨z1, Lp, Tp, hz, ⟨hE, Lc, Tc, h1, h2, hS, hsf⟩, ⟨hrel _ hb, hP⟩, hK, hx, hc⟩
      ·cases he
     ·cases he
    | f2 b c d =>
     simp only [argsA, hr] at he
     split at he
     ·rename_i a' c' b' f hb
      split at he
      ·rename_i hh
       obtain ⟨rfl, rfl, rfl⟩ := hh
       simp only [Option.some.injEq, Prod.mk.injEq] at he
       obtain ⟨rfl, rfl, rfl⟩ := he
       exact ⟨z1, Lp, Tp, hz, ⟨hE, Lc, Tc, h1, h2, hS, hsf⟩, ⟨hrel _ hb, hP⟩, hK, hx, hc⟩
      ·cases he
     ·cases he
end
end Go.Proofs.YthbonoagbeilkaaGreat.Hay
set_option linter.unusedVariables false
set_option linter.unusedSimpArgs false
namespace Go.Proofs.YthbonoagbeilkaaGreat.Hay
section
variable {G : Sg} {P : Program} {δ : List Nat} {n : Nat} {W0 : Bse} {L0 : Rs} {T0 : List (Nat × Value)} {m0 : M} {st : St G} {a : Act} {w : World} {Γ : Tab P G} {ty t t2 : TypeId} {pos : String} {aft : Array Edge} {g : Option (Nat × Bool)}
theorem outs_ok {L0 : List (Nat × List Value)} {m : M} {z : Cz} {TL : List (Nat × Value)} : ∀ {ps : List Pm} {bk : List (Nat × Option Nat)} {vs : List Value} {Lp Lp' Lc : List (Nat × List Value)} {x : DenTs G (ps.filterMap Pm.out)} {st : St G}, BK G z st.L ps bk vs Lp → ORel G m ps vs x Lp Lp' → LR G m st.L z.b Lc → S W0 m w (Lp' ++ (Lc ++ L0)) TL →
  ∃ Lc', LR G m (outsA G ps bk x st).L z.b Lc' ∧ S W0 m w (Lc' ++ L0) TL ∧ (outsA G ps bk x st).env = st.env ∧ (outsA G ps bk x st).T = st.T ∧ (outsA G ps bk x st).c = st.c ∧ Ext st.c st (outsA G ps bk x st) := by
 intro ps
 induction ps with
 | nil =>
  intro bk vs Lp Lp' Lc x st hK hO hL hS
  cases bk <;> cases Lp <;> cases Lp' <;> first | exact hK.elim | exact hO.elim | exact ⟨Lc, hL, hS, rfl, rfl, rfl, Ext.refl _ _⟩
 | cons p ps ih =>
  intro bk vs Lp Lp' Lc x st hK hO hL hS
  cases p with
  | pt t =>
   cases bk with
   | nil => cases vs <;> cases Lp <;> exact hK.elim
   | cons b bk =>
    cases vs with
    | nil => exact hK.elim
    | cons v vs =>
     cases Lp with
     | nil => exact hK.elim
     | cons e Lp =>
      cases Lp' with
      | nil => exact hO.elim
      | cons e' Lp' =>
       obtain ⟨⟨sv, s, k1, k2⟩, hne, hK⟩ := hK
       obtain ⟨o1, o2, hO⟩ := hO
       obtain ⟨p', cs, j, g1, g2, g3, g4⟩ := hL.get k2
       rw [k1] at g1; injection g1 with g1; subst g1
       have hcs : cs = [] := g3
       subst hcs
       have hB : (BC.dat t (hdT G t (ps.filterMap Pm.out) x)).Rel G m (e.1, sv) e'.2 := o2
       have hL' := g4 (st.c, _) sv e'.2 hB
       rw [sb_self k1] at hL'
       have hS1 : S W0 m w (e' :: (Lp' ++ (Lc ++ L0))) TL := hS
       have hS' := S.putL hS1 (get_mid g2)
       rw [set_mid g2, show e' = (e.1, e'.2) from by rw [← o1]] at hS'
       obtain ⟨Lc', r1, r2, r3, r4, r5, r6⟩ := ih (st := st.setB b.1 (.dat t (hdT G t (ps.filterMap Pm.out) x))) (hK.other hne) hO hL' hS'
       exact ⟨Lc', r1, r2, r3, r4, r5, Ext.setB.trans r6⟩
  | ow t =>
   cases bk with
   | nil => cases vs <;> cases Lp <;> exact hK.elim
   | cons b bk =>
    cases vs with
    | nil => exact hK.elim
    | cons v vs =>
     cases Lp with
     | nil => exact hK.elim
     | cons e Lp =>
      cases Lp' with
      | nil => exact hO.elim
      | cons e' Lp' =>
       obtain ⟨⟨s, k1, k2⟩, hne, ⟨mm, css, xs, k3, k4⟩, hK⟩ := hK
       obtain ⟨o1, o2, hO⟩ := hO
       obtain ⟨p', cs, j, g1, g2, g3, g4⟩ := hL.get k2
       rw [k1] at g1; injection g1 with g1; subst g1
       have hcs : cs = [] := g3
       subst hcs
       rw [o1] at o2
       have hB : (BC.arr t b.2 (hdT G (.sl t) (ps.filterMap Pm.out) x)).Rel G m (e.1, v) e'.2 := ⟨o2, by
        revert k4
        cases b.2 with
        | none => intro _; trivial
        | some k => intro k4; exact (GS.len_eq k3 o2).trans k4⟩
       have hL' := g4 (st.c, _) v e'.2 hB
       rw [sb_self k1] at hL'
       have hS1 : S W0 m w (e' :: (Lp' ++ (Lc ++ L0))) TL := hS
       have hS' := S.putL hS1 (get_mid g2)
       rw [set_mid g2, show e' = (e.1, e'.2) from by rw [← o1]] at hS'
       obtain ⟨Lc', r1, r2, r3, r4, r5, r6⟩ := ih (st := st.setB b.1 (.arr t b.2 (hdT G (.sl t) (ps.filterMap Pm.out) x))) (hK.other hne) hO hL' hS'
       exact ⟨Lc', r1, r2, r3, r4, r5, Ext.setB.trans r6⟩
  | _ =>
   cases vs with
   | nil => cases bk <;> exact hK.elim
   | cons v vs => exact ih hK hO hL hS
theorem Zle.trans {z1 z2 z3 : Cz} (h : Zle z1 z2) (k : Zle z2 z3) : Zle z1 z3 := ⟨fun i p hp => k.b i p (h.b i p hp), fun j v hv => k.t j v (h.t j v hv)⟩
theorem RelL.z {m : M} {z z' : Cz} {asv : List (AV G)} {vs : List Value} (h : RelL G P m z asv vs) (hz : Zle z z') : RelL G P m z' asv vs := by
 induction asv generalizing vs with
 | nil => cases vs <;> exact h
 | cons b asv ih =>
  cases vs with
  | nil => exact h
  | cons v vs => exact ⟨h.1.z hz, ih h.2⟩
theorem res_ok {os : List Ty} {m : M} : ∀ {rs : List Rm} {us : List Value} {x : DenTs G (rs.map Rm.ty ++ os)} {Lr : List (Nat × List Value)} {Tr : List (Nat × Value)} {st : St G} {z : Cz} {Lc : List (Nat × List Value)} {Tc : List (Nat × Value)}, RRel G m os rs us x Lr Tr → LR G m st.L z.b Lc → TRl st.T z.t Tc →
  ∃ z', Zle z z' ∧ LR G m (resA G os rs x st).2.L z'.b (Lr ++ Lc) ∧ TRl (resA G os rs x st).2.T z'.t (Tr ++ Tc) ∧ RelL G P m z' (resA G os rs x st).1 us ∧ (resA G os rs x st).2.env = st.env ∧ (resA G os rs x st).2.c = st.c ∧ Ext st.c st (resA G os rs x st).2 ∧ ∀ {s : List (Nat × Value)}, Sfx z.b s → Sfx z'.b s := by
 intro rs
 induction rs with
 | nil =>
  intro us x Lr Tr st z Lc Tc h h1 h2
  cases us <;> cases Lr <;> cases Tr <;> first | exact h.elim | exact ⟨z, Zle.refl z, h1, h2, trivial, rfl, rfl, Ext.refl _ _, fun h => h⟩
 | cons r rs ih =>
  intro us x Lr Tr st z Lc Tc h h1 h2
  cases us with
  | nil => cases r <;> exact h.elim
  | cons u us =>
   cases r with
   | rd t =>
    obtain ⟨k1, k2⟩ := h
    obtain ⟨z', r1, r2, r3, r4, r5, r6, r7, r8⟩ := ih k2 h1 h2
    exact ⟨z', r1, r2, r3, ⟨⟨k1, trivial⟩, r4⟩, r5, r6, r7, r8⟩
   | ap t =>
    cases Tr with
    | nil => exact h.elim
    | cons e Tr =>
     obtain ⟨k1, rfl, k2⟩ := h
     obtain ⟨z', r1, r2, r3, r4, r5, r6, r7, r8⟩ := ih k2 h1 h2
     have hz := Zle.pushT z' u
     refine ⟨⟨z'.b, u :: z'.t⟩, r1.trans hz, r2, ⟨rfl, r3⟩, ⟨⟨k1, ?_⟩, r4.z hz⟩, r5, r6, ?_, r8⟩
     ·show fb (u :: z'.t) _ = some u
      rw [← r3.len.1]; exact fb_top
     ·rw [← r6] at r7 ⊢
      exact r7.trans (Ext.envL (st := (resA G os rs _ st).2) rfl rfl)
   | ow t =>
    cases Lr with
    | nil => exact h.elim
    | cons e Lr =>
     obtain ⟨k1, k2⟩ := h
     obtain ⟨z', r1, r2, r3, r4, r5, r6, r7, r8⟩ := ih k2 h1 h2
     have hz := Zle.pushB z' (e.1, u)
     refine ⟨⟨(e.1, u) :: z'.b, z'.t⟩, r1.trans hz, ⟨rfl, ⟨k1, trivial⟩, r2⟩, r3, ⟨⟨(e.1, u), ?_, rfl⟩, r4.z hz⟩, r5, r6, ?_, fun h => (r8 h).cons⟩
     ·rw [← r2.len.1]; exact fb_top
     ·rw [← r6] at r7 ⊢
      exact r7.trans Ext.push
theorem evs_rel {m : M} {z : Cz} {asv : List (AV G)} {us : List Value} (h : RelL G P m z asv us) : (evs asv).Rel G P m z (tup us) := by
 match asv, us, h with
 | [], [], _ => exact ⟨[], rfl, trivial⟩
 | [b], [u], h => exact h.1
 | b :: b' :: asv, u :: u' :: us, h => exact ⟨_, rfl, h⟩
 | [b], [], h => exact h.elim
 | [b], _ :: _ :: _, h => exact h.2.elim
 | [], _ :: _, h => exact h.elim
 | _ :: _ :: _, [], h => exact h.elim
 | _ :: _ :: _, [_], h => exact h.2.elim
theorem findC_f {D : List (CS P G)} {f : FuncId} {C : CS P G} (h : findC D f = some C) : C.f = f := by
 induction D with
 | nil => cases h
 | cons c D ih =>
  simp only [findC] at h
  split at h
  ·rename_i hb
   injection h with h; subst h
   exact Nat.eq_of_beq_eq_true hb
  ·exact ih h
theorem argl_map {l : List (Nat × Value)} {a : Act} {xs : List Operand} (h : ∀ x ∈ xs, evl l x = some (a.eval x)) : argl l xs.toArray = some (xs.map a.eval) := by
 unfold argl
 simp only
 induction xs with
 | nil => rfl
 | cons x xs ih => simp [h x (by simp), ih fun y hy => h y (by simp [hy])]
theorem callT_ok {D : List (CS P G)} {f : FuncId} {xs : List Operand} {tys : Array TypeId} {d : Option Nat} (hs : Sat G P δ n W0 L0 T0 m0 st a w) (hd : ∀ e, d = some e → Nat.blt e n = true) :
  TG G P δ n W0 L0 T0 m0 st (callT Γ D st f xs d) ⟨d, .call ⟨.value (.func f), xs.toArray, tys⟩, ty, pos, aft, g⟩ a w := by
 obtain ⟨⟨m, z, h0, hr, hM⟩, hdf, hsz⟩ := hs
 obtain ⟨Lc, Tc, h1, h2, hS, hsf⟩ := hM
 unfold callT
 split
 ·rename_i C hC
  have hf := findC_f hC
  subst hf
  obtain ⟨m1, hm1, hF, hx1, hc1⟩ := frzPs_ok (G := G) (P := P) (L0 := L0) (T0 := T0) (ps := C.ps) (xs := xs) (st := st) (m := m) (z := z) ⟨hr, Lc, Tc, h1, h2, hS, hsf⟩
  split
  ·rename_i y st' bk he
   obtain ⟨z', Lp, Tp, hz, hM', hP, hK, hx, hc⟩ := argsA_ok hF he
   obtain ⟨hE', Lc', Tc', k1, k2, hS', hsf'⟩ := hM'
   refine .two fun r hrr => ?_
   have hcall := C.ok W0 m1 w (Lc' ++ L0.l) (Tc' ++ T0) (xs.map a.eval) y r Lp Tp hS' hP hrr
   obtain ⟨l, hE, hl⟩ := opEnv hdf hsz xs
   have post : ∀ v w', (∃ (m' : M) (us : List Value) (Lr Lp' : List (Nat × List Value)) (Tr : List (Nat × Value)), M.le m1 m' ∧ S W0 m' w' (Lr ++ (Lp' ++ (Lc' ++ L0.l))) (Tr ++ (Tc' ++ T0)) ∧ v = tup us ∧ RRel G m' (C.ps.filterMap Pm.out) C.rs us r Lr Tr ∧ ORel G m' C.ps (xs.map a.eval) (rest G (C.ps.filterMap Pm.out) C.rs r) Lp Lp') →
     Sat G P δ n W0 L0 T0 m0 (behind C st' bk d r) (a.put d v) w' ∧ Ext st.c st (behind C st' bk d r) ∧ (behind C st' bk d r).c = st.c := by
    rintro v w' ⟨m', us, Lr, Lp', Tr, hm', hSr, rfl, hR, hO⟩
    have hSo : S W0 m' w' (Lp' ++ (Lc' ++ (L0.l))) (Tr ++ (Tc' ++ T0)) := by
     have := hSr.dropL Lr.length
     rw [List.drop_left] at this
     exact this
    have hSo2 : S W0 m' w' (Lp' ++ (Lc' ++ (L0.l ++ Lr))) (Tr ++ (Tc' ++ T0)) := by
     refine hSr.selL _ (fun i => if i < Lp'.length + Lc'.length + L0.l.length then Lr.length + i else if i < Lp'.length + Lc'.length + L0.l.length + Lr.length then i - (Lp'.length + Lc'.length + L0.l.length) else i) (fun i e he => ?_) (fun i j hij => ?_)
     ·by_cases hi : i < Lp'.length + Lc'.length + L0.l.length
      ·rw [if_pos hi, List.getElem?_append_right (by omega), Nat.add_sub_cancel_left]
       rw [show Lp' ++ (Lc' ++ (L0.l ++ Lr)) = (Lp' ++ (Lc' ++ L0.l)) ++ Lr by simp, List.getElem?_append_left (by simp; omega)] at he
       exact he
      ·rw [if_neg hi]
       rw [show Lp' ++ (Lc' ++ (L0.l ++ Lr)) = (Lp' ++ (Lc' ++ L0.l)) ++ Lr by simp, List.getElem?_append_right (by simp; omega)] at he
       simp only [List.length_append] at he
       have hlt : i - (Lp'.length + (Lc'.length + L0.l.length)) < Lr.length := (List.getElem?_eq_some_iff.1 he).1
       rw [if_pos (by omega), List.getElem?_append_left (by omega), ← Nat.add_assoc] at *
       exact he
     ·split at hij <;> split at hij <;> (try split at hij) <;> (try split at hij) <;> omega
    obtain ⟨Lc2, q1, q2, q3, q4, q5, q6⟩ := outs_ok (L0 := L0.l ++ Lr) hK hO (k1.mono hm') hSo2
    have k2' : TRl (outsA G C.ps bk (rest G (C.ps.filterMap Pm.out) C.rs r) st').T z'.t Tc' := by rw [q4]; exact k2
    obtain ⟨z2, p1, p2, p3, p4, p5, p6, p7, p8⟩ := res_ok (P := P) hR q1 k2'
    have hSf : S W0 m' w' ((Lr ++ Lc2) ++ L0.l) ((Tr ++ Tc') ++ T0) := by
     rw [List.append_assoc Tr]
     refine q2.selL _ (fun i => if i < Lr.length then Lc2.length + L0.l.length + i else if i < Lr.length + Lc2.length + L0.l.length then i - Lr.length else i) (fun i e he => ?_) (fun i j hij => ?_)
     ·by_cases hi : i < Lr.length
      ·rw [if_pos hi]
       rw [List.append_assoc, List.getElem?_append_left hi] at he
       rw [show Lc2 ++ (L0.l ++ Lr) = (Lc2 ++ L0.l) ++ Lr by simp, List.getElem?_append_right (by simp), List.length_append, Nat.add_sub_cancel_left]
       exact he
      ·rw [if_neg hi]
       rw [List.append_assoc, List.getElem?_append_right (by omega)] at he
       have hlt : i - Lr.length < (Lc2 ++ L0.l).length := (List.getElem?_eq_some_iff.1 he).1
       simp only [List.length_append] at hlt
       rw [if_pos (by omega), show Lc2 ++ (L0.l ++ Lr) = (Lc2 ++ L0.l) ++ Lr by simp, List.getElem?_append_left (by simp; omega)]
       exact he
     ·split at hij <;> split at hij <;> (try split at hij) <;> (try split at hij) <;> omega
    have hEnv : EnvR G P m' z2 (resA G (C.ps.filterMap Pm.out) C.rs r (outsA G C.ps bk (rest G (C.ps.filterMap Pm.out) C.rs r) st')).2.env a := by
     rw [p5, q3]
     exact hE'.z hm' p1
    have hX : Ext st.c st (resA G (C.ps.filterMap Pm.out) C.rs r (outsA G C.ps bk (rest G (C.ps.filterMap Pm.out) C.rs r) st')).2 := by
     rw [hc1] at hx hc
     rw [hc] at q5 q6
     rw [q5] at p7
     exact hx1.trans (hx.trans (q6.trans p7))
    have hcc : (resA G (C.ps.filterMap Pm.out) C.rs r (outsA G C.ps bk (rest G (C.ps.filterMap Pm.out) C.rs r) st')).2.c = st.c := by rw [p6, q5, hc, hc1]
    have hMf : MemS G W0 L0 T0 (resA G (C.ps.filterMap Pm.out) C.rs r (outsA G C.ps bk (rest G (C.ps.filterMap Pm.out) C.rs r) st')).2.L (resA G (C.ps.filterMap Pm.out) C.rs r (outsA G C.ps bk (rest G (C.ps.filterMap Pm.out) C.rs r) st')).2.T m' z2 w' := ⟨_, _, p2, p3, hSf, p8 hsf'⟩
    unfold behind
    cases d with
    | none => exact ⟨Sat.of0 h0 (hm1.trans hm') hEnv hMf hdf hsz, hX, hcc⟩
    | some d =>
     refine ⟨Sat.of h0 (hm1.trans hm') hEnv (evs_rel p4) hMf (hd d rfl) hdf hsz, hX.trans ?_, hcc⟩
     rw [← hcc]; exact Ext.put
   have hrun : Step P ⟨d, .call ⟨.value (.func C.f), xs.toArray, tys⟩, ty, pos, aft, g⟩ a w (fun v w' => ∃ (m' : M) (us : List Value) (Lr Lp' : List (Nat × List Value)) (Tr : List (Nat × Value)), M.le m1 m' ∧ S W0 m' w' (Lr ++ (Lp' ++ (Lc' ++ L0.l))) (Tr ++ (Tc' ++ T0)) ∧ v = tup us ∧ RRel G m' (C.ps.filterMap Pm.out) C.rs us r Lr Tr ∧ ORel G m' C.ps (xs.map a.eval) (rest G (C.ps.filterMap Pm.out) C.rs r) Lp Lp') := by
    intro ro Kk Q hk
    have hrun : (execOp a.eval ⟨d, .call ⟨.value (.func C.f), xs.toArray, tys⟩, ty, pos, aft, g⟩).run P w = .ok (.enter C.f (xs.map a.eval).toArray) w := by
     simp [execOp, resolve, Act.eval, Deferred.ofValue, invoke, argl_eval hE (argl_map hl), C.hc]
    refine wpR_enter hrun (hcall.mono fun e w' he => ?_)
    cases e with
    | returned v => exact hk v w' he
    | panicked ch => exact he.elim
    | outgrown => exact he.elim
   exact hrun.imp post
  ·exact .none
 ·exact .none
end
end Go.Proofs.YthbonoagbeilkaaGreat.Hay
set_option linter.unusedVariables false
set_option linter.unusedSimpArgs false
namespace Go.Proofs.YthbonoagbeilkaaGreat.Hay
section
variable {G : Sg} {P : Program}
def dstOK (n : Nat) : Option Nat → Bool
 | some d => Nat.blt d n
 | none => true
def pureT (n : Nat) (Γ : Tab P G) (st : St G) (op : Op) (dst : Option Nat) : Option (Res2 G) :=
 match dst with
 | some d => (match pureOp Γ st.op (lvOf st.L) op with
  | some R => some ⟨R.β, R.mv, fun b => st.put d (R.k b)⟩
  | none => none)
 | none => none
def plainT (n : Nat) (Γ : Tab P G) (st : St G) (op : Op) (dst : Option Nat) : Option (Res2 G) :=
 match pureT n Γ st op dst with
 | some R => some R
 | none => turnOp Γ st op dst
def frzL : List Operand → St G → St G
 | [], st => st
 | x :: xs, st => frzL xs (frzO st x)
def stepT1 (n : Nat) (Γ : Tab P G) (D : List (CS P G)) (st : St G) (op : Op) (dst : Option Nat) : Option (Res2 G) :=
 match op with
 | .call ⟨.value (.func f), ⟨xs⟩, _⟩ => callT Γ D st f xs dst
 | .call ⟨.value x, ⟨xs⟩, _⟩ => (match dst with | some d => callV Γ st x xs d | none => none)
 | op => (match plainT n Γ st op dst with
  | some R => some R
  | none => plainT n Γ (frzL op.operands.toList st) op dst)
def runOp {ρ : Type} (n : Nat) (Γ : Tab P G) (D : List (CS P G)) (o : Oper) (st : St G) (K : St G → Option ρ) : Option ρ :=
 match dstOK n o.dst with
 | true => (match stepT1 n Γ D st o.op o.dst with
  | some R => R.mv.bind fun b => K (R.k b)
  | none => none)
 | false => none
def skipOp {ρ : Type} (n : Nat) (o : Oper) (st : St G) (K : St G → Option ρ) : Option ρ :=
 match o.dst with
 | some d => (match Nat.blt d n with | true => K (st.put d (.one .und)) | false => none)
 | none => K st
def AV.g? : AV G → Option (Option Bool)
 | .dat .bool x none => some (some x)
 | .und => some none
 | _ => none
def gd (e : Option (EV G)) : Option (Option Bool) := match av? e with | some b => b.g? | none => none
def exOps {ρ : Type} (n : Nat) (Γ : Tab P G) (D : List (CS P G)) (all : List Oper) : List Oper → St G → (St G → Option ρ) → Option ρ
 | [], st, K => K st
 | o :: r, st, K => (match o.guard with
  | none => runOp n Γ D o st fun st' => exOps n Γ D all r st' K
  | some (g, b) => (match dstOf all.toArray g with
   | some dg => (match Nat.blt dg n, gd (st.op (.tmp dg)) with
    | true, some (some x) => if x = true then
      (match b with
       | true => runOp n Γ D o (st.put dg (.one (db true))) fun st' => exOps n Γ D all r st' K
       | false => skipOp n o (st.put dg (.one (db true))) fun st' => exOps n Γ D all r st' K)
     else
      (match b with
       | false => runOp n Γ D o (st.put dg (.one (db false))) fun st' => exOps n Γ D all r st' K
       | true => skipOp n o (st.put dg (.one (db false))) fun st' => exOps n Γ D all r st' K)
    | true, some none => skipOp n o st fun st' => exOps n Γ D all r st' K
    | _, _ => none)
   | none => none))
end
section
variable {G : Sg} {P : Program} {δ : List Nat} {n : Nat} {W0 : Bse} {L0 : Rs} {T0 : List (Nat × Value)} {m0 : M} {st : St G} {a : Act} {w : World} {Γ : Tab P G} {D : List (CS P G)} {ty t t2 : TypeId} {pos : String} {aft : Array Edge} {g : Option (Nat × Bool)}
theorem callV_ok {x : Operand} {xs : List Operand} {tys : Array TypeId} {d : Nat} (hs : Sat G P δ n W0 L0 T0 m0 st a w) (hd : Nat.blt d n = true) :
  TG G P δ n W0 L0 T0 m0 st (callV Γ st x xs d) ⟨some d, .call ⟨.value x, xs.toArray, tys⟩, ty, pos, aft, g⟩ a w := by
 obtain ⟨⟨m, z, h0, hr, hM⟩, hdf, hsz⟩ := hs
 obtain ⟨Lc, Tc, h1, h2, hS, hsf⟩ := hM
 obtain ⟨l, hE, hl⟩ := opEnv hdf hsz (x :: xs)
 have hxl := hl x (by simp)
 have hal := argl_map (xs := xs) (a := a) (l := l) fun y hy => hl y (by simp [hy])
 unfold callV
 split
 ·rename_i a' b f y hx
  have hf := av_rel (op_rel hr) hx
  split
  ·rename_i p hy
   split
   ·rename_i u hu
    refine .two fun r hrr => ?_
    refine (st_callF1 hE hS hxl hal hf (AV.as_rel hu (av_rel (op_rel hr) hy)) hrr).imp fun v w' hq => ?_
    obtain ⟨m', hm, hS', hv⟩ := hq
    exact ⟨Sat.of h0 hm (hr.z hm (Zle.refl z)) ⟨hv, trivial⟩ ⟨Lc, Tc, h1.mono hm, h2, hS', hsf⟩ hd hdf hsz, Ext.put, rfl⟩
   ·exact .none
  ·exact .none
 ·rename_i a' c b f y y' hx
  have hf := av_rel (op_rel hr) hx
  split
  ·rename_i p p' hy hy'
   split
   ·rename_i u u' hu hu'
    refine .two fun r hrr => ?_
    refine (st_callF2 hE hS hxl hal hf (AV.as_rel hu (av_rel (op_rel hr) hy)) (AV.as_rel hu' (av_rel (op_rel hr) hy')) hrr).imp fun v w' hq => ?_
    obtain ⟨m', hm, hS', hv⟩ := hq
    exact ⟨Sat.of h0 hm (hr.z hm (Zle.refl z)) ⟨hv, trivial⟩ ⟨Lc, Tc, h1.mono hm, h2, hS', hsf⟩ hd hdf hsz, Ext.put, rfl⟩
   ·exact .none
  ·exact .none
 ·exact .none
theorem pureT_ok {op : Op} {dst : Option Nat} (hs : Sat G P δ n W0 L0 T0 m0 st a w) (hd : dstOK n dst = true) : TG G P δ n W0 L0 T0 m0 st (pureT n Γ st op dst) ⟨dst, op, ty, pos, aft, g⟩ a w := by
 obtain ⟨⟨m, z, h0, hr, hM⟩, hdf, hsz⟩ := hs
 unfold pureT
 split
 ·rename_i d
  split
  ·rename_i R hR
   intro R' b hr' hb
   injection hr' with hr'
   subst hr'
   refine (pure_ok (d := d) hdf hsz hM (op_rel hr) R b hR hb).imp fun v w' hq => ?_
   obtain ⟨rfl, hv⟩ := hq
   exact ⟨Sat.of h0 (M.le.refl m) hr hv hM hd hdf hsz, Ext.put, rfl⟩
  ·exact .none
 ·exact .none
theorem plainT_ok {op : Op} {dst : Option Nat} (hs : Sat G P δ n W0 L0 T0 m0 st a w) (hd : dstOK n dst = true) : TG G P δ n W0 L0 T0 m0 st (plainT n Γ st op dst) ⟨dst, op, ty, pos, aft, g⟩ a w := by
 unfold plainT
 split
 ·rename_i R hR
  rw [← hR]; exact pureT_ok hs hd
 ·exact turn_ok hs fun d he => by subst he; exact hd
theorem frzO_sat {x : Operand} (hs : Sat G P δ n W0 L0 T0 m0 st a w) : Sat G P δ n W0 L0 T0 m0 (frzO st x) a w ∧ Ext st.c st (frzO st x) ∧ (frzO st x).c = st.c := by
 obtain ⟨⟨m, z, h0, hr, hM⟩, hdf, hsz⟩ := hs
 obtain ⟨Lc, Tc, h1, h2, hS, hsf⟩ := hM
 obtain ⟨m', hm, ⟨hr', Lc', Tc', k1, k2, hS', hsf'⟩, hx, hc⟩ := frzO_ok (G := G) (P := P) (L0 := L0) (T0 := T0) (x := x) (st := st) (m := m) (z := z) ⟨hr, Lc, Tc, h1, h2, hS, hsf⟩
 exact ⟨⟨⟨m', z, h0.trans hm, hr', Lc', Tc', k1, k2, hS', hsf'⟩, hdf, hsz⟩, hx, hc⟩
theorem frzL_sat {xs : List Operand} (hs : Sat G P δ n W0 L0 T0 m0 st a w) : Sat G P δ n W0 L0 T0 m0 (frzL xs st) a w ∧ Ext st.c st (frzL xs st) ∧ (frzL xs st).c = st.c := by
 induction xs generalizing st with
 | nil => exact ⟨hs, Ext.refl _ _, rfl⟩
 | cons x xs ih =>
  obtain ⟨h1, h2, h3⟩ := frzO_sat (x := x) hs
  obtain ⟨k1, k2, k3⟩ := ih h1
  rw [h3] at k2 k3
  exact ⟨k1, h2.trans k2, k3⟩
theorem stepT1_ok {op : Op} {dst : Option Nat} (hs : Sat G P δ n W0 L0 T0 m0 st a w) (hd : dstOK n dst = true) : TG G P δ n W0 L0 T0 m0 st (stepT1 n Γ D st op dst) ⟨dst, op, ty, pos, aft, g⟩ a w := by
 unfold stepT1
 split
 ·exact callT_ok hs fun e he => by subst he; exact hd
 ·split
  ·exact callV_ok hs hd
  ·exact .none
 ·split
  ·rename_i R hR
   rw [← hR]; exact plainT_ok hs hd
  ·obtain ⟨h1, h2, h3⟩ := frzL_sat (xs := op.operands.toList) hs
   intro R b hR hb
   refine (plainT_ok h1 hd R b hR hb).imp fun v w' hq => ?_
   obtain ⟨q1, q2, q3⟩ := hq
   rw [h3] at q2 q3
   exact ⟨q1, h2.trans q2, q3⟩
variable {ρ : Type} {ro : Option Nat} {Q : Exit → Act → World → Prop} {K : St G → Option ρ} {res : ρ} {all : List Oper}
def Nxt (G : Sg) (P : Program) (δ : List Nat) (n : Nat) (W0 : Bse) (L0 : Rs) (T0 : List (Nat × Value)) (m0 : M) {ρ : Type} (K : St G → Option ρ) (res : ρ) (st0 : St G) (N : Act → World → Prop) : Prop :=
 ∀ st' a' w', K st' = some res → Sat G P δ n W0 L0 T0 m0 st' a' w' → Ext st0.c st0 st' → st'.c = st0.c → N a' w'
theorem Nxt.later {st0 st1 : St G} {N : Act → World → Prop} (h : Nxt G P δ n W0 L0 T0 m0 K res st0 N) (hx : Ext st0.c st0 st1) (hc : st1.c = st0.c) : Nxt G P δ n W0 L0 T0 m0 K res st1 N :=
 fun st' a' w' h1 h2 h3 h4 => h st' a' w' h1 h2 (hx.trans (by rw [hc] at h3; exact h3)) (by rw [h4, hc])
theorem runOp_ok {o : Oper} (hs : Sat G P δ n W0 L0 T0 m0 st a w) (h : runOp n Γ D o st K = some res) {N : Act → World → Prop} (k : Nxt G P δ n W0 L0 T0 m0 K res st N) :
  Step P o a w (fun v w' => N (a.put o.dst v) w') := by
 unfold runOp at h
 split at h
 ·rename_i hd
  split at h
  ·rename_i R hR
   cases hb : R.mv with
   | none => simp [hb] at h
   | some b =>
    simp only [hb, Option.bind_some] at h
    obtain ⟨dst, op, ty, pos, aft, g⟩ := o
    refine (stepT1_ok hs hd R b hR hb).imp fun v w' hq => ?_
    exact k _ _ _ h hq.1 hq.2.1 hq.2.2
  ·cases h
 ·cases h
theorem Sat.lit {dg : Nat} {x : Bool} (hs : Sat G P δ n W0 L0 T0 m0 st a w) (hd : Nat.blt dg n = true) (hx : gd (st.op (.tmp dg)) = some (some x)) : Sat G P δ n W0 L0 T0 m0 (st.put dg (.one (db x))) a w ∧ a.tmps.getD dg undef = .bool x := by
 obtain ⟨⟨m, z, h0, hr, hM⟩, hdf, hsz⟩ := hs
 have hv : a.tmps.getD dg undef = .bool x := by
  unfold gd at hx
  split at hx
  ·rename_i b hb
   have hrel := av_rel (op_rel hr) hb
   cases b with
   | dat t y oo =>
    cases t <;> cases oo <;> simp only [AV.g?, reduceCtorEq] at hx
    obtain rfl := Option.some.inj (Option.some.inj hx)
    exact RV_bool hrel.1
   | _ => simp [AV.g?] at hx
  ·cases hx
 refine ⟨⟨⟨m, z, h0, fun e he => ?_, hM⟩, hdf, hsz⟩, hv⟩
 rcases List.mem_cons.1 he with rfl | he
 ·show AV.Rel G P m z (db x) (a.tmps.getD dg undef)
  rw [hv]; exact rel_bool
 ·exact hr e (mem_rmk he).1
theorem yielded_bool {g dg : Nat} {x : Bool} (hs : a.tmps.size = n) (hg : dstOf all.toArray g = some dg) (hd : Nat.blt dg n = true) (hv : a.tmps.getD dg undef = .bool x) : yielded all.toArray a.tmps g = some x := by
 have hd' : dg < n := Nat.le_of_ble_eq_true hd
 unfold dstOf at hg
 unfold yielded
 rw [hg]
 rw [Array.getD_eq_getD_getElem?] at hv
 have hlt : dg < a.tmps.size := by omega
 simp only [Option.bind_some]
 rw [Array.getElem?_eq_getElem hlt] at hv ⊢
 simp at hv
 simp [hv]
theorem skip_ok {o : Oper} {r : List Oper} {g : Nat} {b : Bool} (hs : Sat G P δ n W0 L0 T0 m0 st a w) (hg : o.guard = some (g, b)) (hy : yielded all.toArray a.tmps g ≠ some b) (h : skipOp n o st K = some res)
  (k : Nxt G P δ n W0 L0 T0 m0 K res st (fun a w => wpL ro P all.toArray Q r a w)) : wpL ro P all.toArray Q (o :: r) a w := by
 refine wpListIn_step fun Kk hK => ?_
 have hw : Region.wanted o (yielded all.toArray a.tmps) = false := by
  simp only [Region.wanted, hg]
  simpa using hy
 rw [hw]
 simp only [Bool.false_eq_true, if_false]
 refine ⟨fun _ _ => trivial, hK _ _ ?_⟩
 unfold skipOp at h
 split at h
 ·rename_i d hd
  split at h
  ·rename_i hdn
   obtain ⟨⟨m, z, h0, hr, hM⟩, hdf, hsz⟩ := hs
   rw [hd]
   exact k _ _ _ h (Sat.of h0 (M.le.refl m) hr (show EV.Rel G P m z (.one .und) undef from rfl) hM hdn hdf hsz) Ext.put rfl
  ·cases h
 ·rename_i hd
  rw [hd]
  exact k _ _ _ h hs (Ext.refl _ _) rfl
theorem exOps_ok : ∀ {os : List Oper} {st : St G} {a : Act} {w : World}, exOps n Γ D all os st K = some res → Sat G P δ n W0 L0 T0 m0 st a w → Nxt G P δ n W0 L0 T0 m0 K res st (fun a w => wpL ro P all.toArray Q [] a w) → wpL ro P all.toArray Q os a w := by
 intro os
 induction os with
 | nil => intro st a w h hs k; exact k st a w h hs (Ext.refl _ _) rfl
 | cons o r ih =>
  intro st a w h hs k
  unfold exOps at h
  have tailN : ∀ {st1 : St G}, Ext st.c st st1 → st1.c = st.c → Nxt G P δ n W0 L0 T0 m0 (fun st' => exOps n Γ D all r st' K) res st1 (fun a w => wpL ro P all.toArray Q r a w) := by
   intro st1 hx hc st' a' w' h1 h2 h3 h4
   exact ih h1 h2 ((k.later hx hc).later h3 h4)
  split at h
  ·rename_i hg
   exact wpListIn_plain hg fun Kk hK => runOp_ok hs h (tailN (Ext.refl _ _) rfl) _ _ _ fun v w' hp => hK _ _ hp
  ·rename_i g b hg
   split at h
   ·rename_i dg hdg
    split at h
    ·rename_i x hd hx
     obtain ⟨hs1, hv⟩ := Sat.lit hs hd hx
     have hy := yielded_bool (all := all) hs.sz hdg hd hv
     have hx1 : Ext st.c st (st.put dg (.one (db x))) := Ext.put
     split at h
     ·rename_i hxt
      rw [hxt] at hy hs1 hx1
      split at h
      ·exact wpListIn_step fun Kk hK => by
        simp only [Region.wanted, hg, hy, beq_self_eq_true, if_true]
        exact runOp_ok hs1 h (tailN hx1 rfl) _ _ _ fun v w' hp => hK _ _ hp
      ·exact skip_ok hs1 hg (by rw [hy]; simp) h (tailN hx1 rfl)
     ·rename_i hxf
      have hxf' : x = false := by simpa using hxf
      rw [hxf'] at hy hs1 hx1
      split at h
      ·exact wpListIn_step fun Kk hK => by
        simp only [Region.wanted, hg, hy, beq_self_eq_true, if_true]
        exact runOp_ok hs1 h (tailN hx1 rfl) _ _ _ fun v w' hp => hK _ _ hp
      ·exact skip_ok hs1 hg (by rw [hy]; simp) h (tailN hx1 rfl)
    ·rename_i hd hx
     refine skip_ok hs hg ?_ h (tailN (Ext.refl _ _) rfl)
     obtain ⟨⟨m, z, h0, hr, hM⟩, hdf, hsz⟩ := hs
     have hu : a.tmps.getD dg undef = undef := by
      unfold gd at hx
      split at hx
      ·rename_i b hb
       have hrel := av_rel (op_rel hr) hb
       cases b with
       | und => exact hrel
       | dat t y oo => cases t <;> cases oo <;> simp [AV.g?] at hx
       | _ => simp [AV.g?] at hx
      ·cases hx
     rw [yielded_undef hdg hu]
     simp
    ·cases h
   ·cases h
end
end Go.Proofs.YthbonoagbeilkaaGreat.Hay
set_option linter.unusedVariables false
set_option linter.unusedSimpArgs false
namespace Go.Proofs.YthbonoagbeilkaaGreat.Hay
section
variable {G : Sg} {P : Program}
def rdArgs (Γ : Tab P G) (ρ : Operand → Option (EV G)) : (ps : List Pm) → List Operand → Option (DenPs G ps)
 | [], [] => some ()
 | .rd t :: ps, x :: xs => (match av? (ρ x), rdArgs Γ ρ ps xs with
  | some b, some y => (match b.as Γ t with | some u => some (u, y) | none => none)
  | _, _ => none)
 | .f1 a b :: ps, x :: xs => (match av? (ρ x), rdArgs Γ ρ ps xs with
  | some (.fn1 a' b' f), some y => if h : a' = a ∧ b' = b then some (h.1 ▸ h.2 ▸ f, y) else none
  | _, _ => none)
 | .f2 a c b :: ps, x :: xs => (match av? (ρ x), rdArgs Γ ρ ps xs with
  | some (.fn2 a' c' b' f), some y => if h : a' = a ∧ c' = c ∧ b' = b then some (h.1 ▸ h.2.1 ▸ h.2.2 ▸ f, y) else none
  | _, _ => none)
 | _, _ => none
def allRd : List Rm → Bool
 | [] => true
 | .rd _ :: rs => allRd rs
 | .ap _ :: rs => allRd rs
 | .ow _ :: _ => false
def resR (G : Sg) (os : List Ty) : (rs : List Rm) → DenTs G (rs.map Rm.ty ++ os) → List (AV G)
 | [], _ => []
 | r :: rs, x => .dat r.ty (hdT G r.ty (rs.map Rm.ty ++ os) x) none :: resR G os rs (tlT G r.ty (rs.map Rm.ty ++ os) x)
def rcall (Γ : Tab P G) (D : List (CS P G)) (ρ : Operand → Option (EV G)) (f : FuncId) (xs : List Operand) : Option (Res1 G) :=
 match findC D f with
 | some C => (match rdArgs Γ ρ C.ps xs, allRd C.rs with
  | some y, true => some ⟨DenTs G (Outs C.ps C.rs), C.g y, fun r => evs (resR G (C.ps.filterMap Pm.out) C.rs r)⟩
  | _, _ => none)
 | none => none
def rcallV (Γ : Tab P G) (ρ : Operand → Option (EV G)) (x : Operand) (xs : List Operand) : Option (Res1 G) :=
 match av? (ρ x), xs with
 | some (.fn1 a b f), [y] => (match av? (ρ y) with
  | some p => (match p.as Γ a with | some u => pb (f u) fun r => .dat b r none | none => none)
  | none => none)
 | some (.fn2 a c b f), [y, y'] => (match av? (ρ y), av? (ρ y') with
  | some p, some p' => (match p.as Γ a, p'.as Γ c with | some u, some u' => pb (f u u') fun r => .dat b r none | _, _ => none)
  | _, _ => none)
 | _, _ => none
def openOp (Γ : Tab P G) (D : List (CS P G)) (ρ : Operand → Option (EV G)) (Lv : Nat → Option (BC G)) (op : Op) : Option (Res1 G) :=
 match op with
 | .call ⟨.value (.func f), ⟨xs⟩, _⟩ => rcall Γ D ρ f xs
 | .call ⟨.value x, ⟨xs⟩, _⟩ => rcallV Γ ρ x xs
 | op => pureOp Γ ρ Lv op
def vis (all : List Oper) (k i : Nat) (pre : List Nat) (t : Nat) : Bool :=
 (all.take k).zipIdx.all fun p => match p.1.dst with
  | some d => !(Nat.beq d t) || pre.any (Nat.beq p.2) || (preds p.1).any (Nat.beq i)
  | none => true
def visρ (all : List Oper) (k i : Nat) (o : Oper) (st : St G) : Operand → Option (EV G)
 | .tmp t => (match vis all k i (preds o) t with | true => st.op (.tmp t) | false => none)
 | x => st.op x
def exOpen {ρ : Type} (n : Nat) (Γ : Tab P G) (D : List (CS P G)) (all : List Oper) (k : Nat) : Nat → List Oper → St G → (St G → Option ρ) → Option ρ
 | _, [], st, K => K st
 | i, o :: r, st, K => (match o.dst with
  | some d => (match Nat.blt d n, o.guard with
   | true, none => (match openOp Γ D (visρ all k i o st) (lvOf st.L) o.op with
    | some R => R.mv.bind fun b => exOpen n Γ D all k (i + 1) r (st.put d (R.k b)) K
    | none => none)
   | true, some (g, b) => (match (preds o).any (Nat.beq g), dstOf (all.take k).toArray g with
    | true, some dg => (match Nat.blt dg n, gd (st.op (.tmp dg)) with
     | true, some (some x) => if x = true then
       (match b with
        | true => (match openOp Γ D (visρ all k i o (st.put dg (.one (db true)))) (lvOf st.L) o.op with
         | some R => R.mv.bind fun b => exOpen n Γ D all k (i + 1) r ((st.put dg (.one (db true))).put d (R.k b)) K
         | none => none)
        | false => exOpen n Γ D all k (i + 1) r ((st.put dg (.one (db true))).put d (.one .und)) K)
      else
       (match b with
        | false => (match openOp Γ D (visρ all k i o (st.put dg (.one (db false)))) (lvOf st.L) o.op with
         | some R => R.mv.bind fun b => exOpen n Γ D all k (i + 1) r ((st.put dg (.one (db false))).put d (R.k b)) K
         | none => none)
        | true => exOpen n Γ D all k (i + 1) r ((st.put dg (.one (db false))).put d (.one .und)) K)
     | true, some none => exOpen n Γ D all k (i + 1) r (st.put d (.one .und)) K
     | _, _ => none)
    | _, _ => none)
   | _, _ => none)
  | none => none)
def isSp (o : Oper) : Bool := match o.op with
 | .alloc _ => true
 | .store _ _ _ => true
 | _ => false
inductive Sp (G : Sg) where
 | al (d : Nat) (t : Ty) (x : t.den G)
 | so (i : Nat) (t : Ty) (x : t.den G)
def Sp.blk : Sp G → Option Nat
 | .al _ _ _ => none
 | .so i _ _ => some i
def spOf (Γ : Tab P G) (ρ : Operand → Option (EV G)) (Lv : Nat → Option (BC G)) (o : Oper) : Option (Sp G) :=
 match o.guard, o.dst, o.op with
 | none, some d, .alloc t => (match Γ.ar t, Γ.ty t with | none, some I => some (.al d I.T I.z) | _, _ => none)
 | none, none, .store t x y => (match Γ.ty t, av? (ρ x), av? (ρ y) with
  | some I, some (.blk i), some b => (match Lv i with
   | some (.dat c _) => if c = I.T then (match b.as Γ I.T with | some u => some (.so i I.T u) | none => none) else none
   | _ => none)
  | _, _, _ => none)
 | _, _, _ => none
def stG (st : St G) : List Oper → List (Option Nat)
 | [] => []
 | o :: r => (match o.op with
  | .alloc _ => none :: stG st r
  | .store _ x _ => (match av? (st.op x) with | some (.blk i) => some i :: stG st r | _ => none :: stG st r)
  | _ => stG st r)
def goneL (c : Nat) : List (Option Nat) → List (Nat × BC G) → List (Nat × BC G)
 | [], L => L
 | none :: r, L => goneL c r L
 | some i :: r, L => sb (goneL c r L) i (c, .gone)
def gOK (Lv : Nat → Option (BC G)) : List (Option Nat) → Bool
 | [] => true
 | none :: r => gOK Lv r
 | some i :: r => (match Lv i with | some (.dat _ _) => true | _ => false) && !(r.any fun j => decide (j = some i)) && gOK Lv r
def applySp : List (Nat × Sp G) → St G → St G
 | [], st => st
 | (_, .al d t x) :: r, st => applySp r ((st.push (.dat t x)).put d (.one (.blk st.L.length)))
 | (_, .so i t x) :: r, st => applySp r (st.setB i (.dat t x))
def exOpenS {ρ : Type} (n : Nat) (Γ : Tab P G) (D : List (CS P G)) (all : List Oper) (k : Nat) (Lv : Nat → Option (BC G)) : Nat → List Oper → St G → List (Nat × Sp G) → (St G → List (Nat × Sp G) → Option ρ) → Option ρ
 | _, [], st, acc, K => K st acc
 | i, o :: r, st, acc, K => (match isSp o with
  | true => (match dstOK n o.dst, spOf Γ (visρ all k i o st) Lv o with
   | true, some sp => exOpenS n Γ D all k Lv (i + 1) r (match o.dst with | some d => { st with env := rmk st.env d } | none => st) (acc ++ [(i, sp)]) K
   | _, _ => none)
  | false => exOpen n Γ D all k i [o] st fun st' => exOpenS n Γ D all k Lv (i + 1) r st' acc K)
def kTail (all : List Oper) : Nat := all.zipIdx.foldl (fun acc p => if Nat.beq p.2 0 || (preds p.1).any (fun e => Nat.beq (e + 1) p.2) then acc else p.2) 0
def kOf (all : List Oper) : Nat := match tailOK all (kTail all) with | true => kTail all | false => (match tailOK all (kTail all + 1) with | true => kTail all + 1 | false => all.length)
def exRegion {ρ : Type} (n : Nat) (Γ : Tab P G) (D : List (CS P G)) (all : List Oper) (dr : Bool) (st : St G) (K : St G → Option ρ) : Option ρ :=
 match dr with
 | false => exOps n Γ D all all st K
 | true => (match edgesOK all && tailOK all (kOf all) && dstOK' (all.take (kOf all)) n with
  | true => (match (all.take (kOf all)).any isSp with
   | false => exOpen n Γ D all (kOf all) 0 (all.take (kOf all)) st fun st' => exOps n Γ D all (all.drop (kOf all)) st' K
   | true => (match gOK (lvOf st.L) (stG st (all.take (kOf all))) with
    | true => exOpenS n Γ D all (kOf all) (lvOf st.L) 0 (all.take (kOf all)) { st with L := goneL st.c (stG st (all.take (kOf all))) st.L } [] fun st' sps =>
      if sps.map (fun q => q.2.blk) = stG st (all.take (kOf all)) then exOps n Γ D all (all.drop (kOf all)) (applySp sps st') K else none
    | false => none))
  | false => none)
end
section
variable {G : Sg} {P : Program} {δ : List Nat} {n : Nat} {W0 : Bse} {L0 : Rs} {T0 : List (Nat × Value)} {m m0 : M} {z : Cz} {st : St G} {a : Act} {w : World} {Γ : Tab P G} {D : List (CS P G)} {ty t t2 : TypeId} {pos : String} {aft : Array Edge} {g : Option (Nat × Bool)} {Ls : List (Nat × BC G)} {Ts : List Nat} {ρ : Operand → Option (EV G)} {d : Nat}
theorem rdArgs_ok (hρ : ∀ x e, ρ x = some e → e.Rel G P m z (a.eval x)) : ∀ {ps : List Pm} {xs : List Operand} {y : DenPs G ps}, rdArgs Γ ρ ps xs = some y → PRel G P m ps (xs.map a.eval) y [] [] ∧ ps.filterMap Pm.out = [] := by
 intro ps
 induction ps with
 | nil =>
  intro xs y h
  cases xs with
  | nil => exact ⟨trivial, rfl⟩
  | cons x xs => simp [rdArgs] at h
 | cons p ps ih =>
  intro xs y h
  cases xs with
  | nil => cases p <;> simp [rdArgs] at h
  | cons x xs =>
   cases p with
   | rd t =>
    simp only [rdArgs] at h
    split at h
    ·rename_i b y' hb hy
     split at h
     ·rename_i u hu
      injection h with h
      subst h
      obtain ⟨h1, h2⟩ := ih hy
      exact ⟨⟨AV.as_rel hu (av_rel hρ hb), h1⟩, h2⟩
     ·cases h
    ·cases h
   | f1 b c =>
    simp only [rdArgs] at h
    split at h
    ·rename_i a' b' f y' hb hy
     split at h
     ·rename_i hh
      obtain ⟨rfl, rfl⟩ := hh
      injection h with h
      subst h
      obtain ⟨h1, h2⟩ := ih hy
      exact ⟨⟨av_rel hρ hb, h1⟩, h2⟩
     ·cases h
    ·cases h
   | f2 b c e =>
    simp only [rdArgs] at h
    split at h
    ·rename_i a' c' b' f y' hb hy
     split at h
     ·rename_i hh
      obtain ⟨rfl, rfl, rfl⟩ := hh
      injection h with h
      subst h
      obtain ⟨h1, h2⟩ := ih hy
      exact ⟨⟨av_rel hρ hb, h1⟩, h2⟩
     ·cases h
    ·cases h
   | _ => simp [rdArgs] at h
theorem resR_ok {os : List Ty} : ∀ {rs : List Rm} {us : List Value} {x : DenTs G (rs.map Rm.ty ++ os)} {Lr : List (Nat × List Value)} {Tr : List (Nat × Value)}, allRd rs = true → RRel G m os rs us x Lr Tr → Lr = [] ∧ RelL G P m z (resR G os rs x) us := by
 intro rs
 induction rs with
 | nil =>
  intro us x Lr Tr _ h
  cases us <;> cases Lr <;> cases Tr <;> first | exact h.elim | exact ⟨rfl, trivial⟩
 | cons r rs ih =>
  intro us x Lr Tr ha h
  cases r with
  | rd t =>
   cases us with
   | nil => exact h.elim
   | cons u us =>
    obtain ⟨k1, k2⟩ := h
    obtain ⟨r1, r3⟩ := ih ha k2
    exact ⟨r1, ⟨k1, trivial⟩, r3⟩
  | ap t =>
   cases us with
   | nil => cases Lr <;> cases Tr <;> exact h.elim
   | cons u us =>
    cases Tr with
    | nil => cases Lr <;> exact h.elim
    | cons e Tr =>
     obtain ⟨k1, _, k2⟩ := h
     obtain ⟨r1, r3⟩ := ih ha k2
     exact ⟨r1, ⟨k1, trivial⟩, r3⟩
  | _ => simp [allRd] at ha
def OpenG (G : Sg) (P : Program) (W0 : Bse) (L0 : Rs) (T0 : List (Nat × Value)) (Ls : List (Nat × BC G)) (Ts : List Nat) (m : M) (z : Cz) (r : Option (Res1 G)) (o : Oper) (a : Act) (w : World) : Prop :=
 ∀ R b, r = some R → R.mv = some b → Step P o a w (fun v w' => ∃ m', M.le m m' ∧ MemS G W0 L0 T0 Ls Ts m' z w' ∧ (R.k b).Rel G P m' z v)
theorem OpenG.none {o : Oper} : OpenG G P W0 L0 T0 Ls Ts m z none o a w := fun R b hr => by cases hr
theorem ORel_nil {vs : List Value} {Lp' : List (Nat × List Value)} : ∀ {ps : List Pm} {vs : List Value} {x : DenTs G (ps.filterMap Pm.out)}, ps.filterMap Pm.out = [] → ORel G m ps vs x [] Lp' → Lp' = [] := by
 intro ps
 induction ps with
 | nil => intro vs x _ h; cases Lp' with | nil => rfl | cons e l => exact h.elim
 | cons p ps ih =>
  intro vs x he h
  cases p with
  | pt t => simp [Pm.out] at he
  | ow t => simp [Pm.out] at he
  | _ =>
   cases vs with
   | nil => exact h.elim
   | cons v vs => exact ih (by simpa [Pm.out] using he) h
theorem openOp_ok {op : Op} (hd : a.defers = δ.map fun D => { target := .collected D, args := #[] }) (hs : a.tmps.size = n) (hM : MemS G W0 L0 T0 Ls Ts m z w) (hρ : ∀ x e, ρ x = some e → e.Rel G P m z (a.eval x)) :
  OpenG G P W0 L0 T0 Ls Ts m z (openOp Γ D ρ (lvOf Ls) op) ⟨some d, op, ty, pos, aft, g⟩ a w := by
 unfold openOp
 split
 ·rename_i f xs tys
  obtain ⟨l, hE, hl⟩ := opEnv hd hs xs
  unfold rcall
  split
  ·rename_i C hC
   have hf := findC_f hC
   subst hf
   split
   ·rename_i y hy ha
    intro R r hR hr
    injection hR with hR
    subst hR
    obtain ⟨hP, hO⟩ := rdArgs_ok hρ hy
    obtain ⟨Lc, Tc, h1, h2, hS, hsf⟩ := hM
    have hcall := C.ok W0 m w (Lc ++ L0.l) (Tc ++ T0) (xs.map a.eval) y r [] [] hS hP hr
    intro ro Kk Q hk
    have hrun : (execOp a.eval ⟨some d, .call ⟨.value (.func C.f), xs.toArray, tys⟩, ty, pos, aft, g⟩).run P w = .ok (.enter C.f (xs.map a.eval).toArray) w := by
     simp [execOp, resolve, Act.eval, Deferred.ofValue, invoke, argl_eval hE (argl_map hl), C.hc]
    refine wpR_enter hrun (hcall.mono fun e w' he => ?_)
    cases e with
    | returned v =>
     obtain ⟨m', us, Lr, Lp', Tr, hm, hS', rfl, hR, hO'⟩ := he
     obtain ⟨rfl, r3⟩ := resR_ok (P := P) (z := z) ha hR
     have := ORel_nil (vs := []) hO hO'
     subst this
     have hS2 := hS'.dropT Tr.length
     rw [List.drop_left] at hS2
     exact hk _ _ ⟨m', hm, ⟨Lc, Tc, h1.mono hm, h2, hS2, hsf⟩, evs_rel r3⟩
    | panicked ch => exact he.elim
    | outgrown => exact he.elim
   ·exact .none
  ·exact .none
 ·rename_i x xs tys _
  obtain ⟨Lc, Tc, h1, h2, hS, hsf⟩ := hM
  obtain ⟨l, hE, hl⟩ := opEnv hd hs (x :: xs)
  have hxl := hl x (by simp)
  have hal := argl_map (xs := xs) (a := a) (l := l) fun y hy => hl y (by simp [hy])
  unfold rcallV
  split
  ·rename_i a' b f y hx
   have hf := av_rel hρ hx
   split
   ·rename_i p hy
    split
    ·rename_i u hu
     intro R r hR hr
     injection hR with hR
     subst hR
     refine (st_callF1 hE hS hxl hal hf (AV.as_rel hu (av_rel hρ hy)) hr).imp fun v w' hq => ?_
     obtain ⟨m', hm, hS', hv⟩ := hq
     exact ⟨m', hm, ⟨Lc, Tc, h1.mono hm, h2, hS', hsf⟩, hv, trivial⟩
    ·exact .none
   ·exact .none
  ·rename_i a' c b f y y' hx
   have hf := av_rel hρ hx
   split
   ·rename_i p p' hy hy'
    split
    ·rename_i u u' hu hu'
     intro R r hR hr
     injection hR with hR
     subst hR
     refine (st_callF2 hE hS hxl hal hf (AV.as_rel hu (av_rel hρ hy)) (AV.as_rel hu' (av_rel hρ hy')) hr).imp fun v w' hq => ?_
     obtain ⟨m', hm, hS', hv⟩ := hq
     exact ⟨m', hm, ⟨Lc, Tc, h1.mono hm, h2, hS', hsf⟩, hv, trivial⟩
    ·exact .none
   ·exact .none
  ·exact .none
 ·intro R b hR hb
  refine (pure_ok hd hs hM hρ R b hR hb).imp fun v w' hq => ?_
  obtain ⟨rfl, hv⟩ := hq
  exact ⟨m, M.le.refl m, hM, hv⟩
end
end Go.Proofs.YthbonoagbeilkaaGreat.Hay
