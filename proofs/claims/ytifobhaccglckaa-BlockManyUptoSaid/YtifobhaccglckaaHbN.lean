import Derived.Test.YtifobhaccglckaaHbM
import Derived.Shelf.GgSortFunc.InsertionK
import Derived.Shelf.SlSortCmp.InsertionK
namespace Go.Proofs.Ytifobhaccglckaa.Hay
open Go.RowKit (Below)
open Go.Sort (grow ahead putRowK flatK HoldsK mapBlock onCells putCells)
open Go.Shelf Go.Lib

section
variable {P : Program} {W0 : Bse} {m : M} {L : List (Nat × List Value)} {TL : List (Nat × Value)} {w : World} {α : Type} {k : Kd α}
theorem grow_old (w : World) (os : Array Obj) (b : Nat) (h : b < w.heap.size) : (grow w os).heap[b]? = w.heap[b]? := by
  show (w.heap ++ os)[b]? = _
  rw [Array.getElem?_append_left h]
theorem S.more (h : S W0 m w L TL) (os : Array Obj) : S W0 m (Go.Sort.grow w os) L TL := by
  have hB : W0.heap.size ≤ w.heap.size := h.below.size
  refine ⟨h.below.step ⟨⟨rfl, rfl, rfl, by simp [Go.Sort.grow], fun j hj => grow_old w os j (by omega)⟩, Nat.le_refl _⟩ (fun k o hk _ => by rw [grow_old w os k (Array.getElem?_eq_some_iff.1 hk).1]; exact hk), fun b l hb => ?_, fun i e he hv => ?_, h.nodup, fun i e he => tail_heap (fun b hb => grow_old w os b hb) (h.tails i e he), h.apart⟩
  · rw [grow_old w os b (h.lt hb)]; exact h.imm b l hb
  · obtain ⟨h1, h2, t, h3⟩ := h.own i e he hv
    exact ⟨h1, h2, t, by rw [grow_old w os _ (Array.getElem?_eq_some_iff.1 h3).1]; exact h3⟩
theorem S.aheadN (h : S W0 m w L TL) (n : Nat) : S W0 m (Go.Sort.ahead w n) L TL :=
  ⟨⟨⟨⟨h.below.os, h.below.tape, h.below.output, h.below.size, h.below.block⟩, Nat.le_trans h.below.drawn (Nat.le_add_right _ _)⟩, h.below.kept⟩, h.imm, h.own, h.nodup, fun i e he => by
    have := h.tails i e he
    revert this
    cases e with | mk s v => cases v <;> intro h <;> exact h, h.apart⟩
theorem grown_of_bel {w w' : World} (h : Bel w.heap.size w w') : ∃ q os', w' = grow (w.drewN q) os' := by
  refine ⟨w'.drawn - w.drawn, w'.heap.extract w.heap.size w'.heap.size, ?_⟩
  have hd := h.drawn
  have hs := h.size
  have hh : w'.heap = w.heap ++ w'.heap.extract w.heap.size w'.heap.size := by
    apply Array.ext_getElem?
    intro i
    by_cases hi : i < w.heap.size
    · rw [Array.getElem?_append_left hi]; exact h.block i hi
    · rw [Array.getElem?_append_right (by omega), Array.getElem?_extract]
      by_cases hi' : i < w'.heap.size
      · rw [if_pos (by omega)]; congr 1; omega
      · rw [if_neg (by omega), Array.getElem?_eq_none (by omega)]
  have h1 := h.os
  have h2 := h.tape
  have h3 := h.output
  cases w; cases w'
  simp only [grow, World.drewN] at *
  subst h1; subst h2; subst h3
  simp only [World.mk.injEq, true_and, and_true]
  exact ⟨hh, by omega⟩
end
abbrev El {α : Type} (k : Kd α) (m : M) (xs : List α) : Type := {p : List Value × α // k.R m p.1 p.2 ∧ p.2 ∈ xs}
def Good {α : Type} (cmp : α → α → Option Int) (xs : List α) : Prop :=
  (∀ x ∈ xs, ∀ y ∈ xs, ∃ c, cmp x y = some c ∧ inR .i64 c) ∧ (∀ x ∈ xs, ¬ (cmp x x).getD 0 < 0) ∧
  (∀ x ∈ xs, ∀ y ∈ xs, ∀ z ∈ xs, (cmp x y).getD 0 < 0 → (cmp y z).getD 0 < 0 → (cmp x z).getD 0 < 0) ∧
  (∀ x ∈ xs, ∀ y ∈ xs, ∀ z ∈ xs, ¬ (cmp x y).getD 0 < 0 → ¬ (cmp y z).getD 0 < 0 → ¬ (cmp x z).getD 0 < 0) ∧
  (∀ x ∈ xs, ∀ y ∈ xs, ¬ (cmp x y).getD 0 < 0 → ¬ (cmp y x).getD 0 < 0 → x = y)
noncomputable section
open Classical in
def sortM {α : Type} (cmp : α → α → Option Int) (xs : List α) : Option (List α) := if Good cmp xs then some ((xs.attach.mergeSort fun x y => !decide ((cmp y.1 x.1).getD 0 < 0)).map (·.1)) else none
end
theorem sortM_some {α : Type} {cmp : α → α → Option Int} {xs r : List α} (h : sortM cmp xs = some r) : Good cmp xs ∧ r.Perm xs ∧ r.Pairwise (fun x y => ¬ (cmp y x).getD 0 < 0) := by
  unfold sortM at h
  split at h
  · rename_i hg
    injection h with h
    subst h
    refine ⟨hg, ?_, ?_⟩
    · have := (List.mergeSort_perm xs.attach fun x y => !decide ((cmp y.1 x.1).getD 0 < 0)).map (·.1)
      have e : xs.attach.map (fun x => x.val) = xs := by simp
      rwa [e] at this
    · rw [List.pairwise_map]
      have h1 := List.pairwise_mergeSort (le := fun (x y : {x // x ∈ xs}) => !decide ((cmp y.1 x.1).getD 0 < 0)) (fun a b c hab hbc => by
        simp only [Bool.not_eq_true', decide_eq_false_iff_not] at *
        exact hg.2.2.2.1 c.1 c.2 b.1 b.2 a.1 a.2 hbc hab) (fun a b => by
        simp only [Bool.or_eq_true, Bool.not_eq_true', decide_eq_false_iff_not]
        by_cases h : (cmp b.1 a.1).getD 0 < 0
        · right; intro h'
          exact hg.2.1 a.1 a.2 (hg.2.2.1 a.1 a.2 b.1 b.2 a.1 a.2 h' h)
        · left; exact h) xs.attach
      exact h1.imp fun h => by simpa using h
  · cases h
section
variable {P : Program} {W0 : Bse} {m : M} {L : List (Nat × List Value)} {TL : List (Nat × Value)} {w : World} {α : Type} {k : Kd α} {b : Nat} {cs : List Value} {xs : List α}
theorem exists_els (h : Rl k m cs xs) : ∃ d : List (El k m xs), d.map (fun a => a.1.2) = xs ∧ (d.flatMap fun a => a.1.1) = cs := by
  have gen : ∀ (ys : List α) (cs : List Value), (∀ y ∈ ys, y ∈ xs) → Rl k m cs ys → ∃ d : List (El k m xs), d.map (fun a => a.1.2) = ys ∧ (d.flatMap fun a => a.1.1) = cs := by
    intro ys
    induction ys with
    | nil => intro cs _ h; exact ⟨[], rfl, by have := h.1; simp at this; simp [this]⟩
    | cons y r ih =>
      intro cs hm h
      have h0 := h.2 0 (by simp)
      simp only [Nat.zero_mul, List.drop_zero, List.getElem_cons_zero] at h0
      have h1 := h.drop 1
      simp only [Nat.one_mul, List.drop_succ_cons, List.drop_zero] at h1
      obtain ⟨d, hd1, hd2⟩ := ih _ (fun z hz => hm z (by simp [hz])) h1
      exact ⟨⟨(cs.take k.sz, y), h0, hm y (by simp)⟩ :: d, by simp [hd1], by simp [hd2]⟩
  exact gen xs cs (fun _ h => h) h
theorem flat_els (d : Array (El k m xs)) [Inhabited (El k m xs)] : (flatK (fun a : El k m xs => a.1.1) k.sz d).toList = d.toList.flatMap fun a => a.1.1 := by
  have hp := k.pos
  have hlen : (d.toList.flatMap fun a => a.1.1).length = d.size * k.sz := by
    have : ∀ l : List (El k m xs), (l.flatMap fun a => a.1.1).length = l.length * k.sz := by
      intro l
      induction l with
      | nil => simp
      | cons a r ih => rw [List.flatMap_cons, List.length_append, ih, k.len a.2.1, List.length_cons, Nat.add_mul]; omega
    rw [this]; simp
  have key : ∀ (l : List (El k m xs)) (t : Nat), t < l.length * k.sz → (l.flatMap fun a => a.1.1)[t]? = (l[t / k.sz]?).bind fun a => a.1.1[t % k.sz]? := by
    intro l
    induction l with
    | nil => intro t h; simp at h
    | cons a r ih =>
      intro t ht
      have hl := k.len a.2.1
      rw [List.flatMap_cons]
      by_cases h : t < k.sz
      · rw [List.getElem?_append_left (by omega), Nat.div_eq_of_lt h, Nat.mod_eq_of_lt h]; rfl
      · rw [List.getElem?_append_right (by omega), hl, ih _ (by simp [Nat.add_mul] at ht; omega)]
        have e1 : t / k.sz = (t - k.sz) / k.sz + 1 := by rw [← Nat.add_div_right _ hp]; congr 1; omega
        have e2 : t % k.sz = (t - k.sz) % k.sz := by rw [← Nat.mod_eq_sub_mod (by omega)]
        rw [e1, e2, List.getElem?_cons_succ]
  apply List.ext_getElem
  · rw [hlen]; simp
  intro t h1 h2
  have ht : t < d.size * k.sz := by simpa using h1
  have hq : t / k.sz < d.size := by rw [Nat.div_lt_iff_lt_mul hp]; exact ht
  have h3 := key d.toList t (by simpa using ht)
  rw [List.getElem?_eq_getElem h2] at h3
  have hr : t % k.sz < d[t / k.sz].1.1.length := by rw [k.len d[t / k.sz].2.1]; exact Nat.mod_lt _ hp
  have h4 : (d.toList[t / k.sz]?) = some d[t / k.sz] := by simp [hq]
  rw [h4] at h3
  simp only [Option.bind_some] at h3
  rw [List.getElem?_eq_getElem hr] at h3
  injection h3 with h3
  rw [h3]
  simp only [Array.getElem_toList]
  simp only [flatK, Array.getElem_map, Array.getElem_range]
  rw [getElem!_pos d (t / k.sz) hq]
  exact getElem!_pos (d[t / k.sz].1.1) (t % k.sz) hr
theorem putRow_eq {A : Type} [Inhabited A] (enc : A → List Value) (sz : Nat) (w : World) (b : Nat) (cs : List Value) (t : TypeId) (d : Array A) (hb : w.heap[b]? = some (.cells cs.toArray t (0, 0))) (hl : d.size * sz ≤ cs.length) :
    putRowK enc sz w b 0 d = w.setRow b ((flatK enc sz d).toList ++ cs.drop (d.size * sz)).toArray := by
  have hlt := (Array.getElem?_eq_some_iff.1 hb).1
  have hv := (Array.getElem?_eq_some_iff.1 hb).2
  unfold putRowK Go.Sort.putRow mapBlock World.setRow
  congr 1
  apply Array.ext_getElem?
  intro i
  rw [Array.getElem?_modify, Array.getElem?_modify]
  by_cases hi : b = i
  · subst hi
    simp only [if_true, hb, Option.map_some, onCells]
    congr 2
    apply Array.ext
    · simp [putCells]; omega
    · intro j h1 h2
      simp only [putCells, Array.getElem_mapIdx]
      have hj : j < cs.length := by simpa [putCells] using h1
      by_cases hjd : j < d.size * sz
      · have hfl : j < (flatK enc sz d).size := by simpa using hjd
        have hc1 : 0 ≤ j ∧ j < 0 + (flatK enc sz d).size := ⟨Nat.zero_le _, by simpa using hjd⟩
        rw [if_pos hc1]
        simp only [Nat.sub_zero, id_eq, List.getElem_toArray]
        rw [List.getElem_append_left (by simpa using hjd), getElem!_pos _ j hfl]
        simp
      · have hc1 : ¬ (0 ≤ j ∧ j < 0 + (flatK enc sz d).size) := by simp; omega
        rw [if_neg hc1]
        simp only [List.getElem_toArray]
        rw [List.getElem_append_right (by simp; omega), List.getElem_drop]
        congr 1; simp; omega
  · simp [hi]
end
end Go.Proofs.Ytifobhaccglckaa.Hay
