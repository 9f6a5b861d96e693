import Derived.Test.YtifobhaccglckaaHbN
import Derived.Shelf.SlSortCmp.NoneTotal
namespace Go.Proofs.Ytifobhaccglckaa.Hay
open Go.Proofs Go.Shelf Go.Lib
open Go.Sort (putRowK flatK HoldsK SWO PermIn SortedIn)

section
variable {P : Program} {W0 : Bse} {m : M} {L : List (Nat × List Value)} {TL : List (Nat × Value)} {w : World} {α : Type} {k : Kd α} {b : Nat} {cs : List Value} {xs : List α}
theorem S.rebase (h : S W0 m w L TL) : S ⟨w, fun _ => none⟩ m w [] [] :=
  ⟨⟨Bel.refl _ _, fun k o h => by cases h⟩, h.imm, fun i e he => by simp at he, fun i j e e' he => by simp at he, fun i e he => by simp at he, fun i j e e' he => by simp at he⟩
theorem Rl_els (l : List (El k m xs)) : Rl k m (l.flatMap fun a => a.1.1) (l.map fun a => a.1.2) := by
  induction l with
  | nil => exact Rl.nil
  | cons a r ih => exact Rl.app (Rl.single a.2.1) ih
theorem sort_calls {ρ : Ren} {v fv : Value} {cmp : α → α → Option Int} {r : List α} (Ly : SlLaysF0.n6 P ρ) (aE : ∀ w, (isAgg (ρ.t 24)).run P w = .ok true w) (zE : ∀ w, (Go.sizeOf (ρ.t 24)).run P w = .ok k.sz w) (hagg : k.agg = true)
    (hS : S W0 m w ((b, cs) :: L) TL) (hg : GS k m b cs v xs) (hf : Fn2 P k k (kInt .i64) m fv cmp) (h : sortM cmp xs = some r) :
    Calls P (ρ.f 6) [v, fv].toArray w (Ret fun _ w' => ∃ m', M.le m m' ∧ ∃ q0 : List Value, S W0 m' w' ((b, q0) :: L) TL ∧ GS k m' b q0 v r) := by
  obtain ⟨g, cb, rfl, eg, hcall⟩ := hf
  obtain ⟨hgood, hperm, hpw⟩ := sortM_some h
  have hrl : r.length = xs.length := hperm.length_eq
  by_cases hx : xs = []
  · subst hx
    have hr : r = [] := List.eq_nil_of_length_eq_zero hrl
    subst hr
    obtain ⟨a, cap, rfl, _⟩ := hg.val
    refine (AnyF.slices_SortFunc_none Ly a cap (.func (.func g) #[] cb) w).mono ?_
    rintro e w' ⟨rfl, rfl⟩
    exact ⟨m, M.le.refl m, cs, hS, hg⟩
  · have hg' := hg
    obtain ⟨h0, ⟨rfl, _⟩ | ⟨cap, rfl, h2, h3, h4⟩⟩ := hg
    · exact absurd rfl hx
    have hn : 0 < xs.length := List.length_pos_iff.2 hx
    have hp := k.pos
    have hle : xs.length * k.sz ≤ cap * k.sz := Nat.mul_le_mul_right _ h2
    have hpos : 0 < xs.length * k.sz := Nat.mul_pos hn hp
    have hne : cs ≠ [] := fun e => by subst e; simp at h3; omega
    obtain ⟨dl, hd1, hd2⟩ := exists_els h4
    have hdl : dl.length = xs.length := by
      have := congrArg List.length hd1
      simpa using this
    obtain ⟨hB, hm, t, ht⟩ := hS.own 0 _ rfl hne
    simp only at hB hm ht
    have hi : Inhabited (El k m xs) := ⟨dl[0]'(by omega)⟩
    have hblk : b < w.heap.size := (Array.getElem?_eq_some_iff.1 ht).1
    -- the worlds of the sort
    have hworld : ∀ (mm : Nat) (os : Array Obj) (dk : Array (El k m xs)), dk.size = xs.length → sortWorldK (fun a : El k m xs => a.1.1) k.sz w b 0 mm dk os = Go.Sort.grow ((Go.Sort.ahead w mm).setRow b (((dk.toList.flatMap fun a => a.1.1) ++ cs.drop (xs.length * k.sz)).toArray)) os := by
      intro mm os dk hdk
      unfold sortWorldK
      rw [putRow_eq _ _ (Go.Sort.ahead w mm) b cs t dk ht (by rw [hdk]; omega), flat_els, hdk]
    have hSw : ∀ (mm : Nat) (os : Array Obj) (q : List Value), S W0 m (Go.Sort.grow ((Go.Sort.ahead w mm).setRow b q.toArray) os) ((b, q) :: L) TL := fun mm os q => ((hS.aheadN mm).setL (i := 0) rfl hne q).more os
    have hcf : ∀ x y : El k m xs, ∃ c, cmp x.1.2 y.1.2 = some c ∧ inR .i64 c := fun x y => hgood.1 _ x.2.2 _ y.2.2
    have hcmp : CmpLays P g cb (fun a : El k m xs => a.1.1) k.sz (fun x y => (cmp x.1.2 y.1.2).getD 0) b 0 dl.toArray.size w := by
      intro mm os dk hdk x y
      rw [hworld mm os dk (by rw [hdk]; simpa using hdl)]
      generalize hw1 : Go.Sort.grow ((Go.Sort.ahead w mm).setRow b _) os = w1
      have hS1 := (hSw mm os ((dk.toList.flatMap fun a => a.1.1) ++ cs.drop (xs.length * k.sz))).rebase
      rw [hw1] at hS1
      obtain ⟨c, hc, _⟩ := hcf x y
      have hv : ∀ z : El k m xs, Value.agg z.1.1.toArray = k.val z.1.1 := fun z => by simp [Kd.val, hagg]
      rw [hv x, hv y]
      refine (hcall ⟨w1, fun _ => none⟩ m w1 [] [] _ _ x.1.2 y.1.2 c (M.le.refl m) hS1 ⟨_, x.2.1, rfl⟩ ⟨_, y.2.1, rfl⟩ hc).mono ?_
      intro e w' he
      cases e with
      | returned u =>
        obtain ⟨m', _, hS2, hu⟩ := he
        obtain ⟨rfl, _⟩ := RV_int hu
        exact ⟨by simp [hc], grown_of_bel hS2.below.toBel⟩
      | panicked ch => exact he.elim
      | outgrown => exact he.elim
    have hO : SWO (ltOf fun x y : El k m xs => (cmp x.1.2 y.1.2).getD 0) := by
      refine ⟨fun x => ?_, fun x y z h1 h2 => ?_, fun x y z h1 h2 => ?_⟩
      · simp only [ltOf, decide_eq_false_iff_not]; exact hgood.2.1 _ x.2.2
      · simp only [ltOf, decide_eq_true_eq] at *; exact hgood.2.2.1 _ x.2.2 _ y.2.2 _ z.2.2 h1 h2
      · simp only [ltOf, decide_eq_false_iff_not] at *; exact hgood.2.2.2.1 _ x.2.2 _ y.2.2 _ z.2.2 h1 h2
    have hH : HoldsK (fun a : El k m xs => a.1.1) k.sz w b 0 dl.toArray := by
      intro j hj
      have hj' : j < xs.length * k.sz := by simpa [hdl] using hj
      have hfl := flat_els dl.toArray
      have e1 : (flatK (fun a : El k m xs => a.1.1) k.sz dl.toArray)[j]! = cs[j]'(by omega) := by
        rw [getElem!_pos _ j (by simpa [hdl] using hj')]
        have : (flatK (fun a : El k m xs => a.1.1) k.sz dl.toArray).toList[j]? = cs[j]? := by
          rw [hfl]
          show (dl.flatMap _)[j]? = _
          rw [hd2, List.getElem?_take, if_pos hj']
        rw [List.getElem?_eq_getElem (by simpa [hdl] using hj'), List.getElem?_eq_getElem (by omega)] at this
        injection this with this
      refine ⟨?_, ?_⟩
      · rw [e1]
        simp [World.cell?, ht, show j < cs.length by omega]
      · simp [World.frozen?, ht]
    have hcon := AnyQ.slices_SortFunc Ly k.sz aE zE (fun a : El k m xs => a.1.1) (fun x => k.len x.2.1) (fun x v hv => k.one x.2.1 v hv) (fun x y => (cmp x.1.2 y.1.2).getD 0) hO g cb b 0 cap dl.toArray w eg hcmp hH hblk (by have : xs.length ≤ 281474976710656 := h0; simp [hdl]; omega)
    have hds : dl.toArray.size = xs.length := by simpa using hdl
    rw [hds] at hcon
    refine hcon.mono ?_
    rintro e w' ⟨rfl, d', n, os, hpi, hso, rfl⟩
    have hd's : d'.size = xs.length := by rw [hpi.1, hds]
    rw [hworld n os d' hd's]
    refine ⟨m, M.le.refl m, _, hSw n os _, ?_⟩
    have hR := Rl_els d'.toList
    have hmap : (d'.toList.map fun a => a.1.2) = r := by
      have hp1 : (d'.toList.map fun a => a.1.2).Perm xs := by
        have := hpi.2.2
        rw [← hd's, Array.extract_size] at this
        rw [hd's, ← hds, Array.extract_size] at this
        have h9 := this.map (fun a : El k m xs => a.1.2)
        rw [List.toList_toArray, hd1] at h9
        exact h9
      have hpw1 : (d'.toList.map fun a => a.1.2).Pairwise (fun x y => ¬ (cmp y x).getD 0 < 0) := by
        rw [List.pairwise_map, List.pairwise_iff_getElem]
        intro i j hi' hj' hij
        have := hso i j (Nat.zero_le _) hij (by simpa [hd's] using hj')
        rw [getElem!_pos d' i (by simpa using hi'), getElem!_pos d' j (by simpa using hj')] at this
        simpa [ltOf] using this
      refine List.Perm.eq_of_pairwise (le := fun x y => ¬ (cmp y x).getD 0 < 0) ?_ hpw1 hpw (hp1.trans hperm.symm)
      intro x y hx' hy' h1 h2
      exact hgood.2.2.2.2 x (hp1.mem_iff.1 hx') y (hperm.mem_iff.1 hy') h2 h1
    have hfl : (d'.toList.flatMap fun a => a.1.1).length = xs.length * k.sz := by
      have := hR.1; simpa [hd's] using this
    refine ⟨by rw [hrl]; exact h0, .inr ⟨cap, by rw [hrl], by rw [hrl]; exact h2, by simp [hfl]; omega, ?_⟩⟩
    rw [hrl, List.take_append_of_le_length (by omega), List.take_of_length_le (by omega), ← hmap]
    exact hR
end
end Go.Proofs.Ytifobhaccglckaa.Hay
