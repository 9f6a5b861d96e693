import Derived.Test.YtifobhaccglckaaHbE
import Derived.RowKit3
namespace Go.Proofs.Ytifobhaccglckaa.Hay
open Go.RowKit (Below)

structure ElOK (P : Program) (e : TypeId) (sz by_ : Nat) : Prop where
  ok : ∃ i z, P.info? e = some i ∧ i.size = sz ∧ i.bytes = by_ ∧ i.zero = some z ∧ z.cells.size = sz
section
variable {δ : List Nat} {ro : Option Nat} {P : Program} {W0 : Bse} {m : M} {L : List (Nat × List Value)} {TL : List (Nat × Value)} {w : World} {α : Type} {k : Kd α}
theorem firstCells_run {v : Value} {xs : List α} (hS : S W0 m w L TL) (hv : RV (kSl k) m v xs) : ∃ cs, Rl k m cs xs ∧ (∀ w', (∀ b, b < w.heap.size → w'.heap[b]? = w.heap[b]?) → (Builtin.firstCells k.sz xs.length v).run P w' = .ok cs.toArray w') ∧
    (∀ a cap ad, v = .slice a xs.length cap → a = some ad → cs = m.row ad.block ad.off (xs.length * k.sz)) ∧ (∀ l c, v = .slice none l c → cs = []) := by
  obtain ⟨ad, cap, rfl, h3, h4, h5⟩ := RV_sl hv
  cases ad with
  | none =>
    simp only at h5
    have h0 : xs.length = 0 := by omega
    have : xs = [] := List.eq_nil_of_length_eq_zero h0
    subst this
    refine ⟨[], Rl.nil, fun w' _ => run_firstCells_none w' _ _ _ _, ?_, fun l c h => rfl⟩
    intro a cap ad h h'
    injection h with h
    rw [← h] at h'; cases h'
  | some ad =>
    obtain ⟨b, o, sp⟩ := ad
    obtain ⟨hsp, hR⟩ := h5
    have hRl := Rl_of_row hR
    refine ⟨_, hRl, fun w' hw => ?_, fun a cap ad h h' => ?_, fun l c h => by cases h⟩
    · rcases Nat.eq_zero_or_pos xs.length with h0 | h0
      · have hc : m.row b o (xs.length * k.sz) = [] := by unfold M.row; cases m b <;> simp [h0]
        rw [hc]
        have : (Builtin.firstCells k.sz xs.length (.slice (some ⟨b, o, sp⟩) xs.length cap)).run P w' = .ok #[] w' := by
          simp [Builtin.firstCells, h0, loadCells, loadCellsFrom]
        simpa using this
      · replace hsp := hsp (by omega)
        simp only at hsp; subst hsp
        have hp : 0 < xs.length * k.sz := Nat.mul_pos h0 k.pos
        have hA := hS.atM (b := b) (o := o) hRl.1 hp
        obtain ⟨c, t, fr, hb, hc⟩ := hA
        have hlt := (Array.getElem?_eq_some_iff.1 hb).1
        have hA' : At w' b o (m.row b o (xs.length * k.sz)) := ⟨c, t, fr, by rw [hw b hlt]; exact hb, hc⟩
        exact run_firstCells_some w' _ _ _ _ _ _ hRl.1 (fun j v hj => by rw [add_eq]; exact hA'.cell hj)
    · injection h with h
      rw [← h] at h'; injection h' with h'; subst h'; rfl

theorem S.grow (hS : S W0 m w L TL) {i b sz : Nat} {l ms : List Value} {c : List Value} {t : TypeId} {v v' : Value} (hT : TL[i]? = some (sz, v)) (hb : m b = some l) (hB : W0.heap.size ≤ b) (hw : w.heap[b]? = some (.cells c.toArray t (0, 0))) (hv : sblk v = some b)
    (hsb : sblk v' = some b)
    (hT' : Tail W0.heap.size (m.put b (l ++ ms)) (w.setRow b (c.take l.length ++ ms ++ c.drop (l.length + ms.length)).toArray) sz v') :
    M.le m (m.put b (l ++ ms)) ∧ S W0 (m.put b (l ++ ms)) (w.setRow b (c.take l.length ++ ms ++ c.drop (l.length + ms.length)).toArray) L (TL.set i (sz, v')) := by
  generalize hcs : (c.take l.length ++ ms ++ c.drop (l.length + ms.length)) = cs at *
  have hold : ∀ j, j ≠ b → (w.setRow b cs.toArray).heap[j]? = w.heap[j]? := fun j hj => setRow_other w b j _ hj
  have hnew := setRow_heap w b _ cs.toArray t _ hw
  obtain ⟨c0, t0, fr0, r0, h1, h2⟩ := hS.imm b l hb
  rw [hw] at h1; injection h1 with h1; injection h1 with h1 _ _; subst h1
  simp only at h2
  refine ⟨fun j r hj => ?_, hS.below.step ⟨⟨rfl, rfl, rfl, by simp, fun j hj => hold j (by omega)⟩, Nat.le_refl _⟩ (fun k o hk hc => by rw [hold k (fun e => by subst e; rw [hw] at hk; injection hk with hk; subst hk; cases hc)]; exact hk), fun j r hj => ?_, fun j e he hv => ?_, hS.nodup, fun j e he => ?_, fun j j' e e' he he' hij => ?_⟩
  · by_cases e : j = b
    · subst e; rw [hb] at hj; injection hj with hj; subst hj
      exact ⟨ms, M.put_same _ _ _⟩
    · exact ⟨[], by rw [M.put_other _ _ e]; simpa using hj⟩
  · by_cases e : j = b
    · subst e
      rw [M.put_same] at hj; injection hj with hj; subst hj
      refine ⟨_, t, _, c.drop (l.length + ms.length), hnew, ?_⟩
      have : c.take l.length = l := by rw [h2]; simp
      rw [← hcs, this]
    · rw [M.put_other _ _ e] at hj
      rw [hold j e]; exact hS.imm j r hj
  · obtain ⟨h3, h4, t', h5⟩ := hS.own j e he hv
    have hne : e.1 ≠ b := fun x => by rw [x, hb] at h4; cases h4
    exact ⟨h3, by rw [M.put_other _ _ hne]; exact h4, t', by rw [hold _ hne]; exact h5⟩
  · rw [List.getElem?_set] at he
    split at he
    · rename_i e1; subst e1
      simp at he; obtain ⟨_, rfl⟩ := he
      exact hT'
    · rename_i e1
      have h3 := hS.tails j e he
      have h4 := hS.apart i j _ _ hT he e1 b hv
      obtain ⟨sz', u⟩ := e
      cases u <;> try exact h3
      rename_i ad len cap
      cases ad with
      | none => trivial
      | some ad =>
        have hne : ad.block ≠ b := fun x => h4 (by simp [sblk, x])
        obtain ⟨hlt', h3⟩ := h3
        refine ⟨by simpa using hlt', ?_⟩
        rcases h3 with h | ⟨h0, h1, r, c', t', h5, h6, h7, h8⟩
        · exact .inl h
        · exact .inr ⟨h0, h1, r, c', t', by rw [M.put_other _ _ hne]; exact h5, h6, by rw [hold _ hne]; exact h7, h8⟩
  · have key : ∀ (j : Nat) (e : Nat × Value), (TL.set i (sz, v'))[j]? = some e → ∃ e0, TL[j]? = some e0 ∧ sblk e0.2 = sblk e.2 := fun j e he => by
      rw [List.getElem?_set] at he
      split at he
      · rename_i e1; subst e1
        simp at he; obtain ⟨_, rfl⟩ := he
        exact ⟨_, hT, by rw [hv, hsb]⟩
      · exact ⟨e, he, rfl⟩
    obtain ⟨e0, h3, h4⟩ := key j e he
    obtain ⟨e0', h3', h4'⟩ := key j' e' he'
    have := hS.apart j j' e0 e0' h3 h3' hij
    unfold Apart at *
    rw [← h4, ← h4']
    exact this
theorem S.allocT (hS : S W0 m w L TL) {i sz : Nat} {v' : Value} (cs rs : List Value) (t : TypeId) (hsb : sblk v' = some w.heap.size)
    (hT' : Tail W0.heap.size (m.put w.heap.size cs) (w.drew.alloc (.cells (cs ++ rs).toArray t)) sz v') :
    M.le m (m.put w.heap.size cs) ∧ S W0 (m.put w.heap.size cs) (w.drew.alloc (.cells (cs ++ rs).toArray t)) L (TL.set i (sz, v')) := by
  have hB := hS.below.size
  have hn : m w.heap.size = none := hS.fresh (Nat.le_refl _)
  have hold : ∀ j, j < w.heap.size → (w.drew.alloc (.cells (cs ++ rs).toArray t)).heap[j]? = w.heap[j]? := fun j hj => alloc_old w.drew _ j hj
  refine ⟨M.le_put _ hn, hS.below.drew.alloc hB _, fun b r hb => ?_, fun j e he hv => ?_, hS.nodup, fun j e he => ?_, fun j j' e e' he he' hij => ?_⟩
  · by_cases e : b = w.heap.size
    · subst e
      rw [M.put_same] at hb; injection hb with hb; subst hb
      exact ⟨_, t, (0, 0), rs, alloc_new w.drew _, by simp⟩
    · rw [M.put_other _ _ e] at hb
      rw [hold b (hS.lt hb)]; exact hS.imm b r hb
  · obtain ⟨h1, h2, t', h3⟩ := hS.own j e he hv
    have hlt := (Array.getElem?_eq_some_iff.1 h3).1
    exact ⟨h1, by rw [M.put_other _ _ (by omega)]; exact h2, t', by rw [hold _ hlt]; exact h3⟩
  · rw [List.getElem?_set] at he
    split at he
    · rename_i e1; subst e1
      simp at he; obtain ⟨_, rfl⟩ := he
      exact hT'
    · exact tail_heap hold (tail_m (w := w) (m := m) (fun b hb => M.put_other _ _ (by omega)) (hS.tails j e he))
  · have key : ∀ (j : Nat) (e : Nat × Value), (TL.set i (sz, v'))[j]? = some e → (j = i ∧ sblk e.2 = some w.heap.size) ∨ (j ≠ i ∧ TL[j]? = some e) := fun j e he => by
      rw [List.getElem?_set] at he
      split at he
      · rename_i e1; subst e1
        simp at he
        obtain ⟨_, rfl⟩ := he
        exact .inl ⟨rfl, hsb⟩
      · rename_i e1; exact .inr ⟨fun x => e1 x.symm, he⟩
    intro b hb hb'
    rcases key j e he with ⟨h1, h2⟩ | ⟨h1, h2⟩ <;> rcases key j' e' he' with ⟨h3, h4⟩ | ⟨h3, h4⟩
    · omega
    · have := tail_lt (hS.tails j' e' h4) hb'
      rw [h2] at hb; injection hb with hb; omega
    · have := tail_lt (hS.tails j e h2) hb
      rw [h4] at hb'; injection hb' with hb'; omega
    · exact hS.apart j j' e e' h2 h4 hij b hb hb'
theorem append_cells {e t tx ty : TypeId} {by_ : Nat} (hS : S W0 m w L TL) (hu : P.underlying t = some (.slice e)) (hux : (∃ e', P.underlying tx = some (.slice e')) ∨ P.underlying tx = some .string) (hel : ElOK P e k.sz by_) {i : Nat} {v u : Value} {xs ys : List α} {news : List Value} (hT : TL[i]? = some (k.sz, v)) (hv : RV (kSl k) m v xs)
    (hn : (Builtin.lenOf u).run P w = .ok ys.length w) (hf : ∀ w', (∀ b, b < w.heap.size → w'.heap[b]? = w.heap[b]?) → (Builtin.firstCells k.sz ys.length u).run P w' = .ok news.toArray w') (hR : Rl k m news ys)
    (hN : (xs.length + ys.length) * by_ ≤ 140737488355328) (hM : xs.length + ys.length ≤ maxSz) :
    ∃ v' m' w', (Builtin.append_ #[t, tx] ty #[v, u]).run P w = .ok v' w' ∧ M.le m m' ∧ S W0 m' w' L (TL.set i (k.sz, v')) ∧ RV (kSl k) m' v' (xs ++ ys) := by
  obtain ⟨inf, z, hi, hsz, hby, hz, hzc⟩ := hel.ok
  obtain ⟨cs, hcs, hfc, hrow, hnil⟩ := firstCells_run (P := P) hS hv
  have hTl := hS.tails i _ hT
  obtain ⟨ad, cap, rfl, h3, h4, h5⟩ := RV_sl hv
  have hMx : xs.length + ys.length ≤ 281474976710656 := hM
  have hp := k.pos
  by_cases hfit : xs.length + ys.length ≤ cap
  · cases ad with
    | none =>
      simp only at h5
      subst h5
      have hy : ys = [] := List.eq_nil_of_length_eq_zero (by omega)
      have hx : xs = [] := List.eq_nil_of_length_eq_zero (by omega)
      subst hy; subst hx
      refine ⟨.slice none 0 0, m, w, ?_, M.le.refl m, ?_, ?_⟩
      · have hf0 := hf w (fun _ _ => rfl)
        simp only [List.length_nil] at hf0 hn
        rcases hux with ⟨_, hux⟩ | hux <;> simp [Builtin.append_, run_underlying hu, run_underlying hux, sizeOf, typeInfo, hi, hn, hsz, hf0]
      · have : TL.set i (k.sz, .slice none 0 0) = TL := by
          have hlt := (List.getElem?_eq_some_iff.1 hT)
          obtain ⟨hlt, he⟩ := hlt
          apply List.ext_getElem
          · simp
          · intro j h1 h2
            rw [List.getElem_set]
            split
            · rename_i e; subst e; exact he.symm
            · rfl
        rw [this]; exact hS
      · simpa using hv
    | some ad =>
      obtain ⟨b, o, sp⟩ := ad
      obtain ⟨hsp, hRx⟩ := h5
      rcases Nat.eq_zero_or_pos ys.length with h0 | h0
      · have hy : ys = [] := List.eq_nil_of_length_eq_zero h0
        subst hy
        have hnw : news = [] := List.eq_nil_of_length_eq_zero (by rw [hR.1]; simp)
        subst hnw
        refine ⟨.slice (some ⟨b, o, sp⟩) xs.length cap, m, w, ?_, M.le.refl m, ?_, ?_⟩
        · have hf0 := hf w (fun _ _ => rfl)
          simp at hfit hf0 hn
          rcases hux with ⟨_, hux⟩ | hux <;> simp [Builtin.append_, run_underlying hu, run_underlying hux, sizeOf, typeInfo, hi, hn, hsz, hf0, hfit, storeCells]
        · have : TL.set i (k.sz, .slice (some ⟨b, o, sp⟩) xs.length cap) = TL := by
            obtain ⟨hlt, he⟩ := (List.getElem?_eq_some_iff.1 hT)
            apply List.ext_getElem
            · simp
            · intro j h1 h2
              rw [List.getElem_set]
              split
              · rename_i e; subst e; exact he.symm
              · rfl
          rw [this]; exact hS
        · simpa using hv
      · replace hsp := hsp (by omega)
        simp only at hsp; subst hsp
        obtain ⟨hlt, hTl⟩ := hTl
        rcases hTl with hfull | ⟨_, hB, l, c, t0, hml, hll, hwb, hcap⟩
        · omega
        · simp only at hB hml hll hwb hcap hlt
          have hrun := storeCells_run (P := P) news b (o + xs.length * k.sz) 0 c.toList t0 w (by simpa using hwb) (by
            rw [hR.1]
            have := Nat.mul_le_mul_right k.sz hfit
            rw [Nat.add_mul] at this
            simp; omega) hR.one
          simp only [Nat.add_zero] at hrun
          rw [← hll] at hrun
          have hv' : RV (kSl k) (m.put b (l ++ news)) (.slice (some ⟨b, o, none⟩) (xs ++ ys).length cap) (xs ++ ys) := by
            refine RV_of_sl (by simpa using hfit) (by simpa using hM) ⟨fun _ => rfl, ?_⟩
            have hle : M.le m (m.put b (l ++ news)) := fun j r hj => by
              by_cases e : j = b
              · subst e; rw [hml] at hj; injection hj with hj; subst hj
                exact ⟨news, M.put_same _ _ _⟩
              · exact ⟨[], by rw [M.put_other _ _ e]; simpa using hj⟩
            refine row_of_Rl (cs := cs ++ news) (M.put_same _ _ _) (Rl.app (hcs.mono hle) (hR.mono hle)) ?_
            have hc1 : cs = (l.drop o).take (xs.length * k.sz) := by
              have := hrow _ _ _ rfl rfl
              simpa [M.row, hml] using this
            have hc2 : cs = l.drop o := by rw [hc1]; apply List.take_of_length_le; simp; omega
            show (((l ++ news).drop o).take (cs ++ news).length) = cs ++ news
            rw [List.drop_append_of_le_length (by omega), ← hc2]
            exact List.take_of_length_le (by simp)
          have hg := hS.grow (v' := .slice (some ⟨b, o, none⟩) (xs ++ ys).length cap) (ms := news) hT hml hB (c := c.toList) (t := t0) (by simpa using hwb) rfl rfl (by
            refine ⟨by simpa using hlt, .inr ⟨rfl, hB, _, _, t0, M.put_same _ _ _, ?_, setRow_heap w b _ _ t0 _ hwb, ?_⟩⟩
            · simp [hll, hR.1, Nat.add_mul, Nat.add_assoc]
            · have h9 := Nat.mul_le_mul_right k.sz hfit
              have h10 := hR.1
              rw [Nat.add_mul] at h9
              simp; omega)
          refine ⟨_, _, _, ?_, hg.1, hg.2, hv'⟩
          rcases hux with ⟨_, hux⟩ | hux <;> simp [Builtin.append_, run_underlying hu, run_underlying hux, sizeOf, typeInfo, hi, hn, hsz, hf w (fun _ _ => rfl), hfit, add_eq, ← hll, hrun]
  · have hgt : cap < xs.length + ys.length := by omega
    have h63 : ¬ (9223372036854775807 < ((xs.length : Int) + (ys.length : Int))) := by omega
    have h48 : ¬ (281474976710656 < Builtin.nextslicecap (xs.length + ys.length) cap * inf.bytes) := by
      have := growslice_fits hgt (bytes := inf.bytes) (by rw [hby]; exact hN)
      omega
    have hnot : ¬ (xs.length + ys.length ≤ cap) := hfit
    generalize hcapn : grownCap w (xs.length + ys.length) cap e = cap' at *
    have hcap' : xs.length + ys.length ≤ cap' := by
      rw [← hcapn]; simp [grownCap, Question.cut]
    let rest := (Builtin.zeroCells z.cells (cap' - (xs.length + ys.length))).toList
    have hrl : rest.length = (cap' - (xs.length + ys.length)) * k.sz := by simp [rest, Builtin.zeroCells, hzc]
    have hv' : RV (kSl k) (m.put w.heap.size (cs ++ news)) (.slice (some ⟨w.heap.size, 0, none⟩) (xs ++ ys).length cap') (xs ++ ys) := by
      refine RV_of_sl (by simpa using hcap') (by simpa using hM) ⟨fun _ => rfl, ?_⟩
      have hle : M.le m (m.put w.heap.size (cs ++ news)) := M.le_put _ (hS.fresh (Nat.le_refl _))
      exact row_of_Rl (cs := cs ++ news) (M.put_same _ _ _) (Rl.app (hcs.mono hle) (hR.mono hle)) (by rw [List.drop_zero]; exact List.take_of_length_le (Nat.le_refl _))
    have hg := hS.allocT (i := i) (sz := k.sz) (v' := .slice (some ⟨w.heap.size, 0, none⟩) (xs ++ ys).length cap') (cs ++ news) rest e rfl (by
      refine ⟨by simp, .inr ⟨rfl, hS.below.size, _, _, e, M.put_same _ _ _, ?_, alloc_new w.drew _, ?_⟩⟩
      · simp [hcs.1, hR.1, Nat.add_mul]
      · have e1 : xs.length * k.sz + ys.length * k.sz + (cap' - (xs.length + ys.length)) * k.sz = cap' * k.sz := by
          rw [← Nat.add_mul, ← Nat.add_mul]; congr 1; omega
        simp [hcs.1, hR.1, hrl]; omega)
    refine ⟨_, _, _, ?_, hg.1, hg.2, hv'⟩
    have hfd := hfc w.drew (fun _ _ => rfl)
    have hfd' := hf w.drew (fun _ _ => rfl)
    have e2 : cs.toArray ++ (news.toArray ++ Builtin.zeroCells z.cells (cap' - (xs.length + ys.length))) = (cs ++ (news ++ rest)).toArray := by
      apply Array.ext'; simp [rest]
    have hcapn' : (Question.appendCap (xs.length + ys.length) cap e).cut (w.tape w.drawn (Question.appendCap (xs.length + ys.length) cap e)) = cap' := hcapn
    rcases hux with ⟨_, hux⟩ | hux <;> simp [Builtin.append_, run_underlying hu, run_underlying hux, sizeOf, typeInfo, zeroValue, hi, hz, hn, hsz, hnot, h63, h48, Question.forced, hfd, hfd', newRow, hcapn', e2]
end
end Go.Proofs.Ytifobhaccglckaa.Hay
