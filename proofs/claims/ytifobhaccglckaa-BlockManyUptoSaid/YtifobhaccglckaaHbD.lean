import Derived.Test.YtifobhaccglckaaHbC
namespace Go.Proofs.Ytifobhaccglckaa.Hay
open Go.RowKit (Below)

structure TyOK (P : Program) (t : TypeId) {α : Type} (d : Kd α) : Prop where
  size : ∀ w, (sizeOf t).run P w = .ok d.sz w
  agg : ∀ w, (isAgg t).run P w = .ok d.agg w
def At (w : World) (b o : Nat) (cs : List Value) : Prop := ∃ c t fr, w.heap[b]? = some (.cells c t fr) ∧ (c.toList.drop o).take cs.length = cs
theorem At.cell {w : World} {b o : Nat} {cs : List Value} (h : At w b o cs) {j : Nat} {v : Value} (hj : cs[j]? = some v) : w.cell? ⟨b, o + j, none⟩ = some v := by
  obtain ⟨c, t, fr, hb, hc⟩ := h
  have hlt : j < cs.length := (List.getElem?_eq_some_iff.1 hj).1
  rw [← hc] at hj
  simp only [List.getElem?_take, List.getElem?_drop, hlt, if_true] at hj
  simpa [World.cell?, hb] using hj
theorem add_eq (b o j : Nat) : (⟨b, o, none⟩ : Addr).add j = ⟨b, o + j, none⟩ := by
  unfold Addr.add; split <;> simp_all
theorem run_load_val {P : Program} {t : TypeId} {α : Type} {d : Kd α} {m : M} {w : World} {b o : Nat} {cs : List Value} {x : α} (hT : TyOK P t d) (hR : d.R m cs x) (hA : At w b o cs) :
    (loadVar t ⟨b, o, none⟩).run P w = .ok (d.val cs) w := by
  have hl := d.len hR
  have hcells := run_loadCells_list (P := P) w ⟨b, o, none⟩ cs (fun j v hj => by rw [add_eq]; exact hA.cell hj)
  unfold loadVar Kd.val
  cases ha : d.agg with
  | true =>
    have h1 := hT.agg w
    have h2 := hT.size w
    rw [ha] at h1
    rw [hl] at hcells
    simp [h1, h2, hcells]
  | false =>
    have h1 := hT.agg w
    rw [ha] at h1
    have hs := d.flat ha
    rw [hs] at hl
    match cs, hl with
    | [c], _ =>
      have := hA.cell (j := 0) (v := c) rfl
      simp only [Nat.add_zero] at this
      simp [h1, this]
section
variable {δ : List Nat} {ro : Option Nat} {P : Program} {W0 : Bse} {m : M} {L : List (Nat × List Value)} {TL : List (Nat × Value)} {n : Nat} {a : Act} {l : List (Nat × Value)} {w : World} {ty t : TypeId} {pos : String} {aft : Array Edge} {g : Option (Nat × Bool)} {x y : Operand} {d : Nat} {α β : Type} {k : Kd α} {k' : Kd β}
theorem S.atL (hS : S W0 m w L TL) {i b o : Nat} {cs cs' : List Value} (hL : L[i]? = some (b, cs)) (h : (cs.drop o).take cs'.length = cs') (hp : 0 < cs'.length) : At w b o cs' := by
  obtain ⟨_, _, t, ht⟩ := hS.own i _ hL (fun e => by simp only at e; subst e; simp at h; subst h; simp at hp)
  exact ⟨_, t, _, ht, by simpa using h⟩
theorem S.atM (hS : S W0 m w L TL) {b o sz : Nat} (h : (m.row b o sz).length = sz) (h0 : 0 < sz) : At w b o (m.row b o sz) := by
  unfold M.row at *
  cases hm : m b with
  | none => simp [hm] at h; omega
  | some r =>
    obtain ⟨c, t, fr, s, hc, hcs⟩ := hS.imm b r hm
    refine ⟨c, t, fr, hc, ?_⟩
    simp only [hm] at h ⊢
    rw [hcs, h, List.drop_append, List.take_append_of_le_length]
    simp at h ⊢; omega
theorem st_alloc (hS : S W0 m w L TL) {z : Value} {cs : List Value} (hz : ∀ w, (zeroValue t).run P w = .ok z w) (hc : z.cells = cs.toArray) :
    Step P ⟨some d, .alloc t, ty, pos, aft, g⟩ a w (fun v w' => ∃ b, v = .pointer (some ⟨b, 0, none⟩) ∧ S W0 m w' ((b, cs) :: L) TL) := by
  have hr : Run1 P ⟨some d, .alloc t, ty, pos, aft, g⟩ a w (.pointer (some ⟨w.heap.size, 0, none⟩)) (w.alloc (.cells cs.toArray t)) := by
    simp [Run1, execOp, Instr.alloc, hz, newVar, newRow, hc]
  exact hr.step ⟨_, rfl, hS.allocL cs t⟩
theorem st_box (hE : EnvD δ n a l) (hS : S W0 m w L TL) {v : Value} {xx : α} (hx : evl l x = some v) (hv : RV k m v xx) :
    Step P ⟨some d, .box t x, ty, pos, aft, g⟩ a w (fun v w' => ∃ b cs, v = .pointer (some ⟨b, 0, none⟩) ∧ k.R m cs xx ∧ S W0 m w' ((b, cs) :: L) TL) := by
  obtain ⟨cs, hR, rfl⟩ := hv
  have hr : Run1 P ⟨some d, .box t x, ty, pos, aft, g⟩ a w (.pointer (some ⟨w.heap.size, 0, none⟩)) (w.alloc (.cells cs.toArray t)) := by
    simp [Run1, execOp, Instr.box, hE.eval hx, newVar, newRow, k.val_cells hR]
  exact hr.step ⟨_, cs, rfl, hR, hS.allocL cs t⟩
theorem st_loadL (hE : EnvD δ n a l) (hS : S W0 m w L TL) (hT : TyOK P t k) {i b o : Nat} {cs : List Value} {xx : α} (hx : evl l x = some (.pointer (some ⟨b, o, none⟩))) (hL : L[i]? = some (b, cs)) (hR : k.R m ((cs.drop o).take k.sz) xx) :
    Step P ⟨some d, .load t x, ty, pos, aft, g⟩ a w (fun v w' => w = w' ∧ RV k m v xx) := by
  have hA : At w b o ((cs.drop o).take k.sz) := hS.atL hL (by rw [k.len hR]) (by rw [k.len hR]; exact k.pos)
  have hr : Run1 P ⟨some d, .load t x, ty, pos, aft, g⟩ a w (k.val ((cs.drop o).take k.sz)) w := by
    simp [Run1, execOp, Instr.loadAt, hE.eval hx, Instr.sureAddr, run_load_val hT hR hA]
  exact hr.step ⟨rfl, _, hR, rfl⟩
theorem st_loadM (hE : EnvD δ n a l) (hS : S W0 m w L TL) (hT : TyOK P t k) {v : Value} {xx : α} (hx : evl l x = some v) (hp : PR k m v xx) :
    Step P ⟨some d, .load t x, ty, pos, aft, g⟩ a w (fun v w' => w = w' ∧ RV k m v xx) := by
  obtain ⟨b, o, rfl, hR⟩ := hp
  have hA : At w b o (m.row b o k.sz) := hS.atM (k.len hR) k.pos
  have hr : Run1 P ⟨some d, .load t x, ty, pos, aft, g⟩ a w (k.val (m.row b o k.sz)) w := by
    simp [Run1, execOp, Instr.loadAt, hE.eval hx, Instr.sureAddr, run_load_val hT hR hA]
  exact hr.step ⟨rfl, _, hR, rfl⟩
structure FldOK (P : Program) (s : TypeId) (i off : Nat) : Prop where
  at_ : ∀ b o w, (Instr.fieldAt s (.pointer (some ⟨b, o, none⟩)) i).run P w = .ok (.pointer (some ⟨b, o + off, none⟩)) w
theorem fld_ok {s : TypeId} {i off : Nat} {fs : Array Field} {f : Field} {sz : Nat} (hu : P.underlying s = some (.struct fs)) (hf : fs[i]? = some f) (hs : ∀ w, (sizeOf f.type).run P w = .ok sz w) (h0 : sz ≠ 0) (ho : f.offset = off) : FldOK P s i off :=
  ⟨fun b o w => by
    subst ho
    simp only [Instr.fieldAt, Sem.run_bind, run_underlying hu, Result.andThen_ok, hf, Instr.sureAddr, Sem.run_pure, fieldPlace, hs]
    rw [if_neg h0]
    simp only [Sem.run_pure, Result.andThen_ok]
    rw [add_eq]⟩
theorem r_fieldL {s : TypeId} {i off b o : Nat} (hE : EnvD δ n a l) (hF : FldOK P s i off) (hx : evl l x = some (.pointer (some ⟨b, o, none⟩))) :
    Run1 P ⟨some d, .fieldAddr s x i, ty, pos, aft, g⟩ a w (.pointer (some ⟨b, o + off, none⟩)) w := by
  simp [Run1, execOp, hE.eval hx, hF.at_]
def Fld (k : Kd α) (k' : Kd β) (off : Nat) (f : α → β) : Prop := off + k'.sz ≤ k.sz ∧ ∀ m cs x, k.R m cs x → k'.R m ((cs.drop off).take k'.sz) (f x)
theorem row_sub {m : M} {b o off sz sz' : Nat} (h : off + sz' ≤ sz) : ((m.row b o sz).drop off).take sz' = m.row b (o + off) sz' := by
  unfold M.row
  cases m b with
  | none => simp
  | some r =>
    simp only []
    rw [List.drop_take, List.drop_drop, List.take_take]
    congr 1
    omega
theorem PR.fld {off : Nat} {f : α → β} (hf : Fld k k' off f) {v : Value} {xx : α} (h : PR k m v xx) : ∃ b o, v = .pointer (some ⟨b, o, none⟩) ∧ PR k' m (.pointer (some ⟨b, o + off, none⟩)) (f xx) := by
  obtain ⟨b, o, rfl, hR⟩ := h
  refine ⟨b, o, rfl, b, o + off, rfl, ?_⟩
  rw [← row_sub hf.1]
  exact hf.2 _ _ _ hR
theorem st_fieldM {s : TypeId} {i off : Nat} {f : α → β} (hE : EnvD δ n a l) (hF : FldOK P s i off) (hf : Fld k k' off f) {v : Value} {xx : α} (hx : evl l x = some v) (hp : PR k m v xx) :
    Step P ⟨some d, .fieldAddr s x i, ty, pos, aft, g⟩ a w (fun v w' => w = w' ∧ PR k' m v (f xx)) := by
  obtain ⟨b, o, rfl, hp'⟩ := hp.fld hf
  exact (r_fieldL hE hF hx).step ⟨rfl, hp'⟩
theorem Fld.R_drop {off o : Nat} {f : α → β} (hf : Fld k k' off f) {cs : List Value} {xx : α} (h : k.R m ((cs.drop o).take k.sz) xx) : k'.R m ((cs.drop (o + off)).take k'.sz) (f xx) := by
  have := hf.2 _ _ _ h
  rw [List.drop_take, List.drop_drop, List.take_take, Nat.min_eq_left (by have := hf.1; omega)] at this
  exact this
theorem R_whole {cs : List Value} {xx : α} (h : k.R m cs xx) : k.R m ((cs.drop 0).take k.sz) xx := by
  rw [List.drop_zero, List.take_of_length_le (by rw [k.len h]; exact Nat.le_refl _)]; exact h

theorem storeCells_run {P : Program} : ∀ (vs : List Value) (b o i : Nat) (c : List Value) (t : TypeId) (w : World), w.heap[b]? = some (.cells c.toArray t (0, 0)) → o + i + vs.length ≤ c.length → (∀ v ∈ vs, v.oneCell' = true) →
    (storeCells ⟨b, o, none⟩ vs i).run P w = .ok () (w.setRow b (c.take (o + i) ++ vs ++ c.drop (o + i + vs.length)).toArray)
  | [], b, o, i, c, t, w, hb, hl, _ => by
    simp only [storeCells, List.append_nil, List.length_nil, Nat.add_zero, List.take_append_drop]
    show Result.ok () w = _
    congr 1
    have hlt : b < w.heap.size := (Array.getElem?_eq_some_iff.1 hb).1
    have hv : w.heap[b] = .cells c.toArray t (0, 0) := (Array.getElem?_eq_some_iff.1 hb).2
    unfold World.setRow
    cases w with
    | mk heap tape drawn os output =>
      congr 1
      apply Array.ext
      · simp
      · intro j h1 h2
        simp only [Array.getElem_modify]
        split
        · rename_i hk; subst hk; simp at hv; simp [hv]
        · rfl
  | v :: rest, b, o, i, c, t, w, hb, hl, h1 => by
    simp only [List.length_cons] at hl
    have hi : o + i < c.length := by omega
    have hcell : w.cell? ⟨b, o + i, none⟩ = some c[o + i] := by simp [World.cell?, hb, hi]
    have hfro : w.frozen? ⟨b, o + i, none⟩ = false := by simp [World.frozen?, hb]
    have hst : (store ((⟨b, o, none⟩ : Addr).add i) v).run P w = .ok () (w.setRow b (c.toArray.setIfInBounds (o + i) v)) := by
      rw [add_eq, run_store P w _ v _ (h1 v (by simp)), hcell]
      simp [hfro, setCell_eq_setRow w b (o + i) c.toArray t (0, 0) v hb]
    have ih := storeCells_run (P := P) rest b o (i + 1) (c.set (o + i) v) t (w.setRow b (c.toArray.setIfInBounds (o + i) v))
      (by rw [List.setIfInBounds_toArray]; exact setRow_heap w b c.toArray _ t _ hb) (by simp; omega) (fun x hx => h1 x (by simp [hx]))
    simp only [storeCells, Sem.run_bind, hst, Result.andThen_ok, ih, setRow_setRow]
    congr 3
    rw [show o + (i + 1) = o + i + 1 by omega, List.take_set, List.drop_set_of_lt (by omega), List.length_cons, show o + i + 1 + rest.length = o + i + (rest.length + 1) by omega]
    rw [List.take_succ_eq_append_getElem (by omega)]
    rw [List.set_append_right _ _ (by simp; omega)]
    simp [Nat.min_eq_left (Nat.le_of_lt hi)]
theorem S.setL (hS : S W0 m w L TL) {i b : Nat} {cs : List Value} (hL : L[i]? = some (b, cs)) (hne : cs ≠ []) (cs' : List Value) : S W0 m (w.setRow b cs'.toArray) (L.set i (b, cs')) TL := by
  obtain ⟨hB, hm, t, ht⟩ := hS.own i _ hL hne
  have hold : ∀ j, j ≠ b → (w.setRow b cs'.toArray).heap[j]? = w.heap[j]? := fun j hj => setRow_other w b j _ hj
  simp only at hB hm ht
  refine ⟨hS.below.step ⟨⟨rfl, rfl, rfl, by simp, fun j hj => hold j (by omega)⟩, Nat.le_refl _⟩ (fun k o hk hc => by rw [hold k (fun e => by subst e; rw [ht] at hk; injection hk with hk; subst hk; cases hc)]; exact hk), fun j r hj => ?_, fun j e he hv => ?_, fun i' j e e' he he' hij hv hv' => ?_, fun j e he => ?_, hS.apart⟩
  · rw [hold j (fun e => by subst e; rw [hm] at hj; cases hj)]
    exact hS.imm j r hj
  · rw [List.getElem?_set] at he
    split at he
    · rename_i e1; subst e1
      simp at he
      obtain ⟨_, rfl⟩ := he
      exact ⟨hB, hm, t, setRow_heap w b _ _ t _ ht⟩
    · rename_i e1
      obtain ⟨h1, h2, t', h3⟩ := hS.own j e he hv
      have hne := hS.nodup i j _ _ hL he e1 hne hv
      exact ⟨h1, h2, t', by rw [hold _ (fun e => hne e.symm)]; exact h3⟩
  · have key : ∀ (j : Nat) (e : Nat × List Value), (L.set i (b, cs'))[j]? = some e → e.2 ≠ [] → ∃ e0, L[j]? = some e0 ∧ e0.1 = e.1 ∧ e0.2 ≠ [] := fun j e he hv => by
      rw [List.getElem?_set] at he
      split at he
      · rename_i e1; subst e1
        simp at he
        obtain ⟨_, rfl⟩ := he
        exact ⟨_, hL, rfl, hne⟩
      · exact ⟨e, he, rfl, hv⟩
    obtain ⟨e0, h0, h1, h2⟩ := key i' e he hv
    obtain ⟨e0', h0', h1', h2'⟩ := key j e' he' hv'
    rw [← h1, ← h1']
    exact hS.nodup i' j e0 e0' h0 h0' hij h2 h2'
  · have hT := hS.tails j e he
    obtain ⟨sz, v⟩ := e
    cases v <;> try exact hT
    rename_i ad len cap
    cases ad with
    | none => trivial
    | some ad =>
      obtain ⟨hlt', hT⟩ := hT
      refine ⟨by simpa using hlt', ?_⟩
      rcases hT with h | ⟨h0, h1, r, c, t', h2, h3, h4, h5⟩
      · exact .inl h
      · exact .inr ⟨h0, h1, r, c, t', h2, h3, by rw [hold _ (fun e => by rw [e, hm] at h2; cases h2)]; exact h4, h5⟩
theorem st_store (hE : EnvD δ n a l) (hS : S W0 m w L TL) (hT : TyOK P t k) {i b o : Nat} {cs : List Value} {v : Value} {xx : α} (hx : evl l x = some (.pointer (some ⟨b, o, none⟩))) (hy : evl l y = some v) (hv : RV k m v xx) (hL : L[i]? = some (b, cs)) (hb : o + k.sz ≤ cs.length) :
    Step P ⟨none, .store t x y, ty, pos, aft, g⟩ a w (fun _ w' => ∃ vs, k.R m vs xx ∧ S W0 m w' (L.set i (b, cs.take o ++ vs ++ cs.drop (o + k.sz))) TL) := by
  obtain ⟨vs, hR, rfl⟩ := hv
  have hl := k.len hR
  have hne : cs ≠ [] := fun e => by have := k.pos; subst e; simp at hb; omega
  obtain ⟨hB, hm, t', ht⟩ := hS.own i _ hL hne
  have hrun := storeCells_run (P := P) vs b o 0 cs t' w ht (by omega) (k.one hR)
  have hr : Run0 P ⟨none, .store t x y, ty, pos, aft, g⟩ a w (w.setRow b (cs.take o ++ vs ++ cs.drop (o + k.sz)).toArray) := by
    simp only [Nat.add_zero, hl] at hrun
    have hsz := hT.size w
    simp only [Run0, execOp, hE.eval hx, hE.eval hy, Instr.storeAt, Instr.sureAddr, Sem.run_bind, Sem.run_pure, Result.andThen_ok, storeVar, k.val_cells hR, hsz]
    simp [hl, hrun]
  exact hr.step ⟨vs, hR, hS.setL hL hne _⟩
end
end Go.Proofs.Ytifobhaccglckaa.Hay
