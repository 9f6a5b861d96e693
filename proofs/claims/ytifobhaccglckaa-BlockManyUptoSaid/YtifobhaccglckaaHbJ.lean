import Derived.Test.YtifobhaccglckaaHbI
namespace Go.Proofs.Ytifobhaccglckaa.Hay
open Go.RowKit (Below)

def GS {α : Type} (k : Kd α) (m : M) (b : Nat) (cs : List Value) (v : Value) (xs : List α) : Prop :=
  xs.length ≤ maxSz ∧ ((xs = [] ∧ cs = [] ∧ ∃ a : Option Addr, v = .slice a 0 0 ∧ ∀ ad, a = some ad → ad.spot = none) ∨
    ∃ cap, v = .slice (some ⟨b, 0, none⟩) xs.length cap ∧ xs.length ≤ cap ∧ cs.length = cap * k.sz ∧ Rl k m (cs.take (xs.length * k.sz)) xs)
section
variable {δ : List Nat} {ro : Option Nat} {α : Type} {k : Kd α} {m m' : M} {b : Nat} {cs : List Value} {v : Value} {xs : List α}
theorem GS.mono (h : GS k m b cs v xs) (hm : M.le m m') : GS k m' b cs v xs := by
  obtain ⟨h0, h | ⟨cap, h1, h2, h3, h4⟩⟩ := h
  · exact ⟨h0, .inl h⟩
  · exact ⟨h0, .inr ⟨cap, h1, h2, h3, h4.mono hm⟩⟩
theorem GS.len (h : GS k m b cs v xs) : xs.length ≤ maxSz := h.1
theorem GS.val (h : GS k m b cs v xs) : ∃ (a : Option Addr) (cap : Nat), v = .slice a xs.length cap ∧ xs.length ≤ cap := by
  obtain ⟨h0, ⟨rfl, rfl, a, rfl, _⟩ | ⟨cap, rfl, h2, h3, h4⟩⟩ := h
  · exact ⟨a, 0, rfl, Nat.le_refl _⟩
  · exact ⟨_, cap, rfl, h2⟩
theorem GS.void : GS k m b [] (.slice none 0 0) ([] : List α) := ⟨by simp, .inl ⟨rfl, rfl, none, rfl, fun _ h => by cases h⟩⟩
theorem mul_le_of {i n sz : Nat} (h : i < n) : i * sz + sz ≤ n * sz := by
  have := Nat.mul_le_mul_right sz (show i + 1 ≤ n by omega)
  rw [Nat.add_mul] at this; omega
theorem GS.elem (h : GS k m b cs v xs) {j : Nat} {x : α} (hj : xs[j]? = some x) : k.R m ((cs.drop (j * k.sz)).take k.sz) x := by
  obtain ⟨hj', rfl⟩ := List.getElem?_eq_some_iff.1 hj
  obtain ⟨h0, ⟨rfl, _⟩ | ⟨cap, rfl, h2, h3, h4⟩⟩ := h
  · simp at hj'
  · have := h4.2 j hj'
    have hle := mul_le_of (sz := k.sz) hj'
    rw [List.drop_take, List.take_take, Nat.min_eq_left (by omega)] at this
    exact this
theorem GS.set {x y : α} {vs : List Value} (h : GS k m b cs v xs) {j : Nat} (hj : xs[j]? = some x) (hv : k.R m vs y) : GS k m b (cs.take (j * k.sz) ++ vs ++ cs.drop (j * k.sz + k.sz)) v (xs.set j y) := by
  obtain ⟨hj', rfl⟩ := List.getElem?_eq_some_iff.1 hj
  obtain ⟨h0, ⟨rfl, _⟩ | ⟨cap, rfl, h2, h3, h4⟩⟩ := h
  · simp at hj'
  have hle := mul_le_of (sz := k.sz) hj'
  have hle2 : xs.length * k.sz ≤ cap * k.sz := Nat.mul_le_mul_right _ h2
  have hl := k.len hv
  refine ⟨by simpa using h0, .inr ⟨cap, by simp, by simpa using h2, by simp; omega, ?_⟩⟩
  have hlen : (cs.take (j * k.sz) ++ vs ++ cs.drop (j * k.sz + k.sz)).length = cs.length := by simp; omega
  refine ⟨by rw [List.length_take, hlen]; simp; omega, fun i hi => ?_⟩
  have hi' : i < xs.length := by simpa using hi
  have hlei := mul_le_of (sz := k.sz) hi'
  rw [List.length_set, List.drop_take, List.take_take, Nat.min_eq_left (by omega)]
  by_cases e : i = j
  · subst e
    rw [List.getElem_set_self, List.append_assoc, List.drop_append_of_le_length (by simp; omega), List.drop_of_length_le (by simp; omega), List.nil_append, List.take_append_of_le_length (by omega), List.take_of_length_le (by omega)]
    exact hv
  · rw [List.getElem_set_ne (fun h => e h.symm)]
    have h5 := h4.2 i hi'
    rw [List.drop_take, List.take_take, Nat.min_eq_left (by omega)] at h5
    rcases Nat.lt_or_gt_of_ne e with h6 | h6
    · have h7 := mul_le_of (sz := k.sz) h6
      rw [List.append_assoc, List.drop_append_of_le_length (by simp; omega), List.take_append_of_le_length (by simp; omega), List.drop_take, List.take_take, Nat.min_eq_left (by omega)]
      exact h5
    · have h7 := mul_le_of (sz := k.sz) h6
      rw [List.drop_append, List.drop_of_length_le (by simp; omega), List.nil_append, List.drop_drop]
      rw [show j * k.sz + k.sz + (i * k.sz - (cs.take (j * k.sz) ++ vs).length) = i * k.sz by simp; omega]
      exact h5
end
def ix {α : Type} (xs : List α) (i : Int) : Option Nat := if 0 ≤ i ∧ i < (xs.length : Int) then some i.toNat else none
theorem ix_some {α : Type} {xs : List α} {i : Int} {j : Nat} (h : ix xs i = some j) : 0 ≤ i ∧ i.toNat = j ∧ j < xs.length := by
  unfold ix at h
  split at h
  · injection h with h; omega
  · cases h
def cpy {α : Type} (xs ys : List α) : List α := ys.take xs.length ++ xs.drop ys.length
section
variable {δ : List Nat} {ro : Option Nat} {P : Program} {W0 : Bse} {m : M} {L : List (Nat × List Value)} {TL : List (Nat × Value)} {n : Nat} {a : Act} {l : List (Nat × Value)} {w : World} {ty t t2 e : TypeId} {pos : String} {aft : Array Edge} {g : Option (Nat × Bool)} {x y : Operand} {d : Nat} {α β : Type} {k : Kd α} {k' : Kd β} {by_ N b i : Nat} {cs : List Value} {v : Value} {xs ys : List α}
theorem S.void (h : S W0 m w L TL) (b : Nat) : S W0 m w ((b, []) :: L) TL := by
  refine ⟨h.below, h.imm, fun i e he hv => ?_, fun i j e e' he he' hij hv hv' => ?_, h.tails, h.apart⟩
  · cases i with
    | zero => simp at he; subst he; exact absurd rfl hv
    | succ i => exact h.own i e (by simpa using he) hv
  · cases i with
    | zero => simp at he; subst he; exact absurd rfl hv
    | succ i =>
      cases j with
      | zero => simp at he'; subst he'; exact absurd rfl hv'
      | succ j => exact h.nodup i j e e' (by simpa using he) (by simpa using he') (by omega) hv hv'
theorem S.freeze (h : S W0 m w ((b, cs) :: L) TL) (hg : GS k m b cs v xs) : ∃ m', M.le m m' ∧ S W0 m' w L TL ∧ RV (kSl k) m' v xs := by
  have h1 := h.dropL 1
  simp only [List.drop_succ_cons, List.drop_zero] at h1
  obtain ⟨h0, ⟨rfl, rfl, a, rfl, ha⟩ | ⟨cap, rfl, h2, h3, h4⟩⟩ := hg
  · refine ⟨m, M.le.refl m, h1, ?_⟩
    have := RV_of_sl (d := k) (m := m) (xs := []) (a := a) (cap := 0) (Nat.le_refl _) (by simp) (by cases a with | none => rfl | some ad => exact ⟨fun _ => ha ad rfl, fun i hi => by simp at hi⟩)
    exact this
  · by_cases hc : cs = []
    · subst hc
      have hp := k.pos
      have hcap : cap = 0 := by
        rcases Nat.eq_zero_or_pos cap with h | h
        · exact h
        · have := Nat.mul_pos h hp; simp at h3; omega
      subst hcap
      have hx : xs = [] := List.eq_nil_of_length_eq_zero (by omega)
      subst hx
      exact ⟨m, M.le.refl m, h1, RV_of_sl (Nat.le_refl _) (by simp) ⟨fun _ => rfl, fun i hi => by simp at hi⟩⟩
    · obtain ⟨hB, hm, t, ht⟩ := h.own 0 (b, cs) rfl hc
      have hle : M.le m (m.put b (cs.take (xs.length * k.sz))) := M.le_put _ hm
      refine ⟨m.put b (cs.take (xs.length * k.sz)), hle, ⟨h1.below, fun b' r hb => ?_, fun i e he hv => ?_, h1.nodup, fun i e he => ?_, h1.apart⟩, RV_of_sl h2 h0 ⟨fun _ => rfl, ?_⟩⟩
      · by_cases hbb : b' = b
        · subst hbb
          rw [M.put_same] at hb; injection hb with hb; subst hb
          exact ⟨_, t, _, cs.drop (xs.length * k.sz), ht, by simp⟩
        · rw [M.put_other _ _ hbb] at hb; exact h1.imm b' r hb
      · obtain ⟨q1, q2, q3⟩ := h1.own i e he hv
        have hne := h.nodup 0 (i + 1) (b, cs) e rfl (by simpa using he) (by omega) hc hv
        exact ⟨q1, by rw [M.put_other _ _ (fun e => hne e.symm)]; exact q2, q3⟩
      · have hT := h1.tails i e he
        obtain ⟨sz, u⟩ := e
        cases u <;> try exact hT
        rename_i ad len' cap'
        cases ad with
        | none => trivial
        | some ad =>
          obtain ⟨hlt, hT⟩ := hT
          refine ⟨hlt, ?_⟩
          rcases hT with hf | ⟨p0, p1, r, c, t', p2, p3, p4, p5⟩
          · exact .inl hf
          · exact .inr ⟨p0, p1, r, c, t', by rw [M.put_other _ _ (fun e => by rw [e, hm] at p2; cases p2)]; exact p2, p3, p4, p5⟩
      · have := h4.mono hle
        exact row_of_Rl (M.put_same _ _ _) this (by rw [List.drop_zero]; exact List.take_of_length_le (Nat.le_refl _))
theorem st_makeG {kk kc : IntKind} {i : Int} {xs : List α} {x0 : α} {inf : TypeInfo} {z : Value} (hE : EnvD δ n a l) (hS : S W0 m w L TL) (hx : evl l x = some (.int kk i)) (hy : evl l y = some (.int kc i)) (hu : P.underlying t = some (.slice e)) (hi : P.info? e = some inf) (hz : inf.zero = some z) (hsz : inf.size = k.sz) (hby : inf.bytes = by_) (hz0 : ∀ m, k.R m z.cells.toList x0)
    (hmk : mk N i x0 = some xs) (hN : Nat.ble (N * by_) 281474976710656 = true) (hM : Nat.ble N 281474976710656 = true) :
    Step P ⟨some d, .makeSlice t x y, ty, pos, aft, g⟩ a w (fun v w' => ∃ b cs, GS k m b cs v xs ∧ S W0 m w' ((b, cs) :: L) TL) := by
  refine (st_make hE hS hx hy hu hi hz hsz hby hz0 hmk hN hM).imp fun v w' ⟨b, cs, h1, h2, h3⟩ => ⟨b, cs, ?_, h3⟩
  have hle : xs.length ≤ maxSz := by
    unfold mk at hmk
    split at hmk
    · rename_i h0
      injection hmk with hmk; subst hmk
      have := Nat.le_of_ble_eq_true hM
      unfold maxSz; simp; omega
    · cases hmk
  exact ⟨hle, .inr ⟨_, h1, Nat.le_refl _, h2.1, by rw [List.take_of_length_le (by rw [h2.1]; exact Nat.le_refl _)]; exact h2⟩⟩
theorem GS.of_Rl {cs : List Value} (h : Rl k m cs xs) (hl : xs.length ≤ maxSz) : GS k m b cs (.slice (some ⟨b, 0, none⟩) xs.length xs.length) xs :=
  ⟨hl, .inr ⟨_, rfl, Nat.le_refl _, h.1, by rw [List.take_of_length_le (by rw [h.1]; exact Nat.le_refl _)]; exact h⟩⟩
theorem r_lenG {ts : Array TypeId} (hE : EnvD δ n a l) (hx : evl l x = some v) (ht : ts[0]? = some t) (hu : P.underlying t = some (.slice e)) (hg : GS k m b cs v xs) :
    Run1 P ⟨some d, .call ⟨.builtin .len, #[x], ts⟩, ty, pos, aft, g⟩ a w (.int .i64 (xs.length : Int)) w := by
  obtain ⟨ad, cap, rfl, _⟩ := hg.val
  simp [Run1, execOp, resolve, invoke, builtin, hE.eval hx, Builtin.len_, ht, run_underlying hu, goInt]
theorem r_indexG {kk : IntKind} {i : Int} {j sz : Nat} (hE : EnvD δ n a l) (hx : evl l x = some v) (hy : evl l y = some (.int kk i)) (hu : P.underlying t = some (.slice e)) (hs : ∀ w, (sizeOf e).run P w = .ok k.sz w) (hg : GS k m b cs v xs) (hi : ix xs i = some j) (hz : k.sz = sz) :
    Run1 P ⟨some d, .indexAddr t x y, ty, pos, aft, g⟩ a w (.pointer (some ⟨b, j * sz, none⟩)) w := by
  obtain ⟨h0, h1, h2⟩ := ix_some hi
  subst hz
  obtain ⟨_, ⟨rfl, _⟩ | ⟨cap, rfl, h3, _, _⟩⟩ := hg
  · simp at h2
  · have hlt : i < (xs.length : Int) := by omega
    simp [Run1, execOp, hE.eval hx, hE.eval hy, Instr.indexAt, asIntOf, run_underlying hu, h0, hlt, hs, add_eq, h1]
theorem r_indexA {kk : IntKind} {i : Int} {j sz len : Nat} (hE : EnvD δ n a l) (hx : evl l x = some (.pointer (some ⟨b, 0, none⟩))) (hy : evl l y = some (.int kk i)) (hu : P.underlying t = some (.array len e)) (hs : ∀ w, (sizeOf e).run P w = .ok k.sz w) (hl : xs.length = len) (hi : ix xs i = some j) (hz : k.sz = sz) :
    Run1 P ⟨some d, .indexAddr t x y, ty, pos, aft, g⟩ a w (.pointer (some ⟨b, j * sz, none⟩)) w := by
  obtain ⟨h0, h1, h2⟩ := ix_some hi
  subst hz; subst hl
  have hlt : i < (xs.length : Int) := by omega
  simp [Run1, execOp, hE.eval hx, hE.eval hy, Instr.indexAt, asIntOf, run_underlying hu, h0, hlt, hs, add_eq, h1, Instr.sureAddr]
theorem r_sliceA {len : Nat} (hE : EnvD δ n a l) (hx : evl l x = some (.pointer (some ⟨b, 0, none⟩))) (hu : P.underlying t = some (.array len e)) (hs : ∀ w, (sizeOf e).run P w = .ok k.sz w) :
    Run1 P ⟨some d, .slice t x none none none, ty, pos, aft, g⟩ a w (.slice (some ⟨b, 0, none⟩) len len) w := by
  simp [Run1, execOp, hE.eval hx, Instr.sliceAt, run_underlying hu, hs, Instr.sureAddr, Instr.sliceBounds, add_eq]
theorem st_storeG {off j : Nat} {s : α → β → α} {u : Value} {xx : α} {yy : β} (hE : EnvD δ n a l) (hS : S W0 m w L TL) (hT : TyOK P t k') (hf : StF k k' off s) (hg : GS k m b cs v xs) (hj : xs[j]? = some xx) (hx : evl l x = some (.pointer (some ⟨b, j * k.sz + off, none⟩))) (hy : evl l y = some u) (hv : RV k' m u yy) (hL : L[i]? = some (b, cs)) :
    Step P ⟨none, .store t x y, ty, pos, aft, g⟩ a w (fun _ w' => ∃ cs', GS k m b cs' v (xs.set j (s xx yy)) ∧ S W0 m w' (L.set i (b, cs')) TL) := by
  have hR := hg.elem hj
  have hl := k.len hR
  have hb : j * k.sz + off + k'.sz ≤ cs.length := by have := hf.1; simp at hl; have := k.pos; omega
  refine (st_store hE hS hT hx hy hv hL hb).imp fun _ w' ⟨vs, h1, h2⟩ => ⟨_, ?_, h2⟩
  have h3 := hf.2 m _ vs xx yy hR h1
  have h4 := hg.set hj h3
  have hvs := k'.len h1
  have e1 : (cs.drop (j * k.sz)).take off = (cs.take (j * k.sz + off)).drop (j * k.sz) := by rw [List.drop_take, Nat.add_sub_cancel_left]
  have e2 : cs.take (j * k.sz) ++ (((cs.drop (j * k.sz)).take k.sz).take off ++ vs ++ ((cs.drop (j * k.sz)).take k.sz).drop (off + k'.sz)) ++ cs.drop (j * k.sz + k.sz) = cs.take (j * k.sz + off) ++ vs ++ cs.drop (j * k.sz + off + k'.sz) := by
    have hf1 := hf.1
    rw [List.take_take, Nat.min_eq_left (by omega), List.take_add (i := j * k.sz) (j := off) (l := cs)]
    have e3 : ((cs.drop (j * k.sz)).take k.sz).drop (off + k'.sz) ++ cs.drop (j * k.sz + k.sz) = cs.drop (j * k.sz + off + k'.sz) := by
      rw [List.drop_take, List.drop_drop, show cs.drop (j * k.sz + k.sz) = (cs.drop (j * k.sz + (off + k'.sz))).drop (k.sz - (off + k'.sz)) by rw [List.drop_drop]; congr 1; omega, List.take_append_drop]
      congr 1; omega
    rw [List.append_assoc, List.append_assoc, List.append_assoc, e3]
    simp
  rw [e2] at h4
  exact h4
theorem firstCells_G (hS : S W0 m w L TL) (hL : L[i]? = some (b, cs)) (hg : GS k m b cs v xs) : (Builtin.lenOf v).run P w = .ok xs.length w ∧ ∃ news, Rl k m news xs ∧ (∀ w', (∀ b, b < w.heap.size → w'.heap[b]? = w.heap[b]?) → (Builtin.firstCells k.sz xs.length v).run P w' = .ok news.toArray w') ∧ (∀ q, q ≤ xs.length → ∀ w', (∀ b, b < w.heap.size → w'.heap[b]? = w.heap[b]?) → (Builtin.firstCells k.sz q v).run P w' = .ok (news.take (q * k.sz)).toArray w') := by
  have gen : (Builtin.lenOf v).run P w = .ok xs.length w ∧ ∃ news, Rl k m news xs ∧ (∀ q, q ≤ xs.length → ∀ w', (∀ b, b < w.heap.size → w'.heap[b]? = w.heap[b]?) → (Builtin.firstCells k.sz q v).run P w' = .ok (news.take (q * k.sz)).toArray w') := by
    obtain ⟨_, ⟨rfl, rfl, ad, rfl, _⟩ | ⟨cap, rfl, h3, h4, h5⟩⟩ := hg
    · refine ⟨by simp [Builtin.lenOf], [], Rl.nil, fun q hq w' _ => ?_⟩
      have : q = 0 := by simpa using hq
      subst this
      cases ad <;> simp [Builtin.firstCells, loadCells, loadCellsFrom]
    · refine ⟨by simp [Builtin.lenOf], _, h5, fun q hq w' hw => ?_⟩
      rcases Nat.eq_zero_or_pos q with h0 | h0
      · subst h0; simp [Builtin.firstCells, loadCells, loadCellsFrom]
      · have hle : q * k.sz ≤ xs.length * k.sz := Nat.mul_le_mul_right _ hq
        have hle2 : xs.length * k.sz ≤ cap * k.sz := Nat.mul_le_mul_right _ h3
        have hpq : 0 < q * k.sz := Nat.mul_pos h0 k.pos
        rw [List.take_take, Nat.min_eq_left hle]
        have hlen : (cs.take (q * k.sz)).length = q * k.sz := by simp; omega
        have hA := hS.atL (o := 0) (cs' := cs.take (q * k.sz)) hL (by rw [hlen, List.drop_zero]) (by omega)
        obtain ⟨c, t, fr, hb, hc⟩ := hA
        have hlt := (Array.getElem?_eq_some_iff.1 hb).1
        have hA' : At w' b 0 (cs.take (q * k.sz)) := ⟨c, t, fr, by rw [hw b hlt]; exact hb, hc⟩
        exact run_firstCells_some w' _ _ _ _ _ _ hlen (fun j v hj => by rw [add_eq]; exact hA'.cell hj)
  obtain ⟨g1, news, g2, g3⟩ := gen
  refine ⟨g1, news, g2, fun w' hw => ?_, g3⟩
  have := g3 xs.length (Nat.le_refl _) w' hw
  rw [List.take_of_length_le (by rw [g2.1]; exact Nat.le_refl _)] at this
  exact this
def SrcOK (P : Program) (k : Kd α) (m : M) (w : World) (t2 : TypeId) (u : Value) (ys : List α) : Prop :=
  ((∃ e', P.underlying t2 = some (.slice e')) ∨ P.underlying t2 = some .string) ∧ (Builtin.lenOf u).run P w = .ok ys.length w ∧ ∃ news, Rl k m news ys ∧ (∀ w', (∀ b, b < w.heap.size → w'.heap[b]? = w.heap[b]?) → (Builtin.firstCells k.sz ys.length u).run P w' = .ok news.toArray w')
theorem src_sl {u : Value} {e' : TypeId} (hS : S W0 m w L TL) (hu2 : P.underlying t2 = some (.slice e')) (hw : RV (kSl k) m u ys) : SrcOK P k m w t2 u ys := by
  obtain ⟨news, hR, hf, _⟩ := firstCells_run (P := P) hS hw
  exact ⟨.inl ⟨e', hu2⟩, lenOf_sl hw w, news, hR, hf⟩
theorem src_own {u : Value} {e' : TypeId} (hS : S W0 m w L TL) (hu2 : P.underlying t2 = some (.slice e')) (hL : L[i]? = some (b, cs)) (hg : GS k m b cs u ys) : SrcOK P k m w t2 u ys := by
  obtain ⟨h1, news, h2, h3, _⟩ := firstCells_G (P := P) hS hL hg
  exact ⟨.inl ⟨e', hu2⟩, h1, news, h2, h3⟩
theorem st_appX {v u : Value} {xs ys zs : List α} (hE : EnvD δ n a l) (hS : S W0 m w L TL) (hx : evl l x = some v) (hy : evl l y = some u) (hu : P.underlying t = some (.slice e)) (hel : ElOK P e k.sz by_) (hT : TL[i]? = some (k.sz, v)) (hv : RV (kSl k) m v xs) (hw : SrcOK P k m w t2 u ys) (happ : app N xs ys = some zs)
    (hN : Nat.ble (N * by_) 140737488355328 = true) (hM : Nat.ble N 281474976710656 = true) :
    Step P ⟨some d, .call ⟨.builtin .append, #[x, y], #[t, t2]⟩, ty, pos, aft, g⟩ a w (fun v' w' => ∃ m', M.le m m' ∧ S W0 m' w' L (TL.set i (k.sz, v')) ∧ RV (kSl k) m' v' zs) := by
  obtain ⟨hle, rfl⟩ := app_some happ
  obtain ⟨h0, hln, news, hR, hf⟩ := hw
  obtain ⟨v', m', w', hrun, h1, h2, h3⟩ := append_cells (tx := t2) (ty := ty) hS hu h0 hel hT hv hln hf hR
    (by have := Nat.mul_le_mul_right by_ hle; have := Nat.le_of_ble_eq_true hN; omega) (by have := Nat.le_of_ble_eq_true hM; unfold maxSz; omega)
  have hr : Run1 P ⟨some d, .call ⟨.builtin .append, #[x, y], #[t, t2]⟩, ty, pos, aft, g⟩ a w v' w' := by
    simp [Run1, execOp, resolve, invoke, builtin, hE.eval hx, hE.eval hy, hrun]
  exact hr.step ⟨m', h1, h2, h3⟩
theorem S.swapL (hS : S W0 m w ((b, cs) :: L) TL) (hi : i < L.length) : S W0 m w (L.set i (b, cs)) TL := by
  refine hS.selL _ (fun j => if j = i then 0 else j + 1) (fun j e he => ?_) (fun j j' h => ?_)
  · rw [List.getElem?_set] at he
    by_cases h : i = j
    · subst h; simp [hi] at he ⊢; exact he
    · rw [if_neg h] at he
      rw [if_neg (fun x => h x.symm)]
      simpa using he
  · split at h <;> split at h <;> omega
theorem st_appG {v u : Value} {xs ys zs : List α} (hE : EnvD δ n a l) (hS : S W0 m w L TL) (hx : evl l x = some v) (hy : evl l y = some u) (hu : P.underlying t = some (.slice e)) (hel : ElOK P e k.sz by_) (hL : L[i]? = some (b, cs)) (hg : GS k m b cs v xs) (hw : SrcOK P k m w t2 u ys) (happ : app N xs ys = some zs)
    (hN : Nat.ble (N * by_) 140737488355328 = true) (hM : Nat.ble N 281474976710656 = true) :
    Step P ⟨some d, .call ⟨.builtin .append, #[x, y], #[t, t2]⟩, ty, pos, aft, g⟩ a w (fun v' w' => ∃ b' cs', GS k m b' cs' v' zs ∧ S W0 m w' (L.set i (b', cs')) TL) := by
  obtain ⟨hle, rfl⟩ := app_some happ
  obtain ⟨hux, hn, news, hR, hf⟩ := hw
  have hN' : (xs.length + ys.length) * by_ ≤ 140737488355328 := by have := Nat.mul_le_mul_right by_ hle; have := Nat.le_of_ble_eq_true hN; omega
  have hM' : xs.length + ys.length ≤ maxSz := by have := Nat.le_of_ble_eq_true hM; unfold maxSz; omega
  have hMx : xs.length + ys.length ≤ 281474976710656 := hM'
  obtain ⟨inf, z, hi, hsz, hby, hz, hzc⟩ := hel.ok
  have hp := k.pos
  have hil : i < L.length := (List.getElem?_eq_some_iff.1 hL).1
  have hsame : L.set i (b, cs) = L := by
    obtain ⟨h1, h2⟩ := List.getElem?_eq_some_iff.1 hL
    rw [← h2]; exact List.set_getElem_self h1
  suffices hmain : ∃ v' w' b' cs', (Builtin.append_ #[t, t2] ty #[v, u]).run P w = .ok v' w' ∧ GS k m b' cs' v' (xs ++ ys) ∧ S W0 m w' (L.set i (b', cs')) TL by
    obtain ⟨v', w', b', cs', hrun, h1, h2⟩ := hmain
    have hr : Run1 P ⟨some d, .call ⟨.builtin .append, #[x, y], #[t, t2]⟩, ty, pos, aft, g⟩ a w v' w' := by
      simp [Run1, execOp, resolve, invoke, builtin, hE.eval hx, hE.eval hy, hrun]
    exact hr.step ⟨b', cs', h1, h2⟩
  obtain ⟨_, gcs, hcs, hfc, _⟩ := firstCells_G (P := P) hS hL hg
  obtain ⟨ad0, cap0, hv0, hcap0⟩ := hg.val
  by_cases hfit : xs.length + ys.length ≤ cap0
  · rcases Nat.eq_zero_or_pos ys.length with h0 | h0
    · have hy0 : ys = [] := List.eq_nil_of_length_eq_zero h0
      subst hy0
      have hnw : news = [] := List.eq_nil_of_length_eq_zero (by rw [hR.1]; simp)
      subst hnw
      have hf0 := hf w (fun _ _ => rfl)
      simp only [List.length_nil] at hf0 hn
      refine ⟨v, w, b, cs, ?_, by simpa using hg, by rw [hsame]; exact hS⟩
      subst hv0
      cases ad0 with
      | none => rcases hux with ⟨_, hux⟩ | hux <;> simp [Builtin.append_, run_underlying hu, run_underlying hux, sizeOf, typeInfo, hi, hn, hsz, hf0, hcap0]
      | some ad => rcases hux with ⟨_, hux⟩ | hux <;> simp [Builtin.append_, run_underlying hu, run_underlying hux, sizeOf, typeInfo, hi, hn, hsz, hf0, hcap0, storeCells]
    · obtain ⟨hg0, ⟨rfl, rfl, ad, rfl, _⟩ | ⟨cap, rfl, h3, h4, h5⟩⟩ := hg
      · have hc0 : cap0 = 0 := by
          injection hv0 with _ _ h; exact h.symm
        simp only [List.length_nil] at hfit; omega
      injection hv0 with h1 _ h; subst h; subst h1
      have hlez : (xs.length + ys.length) * k.sz ≤ cap * k.sz := Nat.mul_le_mul_right _ hfit
      rw [Nat.add_mul] at hlez
      have hyz : 0 < ys.length * k.sz := Nat.mul_pos h0 hp
      have hne : cs ≠ [] := fun e => by subst e; simp at h4; omega
      obtain ⟨hB, hm, t0, ht⟩ := hS.own i _ hL hne
      have hnl := hR.1
      have hrun := storeCells_run (P := P) news b (xs.length * k.sz) 0 cs t0 w ht (by omega) hR.one
      simp only [Nat.add_zero] at hrun
      refine ⟨.slice (some ⟨b, 0, none⟩) (xs ++ ys).length cap, w.setRow b (cs.take (xs.length * k.sz) ++ news ++ cs.drop (xs.length * k.sz + news.length)).toArray, b, cs.take (xs.length * k.sz) ++ news ++ cs.drop (xs.length * k.sz + news.length), ?_, ⟨by simpa using hM', .inr ⟨cap, rfl, by simpa using hfit, ?_, ?_⟩⟩, hS.setL hL hne _⟩
      · rcases hux with ⟨_, hux⟩ | hux <;> simp [Builtin.append_, run_underlying hu, run_underlying hux, sizeOf, typeInfo, hi, hn, hsz, hf w (fun _ _ => rfl), hfit, add_eq, hrun]
      · simp; omega
      · have hAl : (cs.take (xs.length * k.sz)).length = xs.length * k.sz := by simp; omega
        have hl2 : (xs ++ ys).length * k.sz = (cs.take (xs.length * k.sz) ++ news).length := by simp [Nat.add_mul, hnl]; omega
        rw [hl2, List.take_append_of_le_length (Nat.le_refl _), List.take_of_length_le (Nat.le_refl _)]
        exact Rl.app h5 hR
  · have hgt : cap0 < xs.length + ys.length := by omega
    have h63 : ¬ (9223372036854775807 < ((xs.length : Int) + (ys.length : Int))) := by omega
    have h48 : ¬ (281474976710656 < Builtin.nextslicecap (xs.length + ys.length) cap0 * inf.bytes) := by
      have := growslice_fits hgt (bytes := inf.bytes) (by rw [hby]; exact hN')
      omega
    generalize hcapn : grownCap w (xs.length + ys.length) cap0 e = cap' at *
    have hcap' : xs.length + ys.length ≤ cap' := by
      rw [← hcapn]; simp [grownCap, Question.cut]
    let rest := (Builtin.zeroCells z.cells (cap' - (xs.length + ys.length))).toList
    have hrl : rest.length = (cap' - (xs.length + ys.length)) * k.sz := by simp [rest, Builtin.zeroCells, hzc]
    have hrlz : (xs.length + ys.length) * k.sz + rest.length = cap' * k.sz := by rw [hrl, ← Nat.add_mul]; congr 1; omega
    rw [Nat.add_mul] at hrlz
    refine ⟨.slice (some ⟨w.heap.size, 0, none⟩) (xs ++ ys).length cap', w.drew.alloc (.cells (gcs ++ news ++ rest).toArray e), w.heap.size, gcs ++ news ++ rest, ?_, ⟨by simpa using hM', .inr ⟨cap', rfl, by simpa using hcap', ?_, ?_⟩⟩, ?_⟩
    · have hfd := hfc w.drew (fun _ _ => rfl)
      have hfd' := hf w.drew (fun _ _ => rfl)
      have e2 : gcs.toArray ++ (news.toArray ++ Builtin.zeroCells z.cells (cap' - (xs.length + ys.length))) = (gcs ++ (news ++ rest)).toArray := by
        apply Array.ext'; simp [rest]
      have hcapn' : (Question.appendCap (xs.length + ys.length) cap0 e).cut (w.tape w.drawn (Question.appendCap (xs.length + ys.length) cap0 e)) = cap' := hcapn
      subst hv0
      rcases hux with ⟨_, hux⟩ | hux <;> simp [Builtin.append_, run_underlying hu, run_underlying hux, sizeOf, typeInfo, zeroValue, hi, hz, hn, hsz, hfit, h63, h48, Question.forced, hfd, hfd', newRow, hcapn', e2]
    · simp [hcs.1, hR.1]; omega
    · rw [List.take_append_of_le_length (by simp [hcs.1, hR.1, Nat.add_mul]), List.take_of_length_le (by simp [hcs.1, hR.1, Nat.add_mul])]
      exact Rl.app hcs hR
    · have := hS.drew.allocL (gcs ++ news ++ rest) e
      exact this.swapL hil
theorem st_copyG {u : Value} (hE : EnvD δ n a l) (hS : S W0 m w L TL) (hx : evl l x = some v) (hy : evl l y = some u) (hu : P.underlying t = some (.slice e)) (hs : ∀ w, (sizeOf e).run P w = .ok k.sz w) (hL : L[i]? = some (b, cs)) (hg : GS k m b cs v xs) (hw : RV (kSl k) m u ys) :
    Step P ⟨some d, .call ⟨.builtin .copy, #[x, y], #[t, t2]⟩, ty, pos, aft, g⟩ a w (fun v' w' => v' = .int .i64 (min ys.length xs.length : Nat) ∧ ∃ cs', GS k m b cs' v (cpy xs ys) ∧ S W0 m w' (L.set i (b, cs')) TL) := by
  have hil : i < L.length := (List.getElem?_eq_some_iff.1 hL).1
  have hsame : L.set i (b, cs) = L := by
    obtain ⟨h1, h2⟩ := List.getElem?_eq_some_iff.1 hL
    rw [← h2]; exact List.set_getElem_self h1
  have hp := k.pos
  have hmin : Nat.min ys.length xs.length = min ys.length xs.length := rfl
  -- what is read: the first so many
  have hw2 : RV (kSl k) m u ys := hw
  have hsub : ∃ news, Rl k m news (ys.take xs.length) ∧ (Builtin.firstCells k.sz (min ys.length xs.length) u).run P w = .ok news.toArray w := by
    obtain ⟨ad, cap, rfl, h3, h4, h5⟩ := RV_sl hw
    have hv' : RV (kSl k) m (.slice ad (ys.take xs.length).length cap) (ys.take xs.length) := by
      refine RV_of_sl (by simp; omega) (by simp; omega) ?_
      cases ad with
      | none => exact h5
      | some ad => exact ⟨h5.1, fun q hq => by rw [List.getElem_take]; exact h5.2 q (by simp at hq; omega)⟩
    obtain ⟨news, h6, h7, _⟩ := firstCells_run (P := P) hS hv'
    have h8 := h7 w (fun _ _ => rfl)
    refine ⟨news, h6, ?_⟩
    rw [List.length_take, Nat.min_comm] at h8
    cases ad <;> simpa [Builtin.firstCells] using h8
  obtain ⟨news, hR, hfc⟩ := hsub
  have hln := lenOf_sl (P := P) hw w
  rcases Nat.eq_zero_or_pos (min ys.length xs.length) with h0 | h0
  · have hcp : cpy xs ys = xs := by
      unfold cpy
      rcases Nat.eq_zero_or_pos ys.length with h | h
      · have : ys = [] := List.eq_nil_of_length_eq_zero h
        subst this; simp
      · have : xs = [] := List.eq_nil_of_length_eq_zero (by omega)
        subst this; simp
    have hnw : news = [] := List.eq_nil_of_length_eq_zero (by rw [hR.1, List.length_take, Nat.min_comm, h0]; simp)
    subst hnw
    obtain ⟨ad, cap, hv, _⟩ := hg.val
    have hr : Run1 P ⟨some d, .call ⟨.builtin .copy, #[x, y], #[t, t2]⟩, ty, pos, aft, g⟩ a w (.int .i64 (min ys.length xs.length : Nat)) w := by
      have hx' := hE.eval hx
      rw [hv] at hx'
      cases ad with
      | none => simp [Run1, execOp, resolve, invoke, builtin, hx', hE.eval hy, Builtin.copy_, run_underlying hu, hs, hln, hmin, hfc, goInt]
      | some ad => simp [Run1, execOp, resolve, invoke, builtin, hx', hE.eval hy, Builtin.copy_, run_underlying hu, hs, hln, hmin, hfc, goInt, storeCells]
    exact hr.step ⟨rfl, cs, by rw [hcp]; exact hg, by rw [hsame]; exact hS⟩
  · obtain ⟨hg0, ⟨rfl, _⟩ | ⟨cap, rfl, h3, h4, h5⟩⟩ := hg
    · simp at h0
    have hlen : (ys.take xs.length).length = min ys.length xs.length := by rw [List.length_take, Nat.min_comm]
    have hnl : news.length = min ys.length xs.length * k.sz := by rw [hR.1, hlen]
    have hle1 : min ys.length xs.length * k.sz ≤ xs.length * k.sz := Nat.mul_le_mul_right _ (Nat.min_le_right _ _)
    have hle2 : xs.length * k.sz ≤ cap * k.sz := Nat.mul_le_mul_right _ h3
    have hpos : 0 < min ys.length xs.length * k.sz := Nat.mul_pos h0 hp
    have hne : cs ≠ [] := fun e => by subst e; simp at h4; omega
    obtain ⟨hB, hm, t0, ht⟩ := hS.own i _ hL hne
    have hrun := storeCells_run (P := P) news b 0 0 cs t0 w ht (by omega) hR.one
    simp only [Nat.add_zero, Nat.zero_add, List.take_zero, List.nil_append] at hrun
    have hr : Run1 P ⟨some d, .call ⟨.builtin .copy, #[x, y], #[t, t2]⟩, ty, pos, aft, g⟩ a w (.int .i64 (min ys.length xs.length : Nat)) (w.setRow b (news ++ cs.drop news.length).toArray) := by
      simp [Run1, execOp, resolve, invoke, builtin, hE.eval hx, hE.eval hy, Builtin.copy_, run_underlying hu, hs, hln, hmin, hfc, goInt, hrun]
    have hcl : (cpy xs ys).length = xs.length := by unfold cpy; simp; omega
    refine hr.step ⟨rfl, _, ⟨by rw [hcl]; exact hg0, .inr ⟨cap, by rw [hcl], by rw [hcl]; exact h3, by simp; omega, ?_⟩⟩, hS.setL hL hne _⟩
    have hrest : Rl k m ((cs.take (xs.length * k.sz)).drop (min ys.length xs.length * k.sz)) (xs.drop ys.length) := by
      refine ⟨?_, fun q hq => ?_⟩
      · simp
        rw [Nat.sub_mul]
        rcases Nat.le_total ys.length xs.length with h | h
        · rw [Nat.min_eq_left h, Nat.min_eq_left (by omega)]
        · rw [Nat.min_eq_right h, Nat.min_eq_left (by omega)]
          have := Nat.mul_le_mul_right k.sz h; omega
      · have hq' : ys.length + q < xs.length := by simp at hq; omega
        have h6 := h5.2 (ys.length + q) hq'
        rw [Nat.min_eq_left (by omega), List.drop_drop, ← Nat.add_mul]
        simpa using h6
    have := Rl.app hR hrest
    rw [hcl]
    have e1 : (news ++ cs.drop news.length).take (xs.length * k.sz) = news ++ (cs.take (xs.length * k.sz)).drop (min ys.length xs.length * k.sz) := by
      rw [List.take_append, List.take_of_length_le (by omega), List.drop_take, hnl]
    rw [e1]
    exact this
end
end Go.Proofs.Ytifobhaccglckaa.Hay
