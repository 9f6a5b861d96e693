import Derived.Test.YtifobhaccglckaaHbH
import Derived.Laws.StructEq
namespace Go.Proofs.Ytifobhaccglckaa.Hay
open Go.RowKit (Below)

section
variable {δ : List Nat} {ro : Option Nat} {α β γ : Type} {m : M}
theorem Fld_self {k : Kd α} : Fld k k 0 id := ⟨by omega, fun m cs x h => R_whole h⟩
theorem Fld_fst {d : Kd α} {e : Kd β} : Fld (kPair d e) d 0 Prod.fst := ⟨by show 0 + d.sz ≤ d.sz + e.sz; omega, fun m cs x h => by
  rw [List.drop_zero]; exact h.1⟩
theorem Fld_snd {d : Kd α} {e : Kd β} {k' : Kd γ} {off : Nat} {f : β → γ} (h : Fld e k' off f) : Fld (kPair d e) k' (d.sz + off) (fun x => f x.2) :=
  ⟨by show d.sz + off + k'.sz ≤ d.sz + e.sz; have := h.1; omega, fun m cs x hx => by
    have := h.2 m _ _ hx.2
    rw [List.drop_drop] at this
    exact this⟩
theorem Fld_map {g : β → α} {d : Kd α} {k' : Kd γ} {off : Nat} {f : α → γ} (h : Fld d k' off f) : Fld (kMap g d) k' off (fun x => f (g x)) := ⟨h.1, fun m cs x hx => h.2 m cs (g x) hx⟩
def StF (k : Kd α) (k' : Kd β) (off : Nat) (s : α → β → α) : Prop := off + k'.sz ≤ k.sz ∧ ∀ m cs vs x y, k.R m cs x → k'.R m vs y → k.R m (cs.take off ++ vs ++ cs.drop (off + k'.sz)) (s x y)
theorem StF_self {k : Kd α} : StF k k 0 (fun _ y => y) := ⟨by omega, fun m cs vs x y hx hy => by
  have h1 := k.len hx
  rw [List.take_zero, List.nil_append, List.drop_eq_nil_of_le (by omega), List.append_nil]
  exact hy⟩
theorem StF_fst {d : Kd α} {e : Kd β} : StF (kPair d e) d 0 (fun x y => (y, x.2)) := ⟨by show 0 + d.sz ≤ d.sz + e.sz; omega, fun m cs vs x y hx hy => by
  have h1 := d.len hy
  have h2 := (kPair d e).len hx
  refine ⟨?_, ?_⟩
  · simp only [List.take_zero, List.nil_append]
    rw [List.take_append_of_le_length (by omega), List.take_of_length_le (by omega)]
    exact hy
  · simp only [List.take_zero, List.nil_append, Nat.zero_add]
    rw [List.drop_append, List.drop_eq_nil_of_le (by omega), List.nil_append, h1, Nat.sub_self, List.drop_zero]
    exact hx.2⟩
theorem StF_snd {d : Kd α} {e : Kd β} {k' : Kd γ} {off : Nat} {s : β → γ → β} (h : StF e k' off s) : StF (kPair d e) k' (d.sz + off) (fun x y => (x.1, s x.2 y)) :=
  ⟨by show d.sz + off + k'.sz ≤ d.sz + e.sz; have := h.1; omega, fun m cs vs x y hx hy => by
    have h2 := (kPair d e).len hx
    have hsz : (kPair d e).sz = d.sz + e.sz := rfl
    have hoff := h.1
    have key := h.2 m _ vs _ y hx.2 hy
    refine ⟨?_, ?_⟩
    · have : (cs.take (d.sz + off) ++ vs ++ cs.drop (d.sz + off + k'.sz)).take d.sz = cs.take d.sz := by
        rw [List.append_assoc, List.take_append_of_le_length (by simp; omega), List.take_take, Nat.min_eq_left (by omega)]
      rw [this]; exact hx.1
    · have : (cs.take (d.sz + off) ++ vs ++ cs.drop (d.sz + off + k'.sz)).drop d.sz = (cs.drop d.sz).take off ++ vs ++ (cs.drop d.sz).drop (off + k'.sz) := by
        rw [List.append_assoc, List.drop_append_of_le_length (by simp; omega), List.drop_take, show d.sz + off - d.sz = off by omega, List.drop_drop, List.append_assoc]
        congr 3
        omega
      rw [this]; exact key⟩
theorem StF_map {g : β → α} {d : Kd α} {k' : Kd γ} {off : Nat} {s : α → γ → α} {s' : β → γ → β} (h : StF d k' off s) (hg : ∀ x y, g (s' x y) = s (g x) y) : StF (kMap g d) k' off s' :=
  ⟨h.1, fun m cs vs x y hx hy => by
    show d.R m _ (g (s' x y))
    rw [hg]
    exact h.2 m cs vs (g x) y hx hy⟩
inductive Parts (places : Nat → Option (Nat × Nat)) (k : Kd α) (m : M) : List (Nat × Value) → α → α → Prop
  | nil {x : α} : Parts places k m [] x x
  | cons {β : Type} {k' : Kd β} {i off : Nat} {v : Value} {ps : List (Nat × Value)} {s : α → β → α} {x z : α} {y : β} (hp : places i = some (off, k'.sz)) (hs : StF k k' off s) (hv : RV k' m v y) (rest : Parts places k m ps (s x y) z) : Parts places k m ((i, v) :: ps) x z
theorem Parts.fill {places : Nat → Option (Nat × Nat)} {k : Kd α} {ps : List (Nat × Value)} {x z : α} (h : Parts places k m ps x z) : ∀ cs : List Value, k.R m cs x → ∃ cs' : List Value, Instr.fill places cs.toArray ps = some cs'.toArray ∧ k.R m cs' z := by
  induction h with
  | nil => exact fun cs hc => ⟨cs, rfl, hc⟩
  | @cons β k' i off v ps s x z y hp hs hv _ ih =>
    intro cs hc
    obtain ⟨vs, hR, rfl⟩ := hv
    have hl := k'.len hR
    have hcl := k.len hc
    have hoff := hs.1
    obtain ⟨cs', h1, h2⟩ := ih _ (hs.2 m cs vs x y hc hR)
    refine ⟨cs', ?_, h2⟩
    have hfold : ((k'.val vs).cells.zipIdx).foldl (fun (cs : Array Value) (p : Value × Nat) => cs.setIfInBounds (off + p.2) p.1) cs.toArray = (cs.take off ++ vs ++ cs.drop (off + k'.sz)).toArray := by
      have := foldl_set off vs 0 cs (by omega)
      simp only [Nat.add_zero, hl] at this
      rw [← this, k'.val_cells hR, ← Array.foldl_toList, Array.toList_zipIdx]
    simp only [Instr.fill, hp]
    rw [if_neg (by rw [k'.val_cells hR]; simp [hl]; omega)]
    rw [← h1]
    congr 1
end
section
variable {δ : List Nat} {ro : Option Nat} {P : Program} {W0 : Bse} {m : M} {L : List (Nat × List Value)} {TL : List (Nat × Value)} {n : Nat} {a : Act} {l : List (Nat × Value)} {w : World} {ty t : TypeId} {pos : String} {aft : Array Edge} {g : Option (Nat × Bool)} {x y : Operand} {d : Nat} {α : Type} {k : Kd α}
theorem st_build {ps : Array (Nat × Operand)} {pv : List (Nat × Value)} {fs : Array Field} {pl : List (Nat × Nat)} {z : Value} {x0 xx : α} (hE : EnvD δ n a l) (hp : prt l ps = some pv) (hu : P.underlying t = some (.struct fs)) (hpl : fs.toList.mapM (fun f => (P.info? f.type).map fun i => (f.offset, i.size)) = some pl)
    (hz : ∀ w, (zeroValue t).run P w = .ok z w) (hz0 : ∀ m, k.R m z.cells.toList x0) (ha : k.agg = true) (hP : Parts (pl.toArray[·]?) k m pv x0 xx) :
    Step P ⟨some d, .build t ps, ty, pos, aft, g⟩ a w (fun v w' => w = w' ∧ RV k m v xx) := by
  obtain ⟨cs, hf, hR⟩ := hP.fill _ (hz0 m)
  have hpv : (ps.map fun p => (p.1, a.eval p.2)).toList = pv := prt_eval hE hp
  have hmap : (fs.mapM fun f : Field => (do pure (f.offset, ← sizeOf f.type) : Sem (Nat × Nat))).run P w = .ok pl.toArray w := by
    rw [Array.mapM_eq_mapM_toList]
    have := run_places (P := P) w fs.toList pl hpl
    simp only [Sem.run_map]
    have e1 : (fs.toList.mapM fun f : Field => (do pure (f.offset, ← sizeOf f.type) : Sem (Nat × Nat))).run P w = .ok pl w := by
      have h2 : (fun f : Field => (do pure (f.offset, ← sizeOf f.type) : Sem (Nat × Nat))) = (fun f : Field => Prod.mk f.offset <$> sizeOf f.type) := by
        funext f; rfl
      rw [h2]; exact this
    rw [e1]
    rfl
  have hrun : (Instr.build t (ps.map fun p => (p.1, a.eval p.2))).run P w = .ok (.agg cs.toArray) w := by
    simp only [Instr.build, Sem.run_bind, hz, Result.andThen_ok, run_underlying hu]
    rw [hmap]
    simp only [Result.andThen_ok, hpv]
    have : Instr.fill (fun x => pl.toArray[x]?) z.cells pv = some cs.toArray := by
      simpa using hf
    rw [this]
    rfl
  have hr : Run1 P ⟨some d, .build t ps, ty, pos, aft, g⟩ a w (.agg cs.toArray) w := by
    simp [Run1, execOp, hrun]
  exact hr.step ⟨rfl, cs, hR, by simp [Kd.val, ha]⟩
theorem EnvD.cut (h : EnvD δ n a l) {l' : List (Nat × Value)} (hs : Sub l l') : EnvD δ n a l' := h.sub hs.all
theorem EnvD.add (h : EnvD δ n a l) {i : Nat} {v : Value} (hv : a.tmps.getD i undef = v) : EnvD δ n a ((i, v) :: l) :=
  ⟨h.defers, h.size, fun j u hj => by
    simp only [lk] at hj
    split at hj
    · rename_i e
      have e' := Nat.eq_of_beq_eq_true e
      subst e'
      injection hj with hj
      rw [← hj]; exact hv
    · exact h.at_ j u hj⟩
def nodupB (is : List Nat) : Bool := match is with | [] => true | i :: r => !(r.any fun j => Nat.beq i j) && nodupB r
theorem pick_inj {γ : Type} {X : List γ} : ∀ {is : List Nat} {Y : List γ}, nodupB is = true → is.mapM (fun i => X[i]?) = some Y → ∃ f : Nat → Nat, (∀ i e, Y[i]? = some e → X[f i]? = some e) ∧ (∀ i j, i < Y.length → j < Y.length → f i = f j → i = j) ∧ (∀ i, i < Y.length → f i ∈ is)
  | [], Y, _, h => by simp at h; subst h; exact ⟨id, by simp, by simp, by simp⟩
  | i :: is, Y, hn, h => by
    simp only [List.mapM_cons, Option.bind_eq_bind, Option.pure_def] at h
    cases hx : X[i]? with
    | none => simp [hx] at h
    | some x =>
      cases hr : is.mapM (fun i => X[i]?) with
      | none => simp [hx, hr] at h
      | some ys =>
        simp [hx, hr] at h
        subst h
        simp only [nodupB, Bool.and_eq_true, Bool.not_eq_true'] at hn
        obtain ⟨f, h1, h2, h3⟩ := pick_inj hn.2 hr
        have hni : i ∉ is := fun hm => by
          have := List.any_eq_false.1 hn.1 i hm
          simp at this
        refine ⟨fun j => match j with | 0 => i | j + 1 => f j, ?_, ?_, ?_⟩
        · intro j e he
          cases j with
          | zero => simp at he; subst he; exact hx
          | succ j => exact h1 j e (by simpa using he)
        · intro j j' hj hj' hf
          cases j with
          | zero =>
            cases j' with
            | zero => rfl
            | succ j' => exact absurd (by have h9 := h3 j' (by simpa using hj'); simp only at hf; rw [← hf] at h9; exact h9) hni
          | succ j =>
            cases j' with
            | zero => exact absurd (by have h9 := h3 j (by simpa using hj); simp only at hf; rw [hf] at h9; exact h9) hni
            | succ j' => exact congrArg _ (h2 j j' (by simpa using hj) (by simpa using hj') hf)
        · intro j hj
          cases j with
          | zero => simp
          | succ j => exact List.mem_cons_of_mem _ (h3 j (by simpa using hj))
theorem pick_inj' {γ : Type} {X : List γ} {k : Nat} {is : List Nat} {Y : List γ} (hn : nodupB is = true) (hk : is.all (fun i => Nat.blt i k) = true) (h : is.mapM (fun i => X[i]?) = some Y) :
    ∃ f : Nat → Nat, (∀ i e, (Y ++ X.drop k)[i]? = some e → X[f i]? = some e) ∧ (∀ i j, f i = f j → i = j) := by
  obtain ⟨f, h1, h2, h3⟩ := pick_inj hn h
  refine ⟨fun i => if i < Y.length then f i else k + (i - Y.length), fun i e he => ?_, fun i j hij => ?_⟩
  · simp only
    split
    · rename_i hi
      rw [List.getElem?_append_left hi] at he
      exact h1 i e he
    · rename_i hi
      rw [List.getElem?_append_right (by omega), List.getElem?_drop] at he
      exact he
  · have lt : ∀ i, i < Y.length → f i < k := fun i hi => Nat.le_of_ble_eq_true (List.all_eq_true.1 hk _ (h3 i hi))
    simp only at hij
    split at hij <;> split at hij
    · rename_i hi hj; exact h2 i j hi hj hij
    · rename_i hi hj; have := lt i hi; omega
    · rename_i hi hj; have := lt j hj; omega
    · omega
theorem S.pickL (h : S W0 m w L TL) (k : Nat) (is : List Nat) (hn : nodupB is = true) (hk : is.all (fun i => Nat.blt i k) = true) {L' : List (Nat × List Value)} (hL : is.mapM (fun i => L[i]?) = some L') : S W0 m w (L' ++ L.drop k) TL := by
  obtain ⟨f, h1, h2⟩ := pick_inj' hn hk hL
  exact h.selL _ f h1 h2
theorem S.pickT (h : S W0 m w L TL) (k : Nat) (is : List Nat) (hn : nodupB is = true) (hk : is.all (fun i => Nat.blt i k) = true) {TL' : List (Nat × Value)} (hL : is.mapM (fun i => TL[i]?) = some TL') : S W0 m w L (TL' ++ TL.drop k) := by
  obtain ⟨f, h1, h2⟩ := pick_inj' hn hk hL
  exact h.selT _ f h1 h2
theorem st_storeF {α β : Type} {kT : Kd α} {k' : Kd β} {off : Nat} {s : α → β → α} {i b : Nat} {cs : List Value} {v : Value} {xx : α} {yy : β} (hE : EnvD δ n a l) (hS : S W0 m w L TL) (hT : TyOK P t k') (hf : StF kT k' off s) (hx : evl l x = some (.pointer (some ⟨b, off, none⟩))) (hy : evl l y = some v) (hv : RV k' m v yy) (hL : L[i]? = some (b, cs)) (hR : kT.R m cs xx) :
    Step P ⟨none, .store t x y, ty, pos, aft, g⟩ a w (fun _ w' => ∃ cs', kT.R m cs' (s xx yy) ∧ S W0 m w' (L.set i (b, cs')) TL) :=
  (st_store hE hS hT hx hy hv hL (by rw [kT.len hR]; exact hf.1)).imp fun _ _ ⟨vs, h1, h2⟩ => ⟨_, hf.2 m cs vs xx yy hR h1, h2⟩
structure EqOK (P : Program) (t : TypeId) {α : Type} [DecidableEq α] (k : Kd α) : Prop where
  eq : ∀ m cs ds (x y : α) d w, k.R m cs x → k.R m ds y → (Op.equalIn (d + 20) t (k.val cs) (k.val ds)).run P w = .ok (decide (x = y)) w
  plain : ∀ op o o' cs ds w, (eqGuard op t o o' (k.val cs) (k.val ds)).run P w = .ok () w
theorem r_eqlK {α : Type} [DecidableEq α] {k : Kd α} {u v : Value} {xx yy : α} {t' : TypeId} (hE : EnvD δ n a l) (hq : EqOK P t k) (hx : evl l x = some u) (hy : evl l y = some v) (hu : RV k m u xx) (hv : RV k m v yy) (ha : k.agg = true) : Run1 P ⟨some d, .binOp .eql t x y t', ty, pos, aft, g⟩ a w (.bool (decide (xx = yy))) w := by
  obtain ⟨cs, hc, rfl⟩ := hu
  obtain ⟨ds, hd, rfl⟩ := hv
  have h1 := hq.eq m cs ds xx yy 9980 w hc hd
  have h2 := hq.plain .eql x y cs ds w
  have h3 : k.val cs = .agg cs.toArray := by simp [Kd.val, ha]
  have h4 : k.val ds = .agg ds.toArray := by simp [Kd.val, ha]
  simp only [Run1, execOp, hE.eval hx, hE.eval hy, Sem.run_bind, h2, Result.andThen_ok]
  rw [h3, h4] at h1 ⊢
  simp [binOp, Op.equal, Op.maxDepth, h1]
theorem r_neqK {α : Type} [DecidableEq α] {k : Kd α} {u v : Value} {xx yy : α} {t' : TypeId} (hE : EnvD δ n a l) (hq : EqOK P t k) (hx : evl l x = some u) (hy : evl l y = some v) (hu : RV k m u xx) (hv : RV k m v yy) (ha : k.agg = true) : Run1 P ⟨some d, .binOp .neq t x y t', ty, pos, aft, g⟩ a w (.bool (!decide (xx = yy))) w := by
  obtain ⟨cs, hc, rfl⟩ := hu
  obtain ⟨ds, hd, rfl⟩ := hv
  have h1 := hq.eq m cs ds xx yy 9980 w hc hd
  have h2 := hq.plain .neq x y cs ds w
  have h3 : k.val cs = .agg cs.toArray := by simp [Kd.val, ha]
  have h4 : k.val ds = .agg ds.toArray := by simp [Kd.val, ha]
  simp only [Run1, execOp, hE.eval hx, hE.eval hy, Sem.run_bind, h2, Result.andThen_ok]
  rw [h3, h4] at h1 ⊢
  simp [binOp, Op.equal, Op.maxDepth, h1]
def chk (b : Bool) : Option Unit := if b then some () else none
theorem chk_some {b : Bool} {u : Unit} (h : chk b = some u) : b = true := by
  unfold chk at h; split at h
  · assumption
  · cases h
theorem inR_lit {k : IntKind} {x : Int} (h : k.wrap x = x) : inR k x := h
theorem inR_max {k : IntKind} {x y : Int} (hx : inR k x) (hy : inR k y) : inR k (if x < y then y else x) := by split <;> assumption
theorem inR_min {k : IntKind} {x y : Int} (hx : inR k x) (hy : inR k y) : inR k (if y < x then y else x) := by split <;> assumption
theorem S.tail0 (h : S W0 m w L TL) (sz : Nat) : S W0 m w L ((sz, .slice none 0 0) :: TL) := h.nilT sz 0 0
end
section
variable {δ : List Nat} {ro : Option Nat} {α σ β : Type} {A B : Option α} {r : α} {c : Bool}
theorem ite_T (hc : c = true) (h : (if c = true then A else B) = some r) : A = some r := by rw [if_pos hc] at h; exact h
theorem ite_F (hc : c = false) (h : (if c = true then A else B) = some r) : B = some r := by rw [if_neg (by simp [hc])] at h; exact h
theorem unwrap {e : Option β} {r : σ ⊕ β} {o : β} (h : e.map Sum.inr = some r) (hb : ∀ o', r = .inr o' → o' = o) : e = some o := by
  cases e with
  | none => simp at h
  | some x => simp at h; rw [hb x h.symm]
end
section
variable {δ : List Nat} {ro : Option Nat} {P : Program} {os : List Oper} {Φ : Nat → Option Nat → M → Value → Prop} {Ψ : M → List Value → Prop} {W0 : Bse} {m : M} {LF : Option Nat → List Value → List (Nat × List Value)} {TL : List (Nat × Value)} {n ks : Nat} {cs0 : List Value} {l : List (Nat × Value)} {i : Nat} {dst : Option Tmp} {op : Op} {ty : TypeId} {pos : String} {aft : Array Edge}
theorem yielded_told {ops : Array Oper} {a : Act} {g dg : Nat} {b : Bool} (hE : EnvD δ n a l) (hd : dstOf ops g = some dg) (hn : Nat.blt dg n = true) (hq : a.tmps.getD dg undef = .bool b) : yielded ops a.tmps g = some b := by
  have hlt : dg < a.tmps.size := by rw [hE.size]; exact Nat.le_of_ble_eq_true hn
  unfold dstOf at hd
  unfold yielded
  rw [hd]
  simp only [Option.bind_some]
  rw [Array.getD_eq_getD_getElem?, Array.getElem?_eq_getElem hlt] at hq
  rw [Array.getElem?_eq_getElem hlt]
  simp at hq
  rw [hq]
theorem EnvD.of {a : Act} {l' : List (Nat × Value)} (h1 : a.defers = δ.map fun D => { target := .collected D, args := #[] }) (h2 : a.tmps.size = n) {ops : Array Oper} {k : Nat} (h3 : ∀ d v, lk l d = some v → (∀ j, j < k → dstOf ops j ≠ some d) → a.tmps.getD d undef = v) (hs : Sub l l') (hk : (List.range k).all (fun j => match dstOf ops j with | some d => l'.all (fun e => !(Nat.beq e.1 d)) | none => true) = true) : EnvD δ n a l' := by
  have hl := hs.all
  clear hs
  refine ⟨h1, h2, fun j v hj => ?_⟩
  have : ∃ e ∈ l', e = (j, v) := by
    clear hl hk
    induction l' with
    | nil => simp [lk] at hj
    | cons e r ih =>
      obtain ⟨i', u⟩ := e
      simp only [lk] at hj
      split at hj
      · rename_i hb
        have := Nat.eq_of_beq_eq_true hb
        subst this
        injection hj with hj
        subst hj
        exact ⟨_, by simp, rfl⟩
      · obtain ⟨e, he, rfl⟩ := ih hj
        exact ⟨_, by simp [he], rfl⟩
  obtain ⟨e, he, rfl⟩ := this
  refine h3 j v (hl _ he) fun q hq hqd => ?_
  have h5 := List.all_eq_true.1 hk q (by simpa using hq)
  rw [hqd] at h5
  have h6 := List.all_eq_true.1 h5 _ he
  simp at h6
end
end Go.Proofs.Ytifobhaccglckaa.Hay
