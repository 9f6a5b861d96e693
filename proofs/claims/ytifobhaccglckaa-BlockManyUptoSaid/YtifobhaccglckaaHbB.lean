import Derived.Test.YtifobhaccglckaaHbA
import Derived.Scope
namespace Go.Proofs.Ytifobhaccglckaa.Hay
open Go.RowKit (Below)

def lk : List (Nat × Value) → Nat → Option Value
  | [], _ => none
  | (i, v) :: l, j => match Nat.beq i j with | true => some v | false => lk l j
structure EnvD (δ : List Nat) (n : Nat) (a : Act) (l : List (Nat × Value)) : Prop where
  defers : a.defers = δ.map fun D => { target := .collected D, args := #[] }
  size : a.tmps.size = n
  at_ : ∀ j v, lk l j = some v → a.tmps.getD j undef = v
abbrev Env (n : Nat) (a : Act) (l : List (Nat × Value)) : Prop := EnvD [] n a l
def evl (l : List (Nat × Value)) : Operand → Option Value
  | .tmp t => lk l t
  | .const v => some v
  | .global g => some (.pointer (some ⟨g, 0, none⟩))
  | .func f => some (.func (.func f) #[] #[])
section
variable {δ : List Nat} {ro : Option Nat} {n : Nat} {a : Act} {l : List (Nat × Value)}
theorem EnvD.eval (h : EnvD δ n a l) {x : Operand} {v : Value} (hx : evl l x = some v) : a.eval x = v := by
  cases x with
  | tmp t => exact h.at_ t v hx
  | const v' => injection hx
  | global g => injection hx
  | func f => injection hx
theorem EnvD.put (h : EnvD δ n a l) {d : Nat} (hd : Nat.blt d n = true) (v : Value) : EnvD δ n (a.put (some d) v) ((d, v) :: l) := by
  have hd' : d < n := Nat.le_of_ble_eq_true hd
  refine ⟨h.defers, by simp [Act.put, h.size], fun j u hj => ?_⟩
  simp only [lk] at hj
  split at hj
  · rename_i e
    have e' := Nat.eq_of_beq_eq_true e
    subst e'
    injection hj with hj
    subst hj
    simp [Act.put, h.size, hd']
  · rename_i e
    have e' : d ≠ j := fun x => by subst x; simp at e
    have := h.at_ j u hj
    simpa [Act.put, Array.getElem?_setIfInBounds_ne e'] using this
theorem EnvD.sub (h : EnvD δ n a l) {l' : List (Nat × Value)} (hs : ∀ e ∈ l', lk l e.1 = some e.2) : EnvD δ n a l' :=
  ⟨h.defers, h.size, fun j v hj => h.at_ j v (by
    clear h
    induction l' with
    | nil => simp [lk] at hj
    | cons e r ih =>
      obtain ⟨i, u⟩ := e
      simp only [lk] at hj
      split at hj
      · rename_i e
        have e' := Nat.eq_of_beq_eq_true e
        subst e'
        injection hj with hj
        subst hj
        exact hs (i, u) (by simp)
      · exact ih (fun e he => hs e (by simp [he])) hj)⟩
end

def Fr (ro : Option Nat) : Fence := { Fence.wide with round := ro }
abbrev wpL (ro : Option Nat) (P : Program) (ops : Array Oper) (Q : Exit → Act → World → Prop) (rest : List Oper) (a : Act) (w : World) : Prop := wpListIn (Fr ro) 0 P ops Q rest a w
theorem semAt_value {ro : Option Nat} {P : Program} {o : Oper} {ρ : Operand → Value} {w w' : World} {x : Next} (h : (execOp ρ o).run P w = .ok x w') (hx : ∀ d, x ≠ .defer d) : (o.semAt ro ρ).run P w = .ok x w' := by
  cases ro with
  | none => exact h
  | some l =>
    rw [Oper.semAt_some]
    · exact h
    · intro c hc
      obtain ⟨d, op, ty, pos, af, g⟩ := o
      simp only at hc
      subst hc
      simp only [execOp, Sem.run_bind] at h
      cases hr : (resolve ρ c ty).run P w with
      | ok d' w1 =>
        rw [hr] at h
        simp only [Result.andThen_ok, Sem.run_pure] at h
        injection h with h1 h2
        exact hx _ h1.symm
      | halt x' w1 => rw [hr] at h; cases h
theorem wpR_value {ro : Option Nat} {P : Program} {o : Oper} {a : Act} {w w' : World} {v : Value} {K : Act → World → Prop} {Q : Exit → Act → World → Prop} (h : (execOp a.eval o).run P w = .ok (.value v) w') (hK : K (a.put o.dst v) w') : o.wpIn (Fr ro) 0 P a w K Q := by
  refine ⟨fun _ _ => trivial, ?_⟩
  show o.uponIn _ _ _ _ _ _ ((o.semAt ro a.eval).run P w)
  rw [semAt_value h (fun d => by simp)]
  exact hK
theorem wpR_skip {ro : Option Nat} {P : Program} {o : Oper} {a : Act} {w w' : World} {K : Act → World → Prop} {Q : Exit → Act → World → Prop} (h : (execOp a.eval o).run P w = .ok .skip w') (hK : K (a.put o.dst undef) w') : o.wpIn (Fr ro) 0 P a w K Q := by
  refine ⟨fun _ _ => trivial, ?_⟩
  show o.uponIn _ _ _ _ _ _ ((o.semAt ro a.eval).run P w)
  rw [semAt_value h (fun d => by simp)]
  exact hK
theorem calls_in {ro : Option Nat} {n : Nat} {P : Program} {f : FuncId} {args : Array Value} {w : World} {R : Ending → World → Prop} (h : Calls P f args w R) : CallsIn (Fr ro) n P f args w R := (callsIn_wide (n := n)).2 h
theorem calls_out {n : Nat} {P : Program} {f : FuncId} {args : Array Value} {w : World} {R : Ending → World → Prop} (h : CallsIn (Fr none) n P f args w R) : Calls P f args w R := (callsIn_wide (n := n)).1 h
theorem wpR_enter {ro : Option Nat} {P : Program} {o : Oper} {a : Act} {w w' : World} {f : FuncId} {args : Array Value} {K : Act → World → Prop} {Q : Exit → Act → World → Prop} (h : (execOp a.eval o).run P w = .ok (.enter f args) w')
    (hc : Calls P f args w' fun e w'' => match e with | .returned v => K (a.put o.dst v) w'' | _ => False) : o.wpIn (Fr ro) 0 P a w K Q := by
  refine ⟨fun _ _ => trivial, ?_⟩
  show o.uponIn _ _ _ _ _ _ ((o.semAt ro a.eval).run P w)
  rw [semAt_value h (fun d => by simp)]
  refine ⟨fun h => (by cases h), (calls_in hc).mono fun e w'' he => ?_⟩
  cases e with
  | returned v => exact he
  | panicked ch => exact he.elim
  | outgrown => exact he.elim
def Run1 (P : Program) (o : Oper) (a : Act) (w : World) (v : Value) (w' : World) : Prop := (execOp a.eval o).run P w = .ok (.value v) w'
def Run0 (P : Program) (o : Oper) (a : Act) (w w' : World) : Prop := (execOp a.eval o).run P w = .ok .skip w'
theorem Run1.wp {ro : Option Nat} {P : Program} {o : Oper} {a : Act} {w w' : World} {v : Value} {K : Act → World → Prop} {Q : Exit → Act → World → Prop} (h : Run1 P o a w v w') (hK : K (a.put o.dst v) w') : o.wpIn (Fr ro) 0 P a w K Q := wpR_value h hK
theorem Run0.wp {ro : Option Nat} {P : Program} {o : Oper} {a : Act} {w w' : World} {K : Act → World → Prop} {Q : Exit → Act → World → Prop} (h : Run0 P o a w w') (hK : K (a.put o.dst undef) w') : o.wpIn (Fr ro) 0 P a w K Q := wpR_skip h hK
section
variable {δ : List Nat} {ro : Option Nat} {P : Program} {ops : Array Oper} {Q : Exit → Act → World → Prop} {rest : List Oper} {n : Nat} {a : Act} {l : List (Nat × Value)} {w w' : World} {d : Nat} {op : Op} {ty : TypeId} {pos : String} {aft : Array Edge} {v : Value}
theorem yielded_of (hE : EnvD δ n a l) {o : Oper} {g dg : Nat} {b : Bool} (hg : ops[g]? = some o) (ho : o.dst = some dg) (hd : Nat.blt dg n = true) (hl : lk l dg = some (.bool b)) : yielded ops a.tmps g = some b := by
  have h1 := hE.at_ dg _ hl
  have hd' : dg < n := Nat.le_of_ble_eq_true hd
  have h2 : a.tmps[dg]? = some (.bool b) := by
    have hs := hE.size
    rw [Array.getD_eq_getD_getElem?] at h1
    have : dg < a.tmps.size := by omega
    rw [Array.getElem?_eq_getElem this] at h1 ⊢
    simpa using h1
  simp [yielded, hg, ho, h2]
theorem sx {g : Nat} {b b' : Bool} {o : Oper} {dg : Nat} (hE : EnvD δ n a l) (hg : ops[g]? = some o) (ho : o.dst = some dg) (hdg : Nat.blt dg n = true) (hl : lk l dg = some (.bool b)) (hb : b = !b')
    (hd : Nat.blt d n = true) (k : ∀ a', EnvD δ n a' ((d, undef) :: l) → wpL ro P ops Q rest a' w) :
    wpL ro P ops Q (⟨some d, op, ty, pos, aft, some (g, b')⟩ :: rest) a w :=
  wpListIn_step fun K hK => by
    have : (some b == some b') = false := by subst hb; cases b' <;> rfl
    simp only [Region.wanted, yielded_of hE hg ho hdg hl, this, Bool.false_eq_true, if_false]
    exact ⟨fun _ _ => trivial, hK _ _ (k _ (hE.put hd undef))⟩

theorem wpR_scope {Q' : Exit → Act → World → Prop} {c : Code} (h : c.wpIn (Fr ro) 0 P (Exit.noGoto Q') a w) : (Code.scope c).wpIn (Fr ro) 0 P Q' a w := by
  intro b k cs hro hb hr
  have h0 : (lone (b.atR a (.code (.scope c) :: k)) cs w).fenced P (Fr ro) := fenced_calm hb hr rfl
  have hs : step P (lone (b.atR a (.code (.scope c) :: k)) cs w) = .next (lone (b.atR a (.code c :: .inScope c :: k)) cs w) := step_lone_go (by simp [stepG, stepG.exec, Frame.atR])
  have hi : ∀ a₁ w₁, step P (lone (b.atR a₁ (.inScope c :: k)) cs w₁) = .next (lone (b.atR a₁ k) cs w₁) := fun a₁ w₁ => step_lone_go (by simp [stepG, stepG.exec, Frame.atR])
  obtain ⟨e, a₁, w₁, hq, harr⟩ := h b (.inScope c :: k) cs hro hb hr
  cases e with
  | normal => exact ⟨.normal, a₁, w₁, hq, .head h0 hs (StepsIn.trans harr (.one (fenced_calm hb hr rfl) (hi a₁ w₁)))⟩
  | exit id =>
    have hx : exitTo id (.inScope c :: k) = exitTo id k := by simp [exitTo]
    exact ⟨.exit id, a₁, w₁, hq, fun k' hk => .head h0 hs (harr.1 k' (by rw [hx]; exact hk)), fun hr' hk => let ⟨k₁, h1, h2⟩ := harr.2 hr' (by rw [hx]; exact hk); ⟨k₁, h1, .head h0 hs h2⟩⟩
  | goto l => exact hq.elim
  | ret => exact ⟨_, a₁, w₁, hq, .of_steps (.one h0 hs) harr⟩
  | panic ch => exact ⟨_, a₁, w₁, hq, .of_steps (.one h0 hs) harr⟩
  | outgrown => exact ⟨_, a₁, w₁, hq, .of_steps (.one h0 hs) harr⟩
def mkQ (N : Act → World → Prop) (X : List (Nat × (Act → World → Prop))) (Rt : Act → World → Prop) : Exit → Act → World → Prop
  | .normal, a, w => N a w
  | .exit id, a, w => match X.find? (fun e => Nat.beq e.1 id) with | some e => e.2 a w | none => False
  | .ret, a, w => Rt a w
  | _, _, _ => False
def K (ro : Option Nat) (P : Program) (c : Code) (N : Act → World → Prop) (X : List (Nat × (Act → World → Prop))) (Rt : Act → World → Prop) (a : Act) (w : World) : Prop := c.wpIn (Fr ro) 0 P (mkQ N X Rt) a w
variable {δ : List Nat} {ro : Option Nat} {N N' Rt : Act → World → Prop} {X : List (Nat × (Act → World → Prop))} {c x y z : Code} {id : Nat}
theorem K.mono (h : K ro P c N X Rt a w) (hN : ∀ a w, N a w → N' a w) : K ro P c N' X Rt a w :=
  wpIn_mono h fun e a w q => by cases e <;> first | exact hN _ _ q | exact q
theorem kseq (h : K ro P x (fun a w => K ro P y N X Rt a w) X Rt a w) : K ro P (.seq x y) N X Rt a w :=
  wpIn_seq (wpIn_mono h fun e a w q => by cases e <;> exact q)
theorem kskip (h : N a w) : K ro P .skip N X Rt a w := wpIn_skip h
theorem klabel {i : Nat} (h : N a w) : K ro P (.label i) N X Rt a w := wpIn_label h
theorem kret (h : Rt a w) : K ro P .ret N X Rt a w := wpIn_ret h
theorem kexit {k : Act → World → Prop} {e : Nat × (Act → World → Prop)} (hx : X.find? (fun e => Nat.beq e.1 id) = some e) (hk : e.2 = k) (h : k a w) : K ro P (.exit id) N X Rt a w :=
  wpIn_exit (by simp only [mkQ, hx]; rw [hk]; exact h)
theorem kblock (h : K ro P c N ((id, N) :: X) Rt a w) : K ro P (.block id c) N X Rt a w :=
  wpIn_block (wpIn_mono h fun e a w q => by
    cases e with
    | exit j =>
      simp only [Exit.inBlock]
      split
      · rename_i e; subst e; simpa [mkQ] using q
      · rename_i e
        have : Nat.beq id j = false := by
          cases hb : Nat.beq id j with
          | false => rfl
          | true => exact absurd (Nat.eq_of_beq_eq_true hb).symm e
        simpa [mkQ, this] using q
    | _ => exact q)
theorem kcut (J : Act → World → Prop) (h : K ro P c J X Rt a w) (k : ∀ a w, J a w → N a w) : K ro P c N X Rt a w := h.mono k
theorem kif (hE : EnvD δ n a l) {cnd : Operand} {b : Bool} (hc : evl l cnd = some (.bool b)) (ht : b = true → K ro P x N X Rt a w) (hf : b = false → K ro P y N X Rt a w) : K ro P (.cond cnd x y) N X Rt a w :=
  wpIn_cond_split (hE.eval hc) ht hf
theorem kscope (h : K ro P c N X Rt a w) : K ro P (.scope c) N X Rt a w :=
  wpR_scope (wpIn_mono h fun e a w q => by cases e <;> exact q)
theorem kreg {lo : List Oper} (h : wpL ro P lo.toArray (mkQ N X Rt) lo a w) : K ro P (.region id lo.toArray false) N X Rt a w := wpIn_region_lit h
theorem knil (h : N a w) : wpL ro P ops (mkQ N X Rt) [] a w := wpListIn_nil h
end

def iterN {σ β : Type} (f : σ → Option (σ ⊕ β)) : Nat → σ → Option β
  | 0, _ => none
  | n + 1, s => match f s with
    | none => none
    | some (.inl s') => iterN f n s'
    | some (.inr b) => some b
open Classical in
noncomputable def loopO {σ β : Type} (f : σ → Option (σ ⊕ β)) (s : σ) : Option β :=
  if h : ∃ b, ∃ n, iterN f n s = some b then some h.choose else none
theorem iterN_succ {σ β : Type} {f : σ → Option (σ ⊕ β)} : ∀ {n : Nat} {s : σ} {b : β}, iterN f n s = some b → iterN f (n + 1) s = some b
  | 0, _, _, h => by cases h
  | n + 1, s, b, h => by
    unfold iterN at h ⊢
    cases hs : f s with
    | none => simp [hs] at h
    | some r =>
      cases r with
      | inl s' => simp only [hs] at h ⊢; exact iterN_succ h
      | inr b' => simpa [hs] using h
theorem iterN_le {σ β : Type} {f : σ → Option (σ ⊕ β)} {n k : Nat} {s : σ} {b : β} (h : iterN f n s = some b) (hk : n ≤ k) : iterN f k s = some b := by
  induction hk with
  | refl => exact h
  | step _ ih => exact iterN_succ ih
theorem iterN_one {σ β : Type} {f : σ → Option (σ ⊕ β)} {n k : Nat} {s : σ} {b c : β} (h : iterN f n s = some b) (h' : iterN f k s = some c) : b = c := by
  have h1 := iterN_le h (Nat.le_max_left n k)
  have h2 := iterN_le h' (Nat.le_max_right n k)
  rw [h1] at h2
  injection h2
theorem loopO_iff {σ β : Type} {f : σ → Option (σ ⊕ β)} {s : σ} {b : β} : loopO f s = some b ↔ ∃ n, iterN f n s = some b := by
  unfold loopO
  constructor
  · intro h
    split at h
    · rename_i hx
      injection h with h
      have := hx.choose_spec
      rw [h] at this
      exact this
    · cases h
  · intro ⟨n, hn⟩
    have hx : ∃ b, ∃ n, iterN f n s = some b := ⟨b, n, hn⟩
    rw [dif_pos hx]
    obtain ⟨k, hk⟩ := hx.choose_spec
    rw [iterN_one hk hn]
theorem loopO_eq {σ β : Type} (f : σ → Option (σ ⊕ β)) (s : σ) : loopO f s = match f s with | none => none | some (.inl s') => loopO f s' | some (.inr b) => some b := by
  apply Option.ext
  intro b
  rw [loopO_iff]
  constructor
  · rintro ⟨n, hn⟩
    cases n with
    | zero => cases hn
    | succ n =>
      unfold iterN at hn
      cases hs : f s with
      | none => simp [hs] at hn
      | some r =>
        cases r with
        | inl s' => simp only [hs] at hn ⊢; exact loopO_iff.2 ⟨n, hn⟩
        | inr b' => simpa [hs] using hn
  · intro h
    split at h
    · cases h
    · rename_i s' hs
      obtain ⟨n, hn⟩ := loopO_iff.1 h
      exact ⟨n + 1, by simp [iterN, hs, hn]⟩
    · rename_i b' hs
      exact ⟨1, by simpa [iterN, hs] using h⟩
theorem loopO_go {σ β : Type} {f : σ → Option (σ ⊕ β)} {s s' : σ} (h : f s = some (.inl s')) : loopO f s = loopO f s' := by rw [loopO_eq, h]
theorem loopO_end {σ β : Type} {f : σ → Option (σ ⊕ β)} {s : σ} {b : β} (h : f s = some (.inr b)) : loopO f s = some b := by rw [loopO_eq, h]

section
variable {δ : List Nat} {ro : Option Nat} {P : Program} {n : Nat} {a : Act} {l : List (Nat × Value)} {w : World} {N Rt : Act → World → Prop} {X : List (Nat × (Act → World → Prop))} {c : Code}
theorem kloop {σ β : Type} {f : σ → Option (σ ⊕ β)} {s : σ} {o : β} (hl : loopO f s = some o) (I : σ → Act → World → Prop) (h0 : I s a w)
    (round : ∀ s a w, I s a w → ∀ r, f s = some r → (∀ o', r = .inr o' → o' = o) → K ro P c (fun a' w' => ∃ s', r = .inl s' ∧ I s' a' w') X Rt a w) : K ro P (.loop c) N X Rt a w := by
  obtain ⟨k, hk⟩ := loopO_iff.1 hl
  clear hl
  intro b kk cs hro hb hrm
  have key : ∀ k s a w, iterN f k s = some o → I s a w →
      ∃ e a' w', mkQ N X Rt e a' w' ∧ ArrivesIn (Machine.fenced P (Fr ro)) P (lone (b.atR a (.code c :: .inLoop c :: kk)) cs w) b kk cs e a' w' := by
    intro k
    induction k with
    | zero => intro s a w hk _; cases hk
    | succ k ih =>
      intro s a w hk hI
      rw [iterN] at hk
      cases hf : f s with
      | none => simp [hf] at hk
      | some r =>
        have hr := round s a w hI r hf (fun o' ho => by subst ho; simpa [hf] using hk) b (.inLoop c :: kk) cs hro hb hrm
        obtain ⟨e, a₁, w₁, hq, harr⟩ := hr
        cases e with
        | normal =>
          obtain ⟨s', hs', hI'⟩ := hq
          subst hs'
          simp only [hf] at hk
          obtain ⟨e₂, a₂, w₂, hq₂, harr₂⟩ := ih s' a₁ w₁ hk hI'
          exact ⟨e₂, a₂, w₂, hq₂, .of_steps (StepsIn.trans harr (.one (fenced_calm hb hrm rfl) stepR_inLoop)) harr₂⟩
        | exit id => exact ⟨.exit id, a₁, w₁, hq, .pass (x := .inLoop c) rfl (fun _ _ => .inl (by simp)) harr⟩
        | goto l => exact hq.elim
        | ret => exact ⟨.ret, a₁, w₁, hq, .pass (x := .inLoop c) rfl (fun _ _ => .inl (by simp)) harr⟩
        | panic ch => exact hq.elim
        | outgrown => exact hq.elim
  obtain ⟨e, a', w', hq, harr⟩ := key k s a w hk h0
  exact ⟨e, a', w', hq, .of_steps (.one (fenced_calm hb hrm rfl) stepR_loop) harr⟩

def Ret (R : Value → World → Prop) : Ending → World → Prop
  | .returned v, w => R v w
  | _, _ => False
def tup : List Value → Value
  | [v] => v
  | vs => .tuple vs.toArray
def Fin (P : Program) (fn : Func) (R : Value → World → Prop) (a : Act) (w : World) : Prop := ∃ vs, (results fn a.tmps).run P w = .ok vs w ∧ a.defers = [] ∧ R vs w
theorem env_args {fn : Func} {args : List Value} {n : Nat} (hn : fn.ntmps = n) (hle : args.length ≤ n) : Env n { tmps := args.toArray ++ Array.replicate (fn.ntmps - args.toArray.size) undef, defers := [] } ((List.range args.length).zip args) := by
  refine ⟨rfl, by simp [hn]; omega, fun j v hj => ?_⟩
  have key : ∀ (l : List Value) (k : Nat), lk ((List.range' k l.length).zip l) j = some v → k ≤ j ∧ l[j - k]? = some v := by
    intro l
    induction l with
    | nil => intro k h; simp [lk] at h
    | cons x r ih =>
      intro k h
      simp only [List.length_cons, List.range'_succ, List.zip_cons_cons, lk] at h
      split at h
      · rename_i e
        have e' := Nat.eq_of_beq_eq_true e
        subst e'
        simpa using h
      · obtain ⟨h1, h2⟩ := ih (k + 1) h
        refine ⟨by omega, ?_⟩
        rw [show j - k = (j - (k + 1)) + 1 by omega]
        simpa using h2
  rw [List.range_eq_range'] at hj
  obtain ⟨_, h2⟩ := key args 0 hj
  simp only [Nat.sub_zero] at h2
  have hlt : j < args.length := (List.getElem?_eq_some_iff.1 h2).1
  have h3 : args[j] = v := by simpa [hlt] using h2
  simp [Array.getD_eq_getD_getElem?, Array.getElem?_append, hlt, h3]
theorem kcall {P : Program} {f : FuncId} {fn : Func} {c : Code} {args : List Value} {n : Nat} {w : World} {R : Value → World → Prop} (hf : P.funcs[f]? = some fn) (hb : fn.body = some c) (hn : fn.ntmps = n) (hle : args.length ≤ n)
    (h : ∀ a, Env n a ((List.range args.length).zip args) → K none P c (Fin P fn R) [] (Fin P fn R) a w) :
    Calls P f args.toArray w (Ret R) := by
  refine calls_of_wp hf hb (wpIn_wide.1 (wpIn_mono (h _ (env_args hn hle)) fun e a w q => ?_))
  · cases e with
    | normal => obtain ⟨vs, h1, h2, h3⟩ := q; exact ⟨h2, vs, h1, h3⟩
    | ret => obtain ⟨vs, h1, h2, h3⟩ := q; exact ⟨h2, vs, h1, h3⟩
    | exit id => simp [mkQ] at q
    | goto l => exact q.elim
    | panic ch => exact q.elim
    | outgrown => exact q.elim
end
section
variable {δ : List Nat} {ro : Option Nat} {P : Program} {n : Nat} {a : Act} {l : List (Nat × Value)} {w : World} {dst : Option Tmp} {ty : TypeId} {pos : String} {aft : Array Edge} {g : Option (Nat × Bool)}
def argl (l : List (Nat × Value)) (xs : Array Operand) : Option (List Value) := xs.toList.mapM (evl l)
theorem argl_eval (hE : EnvD δ n a l) {xs : Array Operand} {vs : List Value} (h : argl l xs = some vs) : xs.map a.eval = vs.toArray := by
  obtain ⟨xs⟩ := xs
  unfold argl at h
  simp only at h
  have : ∀ (xs : List Operand) (vs : List Value), xs.mapM (evl l) = some vs → xs.map a.eval = vs := by
    intro xs
    induction xs with
    | nil => intro vs h; simp at h; simp [h]
    | cons x r ih =>
      intro vs h
      simp only [List.mapM_cons, Option.bind_eq_bind, Option.pure_def] at h
      cases hx : evl l x with
      | none => simp [hx] at h
      | some v =>
        cases hr : r.mapM (evl l) with
        | none => simp [hx, hr] at h
        | some us =>
          simp [hx, hr] at h
          subst h
          simp [hE.eval hx, ih us hr]
  simp [this xs vs h]
end
end Go.Proofs.Ytifobhaccglckaa.Hay
