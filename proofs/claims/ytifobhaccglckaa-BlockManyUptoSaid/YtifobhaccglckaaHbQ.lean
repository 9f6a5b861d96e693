import Derived.Test.YtifobhaccglckaaHbM
namespace Go.Proofs.Ytifobhaccglckaa.Hay
open Go.RowKit

def Bse.put (W0 : Bse) (b : Nat) (o : Obj) : Bse := { W0 with keep := fun k => if k = b then some o else W0.keep k }
section
variable {W0 : Bse} {m : M} {w : World} {L : List (Nat × List Value)} {TL : List (Nat × Value)}
theorem put_size (w : World) (b : Nat) (o : Obj) : (w.putObj b o).heap.size = w.heap.size := by simp [World.putObj]
theorem tail_put {B sz b : Nat} {v : Value} {o o' : Obj} (hb : w.heap[b]? = some o) (ho : o.isCells = false) (h : Tail B m w sz v) : Tail B m (w.putObj b o') sz v := by
  cases v <;> try exact h
  rename_i a len cap
  cases a with
  | none => trivial
  | some ad =>
    obtain ⟨hlt, h⟩ := h
    refine ⟨by rw [put_size]; exact hlt, ?_⟩
    rcases h with h | ⟨h0, h1, l, c, t, h2, h3, h4, h5⟩
    · exact .inl h
    · refine .inr ⟨h0, h1, l, c, t, h2, h3, ?_, h5⟩
      rw [World.putObj_heap_other]
      · exact h4
      · intro e; rw [e, hb] at h4; injection h4 with h4; subst h4; cases ho
theorem S.putK (h : S W0 m w L TL) {b : Nat} {o o' : Obj} (hb : w.heap[b]? = some o) (ho : o.isCells = false) (ho' : o'.isCells = false) (hB : W0.heap.size ≤ b) : S (W0.put b o') m (w.putObj b o') L TL := by
  have hlt := (Array.getElem?_eq_some_iff.1 hb).1
  have hne : ∀ {k : Nat} {c : Array Value} {t : TypeId} {fr : Nat × Nat}, w.heap[k]? = some (.cells c t fr) → (w.putObj b o').heap[k]? = some (.cells c t fr) := fun {k c t fr} hk => by
    rw [World.putObj_heap_other]
    · exact hk
    · intro e; subst e; rw [hb] at hk; injection hk with hk; subst hk; cases ho
  refine ⟨⟨⟨⟨h.below.os, h.below.tape, h.below.output, by rw [put_size]; exact h.below.size, fun k hk => ?_⟩, h.below.drawn⟩, fun k x hx => ?_⟩, fun c l hc => ?_, fun i e he hv => ?_, h.nodup, fun i e he => tail_put hb ho (h.tails i e he), h.apart⟩
  · have hk' : k < W0.heap.size := hk
    rw [World.putObj_heap_other (by omega)]; exact h.below.block k hk
  · unfold Bse.put at hx
    simp only at hx
    split at hx
    · rename_i e; subst e; injection hx with hx; subst hx
      exact ⟨World.putObj_heap_same hlt, ho'⟩
    · rename_i e
      obtain ⟨h1, h2⟩ := h.below.kept k x hx
      exact ⟨by rw [World.putObj_heap_other e]; exact h1, h2⟩
  · obtain ⟨c', t, fr, r, h1, h2⟩ := h.imm c l hc
    exact ⟨c', t, fr, r, hne h1, h2⟩
  · obtain ⟨h1, h2, t, h3⟩ := h.own i e he hv
    exact ⟨h1, h2, t, hne h3⟩
theorem S.newK (h : S W0 m w L TL) {o : Obj} (ho : o.isCells = false) : S (W0.put w.heap.size o) m (w.alloc o) L TL := by
  have hB : W0.heap.size ≤ w.heap.size := h.below.size
  refine ⟨⟨(h.below.alloc hB o).toBel, fun k x hx => ?_⟩, fun c l hc => ?_, fun i e he hv => ?_, h.nodup, fun i e he => tail_heap (alloc_old w _) (h.tails i e he), h.apart⟩
  · unfold Bse.put at hx
    simp only at hx
    split at hx
    · rename_i e; subst e; injection hx with hx; subst hx
      exact ⟨alloc_new w _, ho⟩
    · obtain ⟨h1, h2⟩ := h.below.kept k x hx
      exact ⟨by rw [alloc_old w o k (Array.getElem?_eq_some_iff.1 h1).1]; exact h1, h2⟩
  · rw [alloc_old w _ c (h.lt hc)]; exact h.imm c l hc
  · obtain ⟨h1, h2, t, h3⟩ := h.own i e he hv
    exact ⟨h1, h2, t, by rw [alloc_old w _ _ (Array.getElem?_eq_some_iff.1 h3).1]; exact h3⟩
theorem S.keepNone (h : S W0 m w L TL) {k : Nat} (hk : w.heap.size ≤ k) : W0.keep k = none := by
  cases hx : W0.keep k with
  | none => rfl
  | some x => have := (Array.getElem?_eq_some_iff.1 (h.below.kept k x hx).1).1; omega
theorem S.unK {b : Nat} {o : Obj} (h : S (W0.put b o) m w L TL) (hn : W0.keep b = none) : S W0 m w L TL :=
  ⟨⟨h.below.toBel, fun k x hx => h.below.kept k x (by
    unfold Bse.put; simp only
    rw [if_neg (fun e => by subst e; rw [hn] at hx; cases hx)]; exact hx)⟩, h.imm, h.own, h.nodup, h.tails, h.apart⟩
theorem Bse.put_put (W0 : Bse) (b : Nat) (o o' : Obj) : (W0.put b o).put b o' = W0.put b o' := by
  unfold Bse.put
  simp only [Bse.mk.injEq, true_and]
  funext k
  by_cases e : k = b <;> simp [e]
theorem Bse.put_same (W0 : Bse) (b : Nat) (o : Obj) : (W0.put b o).keep b = some o := by simp [Bse.put]
theorem Bse.put_other (W0 : Bse) {b k : Nat} (o : Obj) (h : k ≠ b) : (W0.put b o).keep k = W0.keep k := by simp [Bse.put, h]
end
def foldY {σ α : Type} (step : σ → α → Option (σ × Bool)) : σ → List α → Option (σ × Bool)
  | s, [] => some (s, true)
  | s, x :: xs => (step s x).bind fun r => if r.2 then foldY step r.1 xs else some (r.1, false)
abbrev Mem := List (Nat × List Value)
abbrev Tls := List (Nat × Value)
def YieldC {σ α : Type} (P : Program) (Rv : M → List Value → α → Prop) (B : σ → Bse) (y : Value) (I : M → σ → Mem → Tls → Prop) (step : σ → α → Option (σ × Bool)) : Prop :=
  ∀ (m : M) (w : World) (L : Mem) (TL : Tls) (s : σ) (Ls : Mem) (TLs : Tls) (vs : List Value) (x : α) (s' : σ) (b : Bool), I m s Ls TLs → S (B s) m w (Ls ++ L) (TLs ++ TL) → Rv m vs x → step s x = some (s', b) →
    CallV P y vs w (fun r w' => r = .bool b ∧ ∃ m' Ls' TLs', M.le m m' ∧ I m' s' Ls' TLs' ∧ S (B s') m' w' (Ls' ++ L) (TLs' ++ TL))
def IterC {α : Type} (P : Program) (Rv : M → List Value → α → Prop) (gf : FuncId) (lb : Array Value) (mi : M) (xs : List α) : Prop :=
  ∀ (σ : Type) (I : M → σ → Mem → Tls → Prop) (step : σ → α → Option (σ × Bool)) (B : σ → Bse) (y : Value) (m : M) (w : World) (L : Mem) (TL : Tls) (s : σ) (Ls : Mem) (TLs : Tls) (r : σ × Bool),
    (∀ m m' s a b, M.le m m' → I m s a b → I m' s a b) → M.le mi m → YieldC P Rv B y I step → I m s Ls TLs → S (B s) m w (Ls ++ L) (TLs ++ TL) → foldY step s xs = some r →
    Calls P gf (#[y] ++ lb) w (Ret fun _ w' => ∃ m' Ls' TLs', M.le m m' ∧ I m' r.1 Ls' TLs' ∧ S (B r.1) m' w' (Ls' ++ L) (TLs' ++ TL))
theorem env_round {δ : List Nat} {n : Nat} {a : Act} {l : List (Nat × Value)} (hE : EnvD δ n a l) : ∀ (ps : List Tmp) (vs : List Value) (t : Array Value) (l : List (Nat × Value)), ps.length = vs.length → (∀ p ∈ ps, p < n) → EnvD [] n { tmps := t, defers := [] } l →
    EnvD [] n { tmps := (ps.zip vs).foldl (fun t (p, v) => t.setIfInBounds p v) t, defers := [] } ((ps.zip vs).reverse ++ l)
  | [], [], t, l, _, _, h => h
  | [], _ :: _, _, _, h, _, _ => by simp at h
  | _ :: _, [], _, _, h, _, _ => by simp at h
  | p :: ps, v :: vs, t, l, hl, hp, h => by
    have h1 : EnvD [] n { tmps := t.setIfInBounds p v, defers := [] } ((p, v) :: l) := by
      have := h.put (d := p) (Nat.ble_eq_true_of_le (hp p (by simp))) v
      exact this
    have := env_round hE ps vs (t.setIfInBounds p v) ((p, v) :: l) (by simpa using hl) (fun q hq => hp q (by simp [hq])) h1
    simpa using this
section
variable {δ : List Nat} {P : Program} {W0 : Bse} {m : M} {L : Mem} {TL : Tls} {n : Nat} {a : Act} {l : List (Nat × Value)} {w : World} {N Rt : Act → World → Prop} {X : List (Nat × (Act → World → Prop))}
abbrev RPost {σ : Type} (W2 : Bse) (I : M → σ → Mem → Tls → Prop) (L' : Mem) (TL' : Tls) (m : M) (s' : σ) (w' : World) : Prop := ∃ m' Ls' TLs', M.le m m' ∧ I m' s' Ls' TLs' ∧ S W2 m' w' (Ls' ++ L') (TLs' ++ TL')
theorem krange {σ α : Type} {Rv : M → List Value → α → Prop} {g : Operand} {ps : Array Tmp} {assign body : Code} {gf : FuncId} {lb : Array Value} {mi : M} {xs : List α} (step : σ → α → Option (σ × Bool)) (jc : σ → Code) (ids : List Nat)
    (I : M → σ → Mem → Tls → Prop) {s0 : σ} {Ls : Mem} {TLs : Tls} {sf : σ} {bf : Bool}
    (hE : EnvD δ n a l) (hS : S W0 m w (Ls ++ L) (TLs ++ TL)) (hg : evl l g = some (.func (.func gf) #[] lb)) (hcall : ∀ vs w, (callFunc gf vs).run P w = .ok (.enter gf vs) w) (hit : IterC P Rv gf lb mi xs) (hmi : M.le mi m)
    (hps : ∀ p ∈ ps.toList, p < n) (hRv : ∀ m vs x, Rv m vs x → vs.length = ps.size)
    (mono : ∀ m m' s a b, M.le m m' → I m s a b → I m' s a b) (h0 : I m s0 Ls TLs) (hfold : foldY step s0 xs = some (sf, bf))
    (round : ∀ (lid : Nat) (W1 W2 : Bse) (m : M) (w : World) (L' : Mem) (TL' : Tls) (s : σ) (Ls : Mem) (TLs : Tls) (vs : List Value) (x : α) (s' : σ) (b : Bool) (a0 : Act) (orr ob : Obj), I m s Ls TLs → S W1 m w (Ls ++ L') (TLs ++ TL') → Rv m vs x → step s x = some (s', b) →
      EnvD [] n a0 ((ps.toList.zip vs).reverse ++ l) → (∀ m w L TL, S W1 m w L TL → w.heap[lid]? = some orr ∧ S W2 m (w.putObj lid ob) L TL) →
      K (some lid) P assign (fun a1 w1 => w1.heap[lid]? = some orr ∧ K (some lid) P body (fun _ w' => b = true ∧ RPost W2 I L' TL' m s' w') (ids.map fun id => (id, fun _ w' => b = false ∧ jc s' = .exit id ∧ RPost W2 I L' TL' m s' w')) (fun _ w' => b = false ∧ jc s' = .ret ∧ RPost W2 I L' TL' m s' w') a1 (w1.putObj lid ob)) [] (fun _ _ => False) a0 w)
    (done : ∀ (D : Nat) (m' : M) (w' : World) (a' : Act) (Ls' : Mem) (TLs' : Tls), M.le m m' → EnvD (D :: δ) n a' l → I m' sf Ls' TLs' → S (W0.put D (.deferred (some []))) m' w' (Ls' ++ L) (TLs' ++ TL) → W0.keep D = none → W0.heap.size ≤ D →
      if bf = true then N a' w' else K none P (jc sf) N X Rt a' w') :
    K none P (.rangeFunc g ps assign body) N X Rt a w := by
  refine wpIn_rangeFunc ?_
  intro fn _
  obtain ⟨D, hD⟩ : ∃ D, D = w.heap.size := ⟨_, rfl⟩
  obtain ⟨lid, hlid⟩ : ∃ lid, lid = w.heap.size + 1 := ⟨_, rfl⟩
  obtain ⟨rec, hrec⟩ : ∃ rec : LoopState → Option Code → Loop, rec = fun st pe => { state := st, pending := pe, fn, tmps := a.tmps, params := ps, assign, body, defers := D } := ⟨_, rfl⟩
  -- the bases: the mark's block, the loop's record
  obtain ⟨WD, hWD⟩ : ∃ WD : Bse, WD = W0.put D (.deferred (some [])) := ⟨_, rfl⟩
  have hkD : W0.keep D = none := hS.keepNone (by omega)
  have hS1 : S WD m (w.alloc (.deferred (some []))) (Ls ++ L) (TLs ++ TL) := by rw [hWD, hD]; exact hS.newK rfl
  have hkl : WD.keep lid = none := hS1.keepNone (by simp [World.size_alloc]; omega)
  have hS2 : S (WD.put lid (.loop (rec .ready none))) m ((w.alloc (.deferred (some []))).alloc (.loop (rec .ready none))) (Ls ++ L) (TLs ++ TL) := by
    have := hS1.newK (o := .loop (rec .ready none)) rfl
    rwa [show (w.alloc (.deferred (some []))).heap.size = lid by simp [World.size_alloc]; omega] at this
  have hBl : W0.heap.size ≤ lid := by have : W0.heap.size ≤ w.heap.size := hS.below.size; omega
  have hBW : ∀ o, (WD.put lid o).heap.size ≤ lid := fun o => by rw [hWD]; exact hBl
  obtain ⟨wl, hwl⟩ : ∃ wl, wl = (w.alloc (.deferred (some []))).alloc (.loop (rec .ready none)) := ⟨_, rfl⟩
  rw [← hwl] at hS2
  -- the iterator's call
  let B : σ × Option Code → Bse := fun s => WD.put lid (.loop (rec (if s.2.isNone then .ready else .done) s.2))
  let step' : σ × Option Code → α → Option ((σ × Option Code) × Bool) := fun s x => if s.2.isNone then (step s.1 x).map fun r => ((r.1, if r.2 then none else some (jc r.1)), r.2) else none
  have hf' : ∀ (xs : List α) (s : σ) r, foldY step s xs = some r → foldY step' (s, none) xs = some ((r.1, if r.2 then none else some (jc r.1)), r.2) := by
    intro xs
    induction xs with
    | nil => intro s r h; simp only [foldY] at h ⊢; injection h with h; subst h; simp
    | cons x xs ih =>
      intro s r h
      simp only [foldY] at h ⊢
      simp only [step', Option.isNone_none, if_true]
      cases hx : step s x with
      | none => rw [hx] at h; simp at h
      | some q =>
        rw [hx] at h
        obtain ⟨s', b⟩ := q
        simp only [Option.bind_some, Option.map_some] at h ⊢
        cases b with
        | true => simp only [if_true] at h ⊢; exact ih s' r h
        | false => simp only [Bool.false_eq_true, if_false] at h ⊢; injection h with h; subst h; simp
  have hyield : YieldC P Rv B (.func (.yield lid) #[] #[]) (fun m s => I m s.1) step' := by
    intro m1 w1 L1 TL1 s Ls1 TLs1 vs x s' b hI1 hS3 hx hst
    obtain ⟨s, p⟩ := s
    simp only [step'] at hst
    cases p with
    | some c => simp at hst
    | none =>
    simp only [Option.isNone_none, if_true] at hst
    cases hstep : step s x with
    | none => rw [hstep] at hst; simp at hst
    | some q =>
    rw [hstep] at hst
    obtain ⟨s1, b1⟩ := q
    simp only [Option.map_some, Option.some.injEq, Prod.mk.injEq] at hst
    obtain ⟨rfl, rfl⟩ := hst
    intro dst ty pos aft gd xo xso tys ac hxo hxs ro Kk Q hk
    have hl : w1.heap[lid]? = some (.loop (rec .ready none)) := (hS3.below.kept lid _ (Bse.put_same _ _ _)).1
    have hy := run_yield (P := P) (args := vs.toArray) hl (by rw [hrec]; simpa using hRv _ _ _ hx)
    have hrun : (execOp ac.eval ⟨dst, .call ⟨.value xo, xso, tys⟩, ty, pos, aft, gd⟩).run P w1 = .ok (.round lid fn ((ps.zip vs.toArray).foldl (fun tmps (t, a) => tmps.setIfInBounds t a) a.tmps) assign body) w1 := by
      have h2 : (execOp ac.eval ⟨dst, .call ⟨.value xo, xso, tys⟩, ty, pos, aft, gd⟩).run P w1 = (Instr.yield lid vs.toArray).run P w1 := by
        simp [execOp, resolve, hxo, Deferred.ofValue, invoke, hxs]
      rw [h2, hy, hrec]
    refine ⟨fun _ _ => trivial, ?_⟩
    show Oper.uponIn _ _ _ _ _ _ _ ((Oper.semAt ro ac.eval _).run P w1)
    rw [semAt_value hrun (fun d => by simp)]
    refine ⟨fun h => (by cases h), roundIn_of_wpIn trivial ?_⟩
    have htmps : (ps.zip vs.toArray).foldl (fun tmps (t, a) => tmps.setIfInBounds t a) a.tmps = (ps.toList.zip vs).foldl (fun t (p, v) => t.setIfInBounds p v) a.tmps := by
      rw [← Array.foldl_toList, Array.toList_zip]
    rw [htmps]
    have hE0 : EnvD [] n { tmps := a.tmps, defers := [] } l := ⟨rfl, hE.size, hE.at_⟩
    have hEr := env_round hE ps.toList vs a.tmps l (by have := hRv _ _ _ hx; simpa using this.symm) hps hE0
    obtain ⟨bz, hbz⟩ : ∃ bz : Loop, bz = { rec .ready none with state := .busy } := ⟨_, rfl⟩
    have hturn : ∀ m w L TL, S (B (s, none)) m w L TL → w.heap[lid]? = some (.loop (rec .ready none)) ∧ S (WD.put lid (.loop bz)) m (w.putObj lid (.loop bz)) L TL := fun m w L TL h => by
      have := h.putK (o' := .loop bz) (h.below.kept lid _ (Bse.put_same _ _ _)).1 rfl rfl (hBW _)
      rw [Bse.put_put] at this
      exact ⟨(h.below.kept lid _ (Bse.put_same _ _ _)).1, this⟩
    have hr := round lid (B (s, none)) (WD.put lid (.loop bz)) m1 w1 L1 TL1 s Ls1 TLs1 vs x s1 b1 _ (.loop (rec .ready none)) (.loop bz) hI1 hS3 hx hstep hEr hturn
    have hready : rec .ready none = { rec .ready none with state := .ready } := by rw [hrec]
    -- a round's end
    have fin : ∀ (jump : Option Code) (w3 : World), jump.isNone = b1 → (b1 = false → jump = some (jc s1)) → RPost (WD.put lid (.loop bz)) I L1 TL1 m1 s1 w3 → ∃ v w4, (Instr.endRound lid jump).run P w3 = .ok v w4 ∧ Kk (ac.put dst v) w4 := by
      rintro jump w3 hj hj2 ⟨m', Ls', TLs', h1, h2, h3⟩
      have hb3 := (h3.below.kept lid _ (Bse.put_same _ _ _)).1
      refine ⟨_, _, run_endRound jump hb3, hk _ _ ⟨by rw [hj], m', Ls', TLs', h1, h2, ?_⟩⟩
      have h4 := h3.putK (o' := .loop { bz with state := if jump.isNone then .ready else .done, pending := jump }) hb3 rfl rfl (hBW _)
      rw [Bse.put_put] at h4
      have e : (.loop { bz with state := if jump.isNone then .ready else .done, pending := jump } : Obj) = .loop (rec (if (if b1 then (none : Option Code) else some (jc s1)).isNone then .ready else .done) (if b1 then none else some (jc s1))) := by
        rw [hbz, hrec]
        cases b1 with
        | true =>
          have : jump = none := by simpa using hj
          subst this; rfl
        | false =>
          have := hj2 rfl
          subst this; rfl
      revert h4
      rw [e]
      exact fun h4 => h4
    refine wpIn_mono hr fun e a1 w1' q => ?_
    cases e with
    | normal =>
      obtain ⟨hl1, hb1⟩ := q
      refine ⟨_, run_beginRound hl1 (by rw [hrec]), ?_⟩
      rw [← hbz]
      refine wpIn_mono hb1 fun e a2 w2 q2 => ?_
      cases e with
      | normal =>
        obtain ⟨hb, hp⟩ := q2
        exact fin none w2 (by rw [hb]; rfl) (fun h => by rw [hb] at h; cases h) hp
      | ret =>
        obtain ⟨hb, hj, hp⟩ := q2
        exact fin (some .ret) w2 (by rw [hb]; rfl) (fun _ => by rw [hj]) hp
      | exit id =>
        have key : b1 = false ∧ jc s1 = .exit id ∧ RPost (WD.put lid (.loop bz)) I L1 TL1 m1 s1 w2 := by
          simp only [mkQ] at q2
          split at q2
          · rename_i e he
            have h1 := List.find?_some he
            obtain ⟨id', _, rfl⟩ := List.mem_map.1 (List.mem_of_find?_eq_some he)
            have := Nat.eq_of_beq_eq_true h1
            subst this
            exact q2
          · exact q2.elim
        obtain ⟨hb, hj, hp⟩ := key
        exact fin (some (.exit id)) w2 (by rw [hb]; rfl) (fun _ => by rw [hj]) hp
      | goto t => exact q2.elim
      | panic ch => exact q2.elim
      | outgrown => exact q2.elim
    | ret => exact q.elim
    | exit id => simp [mkQ] at q
    | goto t => exact q.elim
    | panic ch => exact q.elim
    | outgrown => exact q.elim
  have hc := hit (σ × Option Code) (fun m s => I m s.1) step' B (.func (.yield lid) #[] #[]) m wl L TL (s0, none) Ls TLs _ (fun m m' s a b hm h => mono m m' s.1 a b hm h) hmi hyield h0 hS2 (hf' xs s0 _ hfold)
  refine ⟨lid, [{ target := .collected D, args := #[] }], wl, { target := .fn (.func gf) lb, args := #[.func (.yield lid) #[] #[]] }, wl, gf, #[.func (.yield lid) #[] #[]] ++ lb, wl, ?_, ?_, fun _ _ => trivial, ?_, fun h => (by cases h), ?_⟩
  · show (Instr.enterLoop fn a.tmps ps assign body none).run P w = _
    rw [run_enterLoop_outer, hwl, hlid, hD, hrec, hD]
  · simp only [resolve, hE.eval hg]
    simp [go_sem]
  · simp [invoke, go_sem, hcall]
  · refine calls_in (hc.mono fun e w' he => ?_)
    cases e with
    | panicked ch => exact he.elim
    | outgrown => exact he.elim
    | returned v =>
      obtain ⟨m', Ls', TLs', h1, h2, h3⟩ := he
      have hb3 := (h3.below.kept lid _ (Bse.put_same _ _ _)).1
      have hst : (rec (if (if bf then (none : Option Code) else some (jc sf)).isNone then LoopState.ready else .done) (if bf then none else some (jc sf))).state ≠ .busy := by
        rw [hrec]; cases bf <;> simp
      have hend := run_endLoop (P := P) hb3 hst
      refine ⟨_, _, hend, ?_⟩
      have h4 := h3.putK (o' := .loop { (rec (if (if bf then (none : Option Code) else some (jc sf)).isNone then LoopState.ready else .done) (if bf then none else some (jc sf))) with state := .exhausted }) hb3 rfl rfl (hBW _)
      rw [Bse.put_put] at h4
      have h5 := h4.unK hkl
      rw [hWD] at h5
      have hE' : EnvD (D :: δ) n { a with defers := [{ target := .collected D, args := #[] }] ++ a.defers } l := ⟨by simp [hE.defers], hE.size, hE.at_⟩
      have hd := done D m' _ _ Ls' TLs' h1 hE' h2 h5 hkD (by have : W0.heap.size ≤ w.heap.size := hS.below.size; omega)
      have hp : (rec (if (if bf then (none : Option Code) else some (jc sf)).isNone then LoopState.ready else .done) (if bf then none else some (jc sf))).pending = if bf then none else some (jc sf) := by rw [hrec]
      clear hend
      generalize (w'.putObj lid (.loop { (rec (if (if bf then (none : Option Code) else some (jc sf)).isNone then LoopState.ready else .done) (if bf then none else some (jc sf))) with state := .exhausted })) = wx at hd ⊢
      rw [hp]
      cases bf with
      | true => simp only [if_true] at hd ⊢; exact hd
      | false => simp only [Bool.false_eq_true, if_false] at hd ⊢; exact hd
end
end Go.Proofs.Ytifobhaccglckaa.Hay
