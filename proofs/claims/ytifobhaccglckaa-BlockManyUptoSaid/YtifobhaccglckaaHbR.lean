import Derived.Test.YtifobhaccglckaaHbQ
import Derived.RangeFuncLeaves
namespace Go.Proofs.Ytifobhaccglckaa.Hay
open Go.RowKit

def Shut : List Nat → World → World → Prop
  | [], w, w' => w' = w
  | D :: δ, w, w' => w.heap[D]? = some (.deferred (some [])) ∧ Shut δ (w.putObj D (.deferred none)) w'
def FinM (P : Program) (fn : Func) (R : Value → World → Prop) (a : Act) (w : World) : Prop :=
  ∃ δ w', a.defers = (δ.map fun D => { target := .collected D, args := #[] }) ∧ Shut δ w w' ∧ Fin P fn R { a with defers := [] } w'
section
variable {P : Program} {fn : Func} {R : Value → World → Prop} {a : Act} {w : World} {δ : List Nat} {n : Nat} {l : List (Nat × Value)} {W0 : Bse} {m : M} {L : Mem} {TL : Tls} {D : Nat}
theorem FinM.nil (hE : Env n a l) (h : Fin P fn R a w) : FinM P fn R a w := by
  refine ⟨[], w, by simp [hE.defers], rfl, ?_⟩
  have : ({ a with defers := [] } : Act) = a := by
    have := hE.defers
    cases a; simp at this; simp [this]
  rw [this]; exact h
theorem FinM.shut (hE : EnvD (D :: δ) n a l) (hS : S (W0.put D (.deferred (some []))) m w L TL) (hk : W0.keep D = none) (hB : W0.heap.size ≤ D)
    (k : ∀ a w, S W0 m w L TL → EnvD δ n a l → FinM P fn R a w) : FinM P fn R a w := by
  have hD := (hS.below.kept D _ (Bse.put_same _ _ _)).1
  have hS3 : S W0 m (w.putObj D (.deferred none)) L TL := by
    have := hS.putK (o' := .deferred none) hD rfl rfl hB
    rw [Bse.put_put] at this
    exact this.unK hk
  obtain ⟨δ', w', h1, h2, h3⟩ := k { a with defers := δ.map fun D => { target := .collected D, args := #[] } } _ hS3 ⟨rfl, hE.size, hE.at_⟩
  refine ⟨D :: δ, w', hE.defers, ⟨hD, ?_⟩, h3⟩
  have : δ' = δ := by
    have h1 : δ.map (fun D => ({ target := .collected D, args := #[] } : Deferred)) = δ'.map fun D => { target := .collected D, args := #[] } := h1
    clear hE k h2 h3
    induction δ generalizing δ' with
    | nil => cases δ' with
      | nil => rfl
      | cons => simp at h1
    | cons x δ ih =>
      cases δ' with
      | nil => simp at h1
      | cons y δ' =>
        simp only [List.map_cons, List.cons.injEq, Deferred.mk.injEq, and_true] at h1
        obtain ⟨h1, h2⟩ := h1
        injection h1 with h1
        rw [h1, ih _ (by assumption) h2]
  rw [← this]; exact h2
theorem kcallM {f : FuncId} {c : Code} {args : List Value} (hf : P.funcs[f]? = some fn) (hb : fn.body = some c) (hn : fn.ntmps = n) (hle : args.length ≤ n)
    (h : ∀ a, Env n a ((List.range args.length).zip args) → K none P c (FinM P fn R) [] (FinM P fn R) a w) :
    Calls P f args.toArray w (Ret R) := by
  refine calls_out (n := 0) (callsIn_of_wp_marks hf hb trivial (wpIn_mono (h _ ?_) fun e a w q => ?_))
  · exact env_args hn hle
  · have key : ∀ (δ : List Nat) (w w' : World), Shut δ w w' → Fin P fn R { a with defers := [] } w' → LeavesInM (Fr none) 0 P fn a.tmps (Ret R) (δ.map fun D => { target := .collected D, args := #[] }) .returning w := by
      intro δ
      induction δ with
      | nil =>
        intro w w' h h3
        obtain rfl : w' = w := h
        obtain ⟨vs, h1, _, h2⟩ := h3
        exact ⟨vs, h1, h2⟩
      | cons D δ ih =>
        intro w w' ⟨h, h'⟩ h3
        exact ⟨by simp, .inl ⟨D, _, rfl, run_takeDeferred h, ih _ _ h' h3⟩⟩
    cases e with
    | normal => obtain ⟨δ, w', h1, h2, h3⟩ := q; show LeavesInM _ _ _ _ _ _ a.defers _ _; rw [h1]; exact key δ w w' h2 h3
    | ret => obtain ⟨δ, w', h1, h2, h3⟩ := q; show LeavesInM _ _ _ _ _ _ a.defers _ _; rw [h1]; exact key δ w w' h2 h3
    | exit id => simp [mkQ] at q
    | goto t => exact q.elim
    | panic ch => exact q.elim
    | outgrown => exact q.elim
def ItV {α : Type} (P : Program) (Rv : M → List Value → α → Prop) (m : M) (v : Value) (xs : List α) : Prop :=
  ∃ gf lb, v = .func (.func gf) #[] lb ∧ (∀ vs w, (callFunc gf vs).run P w = .ok (.enter gf vs) w) ∧ IterC P Rv gf lb m xs
theorem ItV.mono {α : Type} {Rv : M → List Value → α → Prop} {m m' : M} {v : Value} {xs : List α} (h : ItV P Rv m v xs) (hm : M.le m m') : ItV P Rv m' v xs := by
  obtain ⟨gf, lb, h1, h2, h3⟩ := h
  exact ⟨gf, lb, h1, h2, fun σ I step B y m w L TL s Ls TLs r mono hle => h3 σ I step B y m w L TL s Ls TLs r mono (hm.trans hle)⟩
def Rv1 {α : Type} (k : Kd α) : M → List Value → α → Prop := fun m vs x => ∃ v, vs = [v] ∧ RV k m v x
def Rv2 {α β : Type} (k : Kd α) (k' : Kd β) : M → List Value → α × β → Prop := fun m vs x => ∃ v v', vs = [v, v'] ∧ RV k m v x.1 ∧ RV k' m v' x.2
end
theorem Rv1_len {α : Type} {k : Kd α} {m : M} {vs : List Value} {x : α} (h : Rv1 k m vs x) : vs.length = 1 := by obtain ⟨_, rfl, _⟩ := h; rfl
theorem Rv2_len {α β : Type} {k : Kd α} {k' : Kd β} {m : M} {vs : List Value} {x : α × β} (h : Rv2 k k' m vs x) : vs.length = 2 := by obtain ⟨_, _, rfl, _⟩ := h; rfl
section
variable {δ : List Nat} {P : Program} {W0 : Bse} {m : M} {L : Mem} {TL : Tls} {n : Nat} {a : Act} {l : List (Nat × Value)} {w : World} {N Rt : Act → World → Prop} {X : List (Nat × (Act → World → Prop))}
theorem krangeV {σ α : Type} {Rv : M → List Value → α → Prop} {g : Operand} {ps : Array Tmp} {assign body : Code} {v : Value} {xs : List α} (step : σ → α → Option (σ × Bool)) (jc : σ → Code) (ids : List Nat)
    (I : M → σ → Mem → Tls → Prop) {s0 : σ} {Ls : Mem} {TLs : Tls} {sf : σ} {bf : Bool}
    (hE : EnvD δ n a l) (hS : S W0 m w (Ls ++ L) (TLs ++ TL)) (hg : evl l g = some v) (hv : ItV P Rv m v xs)
    (hps : ∀ p ∈ ps.toList, p < n) (hRv : ∀ m vs x, Rv m vs x → vs.length = ps.size)
    (mono : ∀ m m' s a b, M.le m m' → I m s a b → I m' s a b) (h0 : I m s0 Ls TLs) (hfold : foldY step s0 xs = some (sf, bf))
    (round : ∀ (lid : Nat) (W1 W2 : Bse) (m : M) (w : World) (L' : Mem) (TL' : Tls) (s : σ) (Ls : Mem) (TLs : Tls) (vs : List Value) (x : α) (s' : σ) (b : Bool) (a0 : Act) (orr ob : Obj), I m s Ls TLs → S W1 m w (Ls ++ L') (TLs ++ TL') → Rv m vs x → step s x = some (s', b) →
      EnvD [] n a0 ((ps.toList.zip vs).reverse ++ l) → (∀ m w L TL, S W1 m w L TL → w.heap[lid]? = some orr ∧ S W2 m (w.putObj lid ob) L TL) →
      K (some lid) P assign (fun a1 w1 => w1.heap[lid]? = some orr ∧ K (some lid) P body (fun _ w' => b = true ∧ RPost W2 I L' TL' m s' w') (ids.map fun id => (id, fun _ w' => b = false ∧ jc s' = .exit id ∧ RPost W2 I L' TL' m s' w')) (fun _ w' => b = false ∧ jc s' = .ret ∧ RPost W2 I L' TL' m s' w') a1 (w1.putObj lid ob)) [] (fun _ _ => False) a0 w)
    (done : ∀ (D : Nat) (m' : M) (w' : World) (a' : Act) (Ls' : Mem) (TLs' : Tls), M.le m m' → EnvD (D :: δ) n a' l → I m' sf Ls' TLs' → S (W0.put D (.deferred (some []))) m' w' (Ls' ++ L) (TLs' ++ TL) → W0.keep D = none → W0.heap.size ≤ D →
      if bf = true then N a' w' else K none P (jc sf) N X Rt a' w') :
    K none P (.rangeFunc g ps assign body) N X Rt a w := by
  obtain ⟨gf, lb, rfl, hcall, hit⟩ := hv
  exact krange step jc ids I hE hS hg hcall hit (M.le.refl m) hps hRv mono h0 hfold round done
end
def valF {σ α : Type} (step : σ → α → Option (σ × Bool)) (xs : List α) (t : Int × σ) : Option ((Int × σ) ⊕ (σ × Bool)) :=
  if decide (t.1 < (xs.length : Int)) then (idx xs t.1).bind fun x => (step t.2 x).bind fun r => if r.2 then some (.inl (IntKind.i64.wrap (t.1 + 1), r.1)) else some (.inr (r.1, false)) else some (.inr (t.2, true))
theorem foldY_loop {σ α : Type} {step : σ → α → Option (σ × Bool)} {xs : List α} {s : σ} {r : σ × Bool} (hl : xs.length ≤ maxSz) (h : foldY step s xs = some r) : loopO (valF step xs) (0, s) = some r := by
  have key : ∀ (ys : List α) (i : Nat) (s : σ), xs.drop i = ys → foldY step s ys = some r → loopO (valF step xs) ((i : Int), s) = some r := by
    intro ys
    induction ys with
    | nil =>
      intro i s hd hf
      simp only [foldY] at hf
      injection hf with hf
      have : xs.length ≤ i := by simpa using hd
      rw [loopO_end (b := r)]
      unfold valF
      rw [if_neg (by simp; omega), hf]
    | cons y ys ih =>
      intro i s hd hf
      simp only [foldY] at hf
      have hlt : i < xs.length := by
        apply Classical.byContradiction; intro hc
        rw [List.drop_eq_nil_of_le (by omega)] at hd; cases hd
      have hy : xs[i]? = some y := by
        have := congrArg (·[0]?) hd
        simpa using this
      have hix : idx xs (i : Int) = some y := by
        have e : xs[i] = y := by simpa [hlt] using hy
        simp [idx, hlt, e]
      have hd' : xs.drop (i + 1) = ys := by
        rw [← List.drop_drop, hd]; rfl
      cases hs : step s y with
      | none => rw [hs] at hf; cases hf
      | some q =>
        rw [hs] at hf
        simp only [Option.bind_some] at hf
        have hw : IntKind.i64.wrap ((i : Int) + 1) = ((i + 1 : Nat) : Int) := by
          rw [show (i : Int) + 1 = ((i + 1 : Nat) : Int) from rfl]
          exact inR_len (n := i + 1) (by omega)
        by_cases hq : q.2 = true
        · rw [if_pos hq] at hf
          rw [loopO_go (s' := (((i + 1 : Nat) : Int), q.1))]
          · exact ih (i + 1) _ hd' hf
          · unfold valF
            rw [if_pos (by simpa using hlt)]
            simp only [hix, Option.bind_some, hs]
            rw [if_pos hq, hw]
        · rw [if_neg hq] at hf
          injection hf with hf
          refine loopO_end ?_
          unfold valF
          rw [if_pos (by simpa using hlt)]
          simp only [hix, Option.bind_some, hs]
          rw [if_neg hq, hf]
  exact key xs 0 s (by simp) h
end Go.Proofs.Ytifobhaccglckaa.Hay
