import Derived.Test.YtifobhaccglckaaHbK
namespace Go.Proofs.Ytifobhaccglckaa.Hay
open Go.RowKit (Below)

structure Wit where
  b : Nat
  v : Value
  c : List Value
  c' : List Value
  c'' : List Value
def wi (ws : List Wit) (j : Nat) : Wit := ws.getD j ⟨0, undef, [], [], []⟩
theorem len0 {α : Type} {l : List α} (h : l.length = 0) : l = [] := List.eq_nil_of_length_eq_zero h
theorem len1 {α : Type} {l : List α} (h : l.length = 1) : ∃ x, l = [x] := match l, h with | [x], _ => ⟨x, rfl⟩
theorem lenz {a n : Nat} (h : a + n ≤ a) : n = 0 := by omega
theorem lenle {α : Type} {l : List α} {a n : Nat} (h : a + l.length ≤ a + (n + 1)) : l.length = 0 ∨ ∃ x r, l = x :: r ∧ a + r.length ≤ a + n := match l, h with
  | [], _ => .inl rfl
  | x :: r, h => .inr ⟨x, r, rfl, by simp at h; omega⟩
def amask (acc : List Nat) (js : List Nat) : Nat := js.foldl (fun x j => x ||| (acc.getD j 0 ||| 1 <<< j)) 0
def ancs (os : List Oper) : List Nat := os.foldl (fun acc o => acc ++ [amask acc (preds o)]) []
structure COp where
  lo : Nat
  hi : Nat
  tur : Bool
  olds : List (Nat × Value)
def COp.lv (c : COp) : Nat := if c.tur then c.lo + 1 else c.lo
theorem testBit_amask (acc : List Nat) (js : List Nat) (q : Nat) : (amask acc js).testBit q = true → ∃ j ∈ js, (acc.getD j 0).testBit q = true ∨ q = j := by
  unfold amask
  have key : ∀ (js : List Nat) (x : Nat), (js.foldl (fun x j => x ||| (acc.getD j 0 ||| 1 <<< j)) x).testBit q = true → x.testBit q = true ∨ ∃ j ∈ js, (acc.getD j 0).testBit q = true ∨ q = j := by
    intro js
    induction js with
    | nil => intro x h; exact .inl h
    | cons j r ih =>
      intro x h
      rw [List.foldl_cons] at h
      rcases ih _ h with h | ⟨j', hj', h⟩
      · simp only [Nat.testBit_or, Bool.or_eq_true] at h
        rcases h with h | h | h
        · exact .inl h
        · exact .inr ⟨j, by simp, .inl h⟩
        · refine .inr ⟨j, by simp, .inr ?_⟩
          rw [Nat.shiftLeft_eq, Nat.one_mul, Nat.testBit_two_pow] at h
          exact (of_decide_eq_true h).symm
      · exact .inr ⟨j', by simp [hj'], h⟩
  intro h
  rcases key js 0 h with h | h
  · simp at h
  · exact h
theorem ancs_spec (os : List Oper) (s : Nat → Bool) (hc : ∀ (j : Nat) (o : Oper), os[j]? = some o → s j = true → ∀ e ∈ preds o, s e = true) (i : Nat) (o : Oper) (hi : os[i]? = some o) (hp : ∀ e ∈ preds o, s e = true) (hed : edgesOK os = true) :
    ∀ q, ((ancs os).getD i 0).testBit q = true → s q = true := by
  have gen : ∀ (done rest : List Oper) (acc : List Nat), os = done ++ rest → acc.length = done.length → (∀ i o, done[i]? = some o → (∀ e ∈ preds o, s e = true) → ∀ q, (acc.getD i 0).testBit q = true → s q = true) →
      ∀ i o, os[i]? = some o → (∀ e ∈ preds o, s e = true) → ∀ q, ((rest.foldl (fun acc o => acc ++ [amask acc (preds o)]) acc).getD i 0).testBit q = true → s q = true := by
    intro done rest
    induction rest generalizing done with
    | nil => intro acc he hl h i o hi hp q hq; simp at he; subst he; exact h i o hi hp q hq
    | cons x r ih =>
      intro acc he hl h i o hi hp q hq
      rw [List.foldl_cons] at hq
      refine ih (done ++ [x]) _ (by simp [he]) (by simp [hl]) ?_ i o hi hp q hq
      intro i o hi hp q hq
      rcases Nat.lt_or_ge i done.length with h1 | h1
      · rw [List.getElem?_append_left h1] at hi
        refine h i o hi hp q ?_
        rw [List.getD_eq_getElem?_getD, List.getElem?_append_left (by omega)] at hq
        rw [List.getD_eq_getElem?_getD]; exact hq
      · rw [List.getElem?_append_right h1] at hi
        have h2 : i = done.length := by
          have := (List.getElem?_eq_some_iff.1 hi).1
          simp at this; omega
        subst h2
        simp at hi; subst hi
        rw [List.getD_eq_getElem?_getD, List.getElem?_append_right (by omega)] at hq
        simp [hl] at hq
        obtain ⟨j, hj, h3⟩ := testBit_amask _ _ _ hq
        have hsj := hp j hj
        rcases h3 with h3 | h3
        · have hjlt : j < done.length := edgesOK_at hed (i := done.length) (o := x) (by rw [he]; simp) j hj
          have ho : done[j]? = some done[j] := by simp [hjlt]
          exact h j done[j] ho (hc j done[j] (by rw [he, List.getElem?_append_left hjlt]; exact ho) hsj) q h3
        · subst h3; exact hsj
  exact gen [] os [] (by simp) rfl (fun i o hi => by simp at hi) i o hi hp
section
variable {δ : List Nat} {ro : Option Nat} {P : Program} {W0 : Bse} {m : M} {L : List (Nat × List Value)} {TL : List (Nat × Value)} {n : Nat} {a : Act} {l : List (Nat × Value)} {w : World}
theorem yielded_undef {ops : Array Oper} {a : Act} {g dg : Nat} (hd : dstOf ops g = some dg) (hq : a.tmps.getD dg undef = undef) : yielded ops a.tmps g = none := by
  unfold dstOf at hd
  unfold yielded
  rw [hd]
  simp only [Option.bind_some]
  rw [Array.getD_eq_getD_getElem?] at hq
  cases h : a.tmps[dg]? with
  | none => rfl
  | some v => rw [h] at hq; simp at hq; rw [hq]; rfl
def ChS (δ : List Nat) (P : Program) (os : List Oper) (Φ : Nat → M → List Wit → Value → Prop) (Q : Nat → M → List Wit → List (Nat × List Value) → List (Nat × Value) → Prop) (W0 : Bse) (m : M) (n : Nat) (cs : List COp) (i : Nat) (c : COp) (o : Oper) : Prop :=
  ∀ pre post L' TL' m' a w, pre.length = c.lo → c.lo + post.length ≤ c.hi → M.le m m' → Q (c.lo + post.length) m' (pre ++ post) L' TL' → S W0 m' w L' TL' → EnvD δ n a c.olds →
    (∀ j ∈ preds o, ∀ d, dstOf os.toArray j = some d → Φ j m' (pre.take ((cs.map COp.lv).getD j 0)) (a.tmps.getD d undef)) →
    if Region.wanted o (yielded os.toArray a.tmps) = true then Step P o a w (fun v w' => ∃ m'', M.le m' m'' ∧ S W0 m'' w' L' TL' ∧ Φ i m'' pre v) else Φ i m' pre undef
def ChM (δ : List Nat) (P : Program) (os : List Oper) (Φ : Nat → M → List Wit → Value → Prop) (Q : Nat → M → List Wit → List (Nat × List Value) → List (Nat × Value) → Prop) (W0 : Bse) (m : M) (n : Nat) (cs : List COp) (i : Nat) (c : COp) (o : Oper) : Prop :=
  ∀ pre L' TL' m' a w, pre.length = c.lo → M.le m m' → Q c.lo m' pre L' TL' → S W0 m' w L' TL' → EnvD δ n a c.olds →
    (∀ j ∈ preds o, ∀ d, dstOf os.toArray j = some d → Φ j m' (pre.take ((cs.map COp.lv).getD j 0)) (a.tmps.getD d undef)) →
    Region.wanted o (yielded os.toArray a.tmps) = true ∧ Step P o a w (fun v w' => ∃ m'' wit L'' TL'', M.le m' m'' ∧ S W0 m'' w' L'' TL'' ∧ Q (c.lo + 1) m'' (pre ++ [wit]) L'' TL'' ∧ Φ i m'' (pre ++ [wit]) v)
def ChAll (δ : List Nat) (P : Program) (os : List Oper) (Φ : Nat → M → List Wit → Value → Prop) (Q : Nat → M → List Wit → List (Nat × List Value) → List (Nat × Value) → Prop) (W0 : Bse) (m : M) (n : Nat) (cs : List COp) : Nat → List COp → List Oper → Prop
  | i, c :: r, o :: ro => (match c.tur with | true => ChM δ P os Φ Q W0 m n cs i c o | false => ChS δ P os Φ Q W0 m n cs i c o) ∧ ChAll δ P os Φ Q W0 m n cs (i + 1) r ro
  | _, _, _ => True
def oldOK' (os : List Oper) (i : Nat) (d : Nat) : Bool := os.zipIdx.all fun p => match p.1.dst with | some e => !(Nat.beq e d) || (preds p.1).any (Nat.beq i) | none => true
def dstOK' (os : List Oper) (n : Nat) : Bool :=
  os.zipIdx.all (fun p => match p.1.dst with | some d => Nat.blt d n | none => true) && (os.zipIdx.all fun p => os.zipIdx.all fun q => Nat.beq p.2 q.2 || (match p.1.dst, q.1.dst with | some d, some e => !(Nat.beq d e) | _, _ => true))
def ch1 (os : List Oper) (an : List Nat) (es : List Nat) (cs : List COp) (i : Nat) (c : COp) (o : Oper) : Bool :=
  (List.range c.lo).all (fun q => Nat.blt q es.length && (an.getD i 0).testBit (es.getD q 0)) &&
  (List.range es.length).all (fun q => Nat.blt q (if c.tur then c.lo + 1 else c.hi) || (an.getD (es.getD q 0) 0).testBit i) &&
  (preds o).all (fun j => Nat.ble ((cs.map COp.lv).getD j 0) c.lo) &&
  (match c.tur with | true => Nat.blt c.lo es.length && Nat.beq (es.getD c.lo 0) i | false => es.all fun e => !(Nat.beq e i)) &&
  c.olds.all (fun e => oldOK' os i e.1)
def ch2 (os0 os : List Oper) (an : List Nat) (es : List Nat) (cs0 : List COp) : Nat → List COp → List Oper → Bool
  | i, c :: r, o :: ro => ch1 os an es cs0 i c o && ch2 os0 os an es cs0 (i + 1) r ro
  | _, _, _ => true
def nodupN : List Nat → Bool
  | [] => true
  | x :: r => r.all (fun y => !(Nat.beq x y)) && nodupN r
def chOK (os : List Oper) (es : List Nat) (cs : List COp) (k n : Nat) : Bool :=
  Nat.beq cs.length k && nodupN es && es.all (fun e => Nat.blt e k && Nat.blt e os.length) && dstOK' (os.take k) n && ch2 os (os.take k) (ancs os) es cs 0 cs os
def SubsC (l0 : List (Nat × Value)) : List COp → Prop
  | [] => True
  | c :: cs => Sub l0 c.olds ∧ SubsC l0 cs
theorem nodupN_ne : ∀ {es : List Nat}, nodupN es = true → ∀ (p q : Nat) (x : Nat), es[p]? = some x → es[q]? = some x → p = q
  | [], _, p, q, x, h, _ => by simp at h
  | y :: r, h, p, q, x, hp, hq => by
    unfold nodupN at h
    rw [Bool.and_eq_true] at h
    have no : ∀ j, r[j]? = some y → False := fun j hj => by
      have := List.all_eq_true.1 h.1 y (List.mem_of_getElem? hj)
      simp at this
    cases p with
    | zero =>
      simp at hp; subst hp
      cases q with
      | zero => rfl
      | succ q => exact (no q (by simpa using hq)).elim
    | succ p =>
      cases q with
      | zero => simp at hq; subst hq; exact (no p (by simpa using hp)).elim
      | succ q => rw [nodupN_ne h.2 p q x (by simpa using hp) (by simpa using hq)]
theorem kchain {os : List Oper} {id k : Nat} {es : List Nat} {cs : List COp} {Φ : Nat → M → List Wit → Value → Prop} {Q : Nat → M → List Wit → List (Nat × List Value) → List (Nat × Value) → Prop} {N Rt : Act → World → Prop} {X : List (Nat × (Act → World → Prop))}
    (hm : P.follows .mixedOrders = true) (hE : EnvD δ n a l) (hS : S W0 m w L TL) (hQ : Q 0 m [] L TL) (hed : edgesOK os = true) (htl : tailOK os k = true) (hsub : SubsC l cs) (hok : chOK os es cs k n = true)
    (mono : ∀ i m m' ws v, M.le m m' → Φ i m ws v → Φ i m' ws v) (monq : ∀ c m m' ws L T, M.le m m' → Q c m ws L T → Q c m' ws L T)
    (step : ChAll δ P os Φ Q W0 m n cs 0 cs os)
    (fin : ∀ ws L' TL' m' a w, ws.length = es.length → M.le m m' → Q es.length m' ws L' TL' → S W0 m' w L' TL' → a.defers = δ.map (fun D => { target := .collected D, args := #[] }) → a.tmps.size = n → (∀ d v, lk l d = some v → (∀ j, j < k → dstOf os.toArray j ≠ some d) → a.tmps.getD d undef = v) →
      (∀ j, j < min k os.length → ∀ d, dstOf os.toArray j = some d → Φ j m' (ws.take ((cs.map COp.lv).getD j 0)) (a.tmps.getD d undef)) → wpL ro P os.toArray (mkQ N X Rt) (os.drop k) a w) : K ro P (.region id os.toArray true) N X Rt a w := by
  unfold chOK at hok
  simp only [Bool.and_eq_true] at hok
  obtain ⟨⟨⟨⟨hk, hnd⟩, hes⟩, hd⟩, hch⟩ := hok
  have hk := Nat.eq_of_beq_eq_true hk
  unfold dstOK' at hd
  rw [Bool.and_eq_true] at hd
  have mem : ∀ (i : Nat) (o : Oper), os[i]? = some o → i < k → (o, i) ∈ (os.take k).zipIdx := fun i o hi hik => by
    rw [List.mem_zipIdx_iff_getElem?]; simp [hik, hi]
  have hdn : ∀ (i : Nat) (o : Oper), os[i]? = some o → i < k → ∀ d, o.dst = some d → d < n := fun i o hi hik d hod => by
    have := List.all_eq_true.1 hd.1 (o, i) (mem i o hi hik)
    simp only [hod] at this
    exact Nat.le_of_ble_eq_true this
  have hne : ∀ (i j : Nat) (o o' : Oper), os[i]? = some o → os[j]? = some o' → i < k → j < k → i ≠ j → ∀ d e, o.dst = some d → o'.dst = some e → d ≠ e := fun i j o o' hi hj hik hjk hij d e hod hoe hde => by
    have h1 := List.all_eq_true.1 hd.2 _ (mem i o hi hik)
    have h2 := List.all_eq_true.1 h1 _ (mem j o' hj hjk)
    simp only [hod, hoe, Bool.or_eq_true, Bool.not_eq_true'] at h2
    rcases h2 with h2 | h2
    · exact hij (Nat.eq_of_beq_eq_true h2)
    · subst hde; simp at h2
  have hdo : ∀ (j d : Nat), dstOf os.toArray j = some d ↔ ∃ o, os[j]? = some o ∧ o.dst = some d := fun j d => by
    unfold dstOf
    cases ho : os[j]? with
    | none => simp [ho]
    | some o => simp [ho]
  have steps : ∀ (r : List COp) (ro : List Oper) (q : Nat), ChAll δ P os Φ Q W0 m n cs q r ro → SubsC l r → ch2 os (os.take k) (ancs os) es cs q r ro = true → ∀ (i : Nat) (o : Oper) (c : COp), ro[i]? = some o → r[i]? = some c → (∀ e ∈ c.olds, lk l e.1 = some e.2) ∧ ch1 (os.take k) (ancs os) es cs (q + i) c o = true ∧
      (match c.tur with | true => ChM δ P os Φ Q W0 m n cs (q + i) c o | false => ChS δ P os Φ Q W0 m n cs (q + i) c o) := by
    intro r
    induction r with
    | nil => intro ro q _ _ _ i o c _ h; simp at h
    | cons c0 r ih =>
      intro ro q hD hSb hC i o c hi hc
      cases ro with
      | nil => simp at hi
      | cons o0 ro =>
        unfold ch2 at hC
        rw [Bool.and_eq_true] at hC
        cases i with
        | zero =>
          simp at hi hc; subst hi; subst hc
          exact ⟨hSb.1.all, hC.1, hD.1⟩
        | succ i =>
          have := ih ro (q + 1) hD.2 hSb.2 hC.2 i o c (by simpa using hi) (by simpa using hc)
          rw [show q + 1 + i = q + (i + 1) by omega] at this
          exact this
  have esm : ∀ q, q < es.length → ∃ e, es[q]? = some e ∧ es.getD q 0 = e ∧ e < k ∧ ∃ o, os[e]? = some o := fun q hq => by
    have h1 := List.all_eq_true.1 hes es[q] (List.getElem_mem hq)
    rw [Bool.and_eq_true] at h1
    have h2 : es[q] < os.length := Nat.le_of_ble_eq_true h1.2
    exact ⟨es[q], by simp [hq], by simp [List.getD, hq], Nat.le_of_ble_eq_true h1.1, os[es[q]], by simp [h2]⟩
  refine kany (k := k) hm hed htl (fun s a w => ∃ ws L' TL' m', ws.length ≤ es.length ∧ (∀ q e, es[q]? = some e → (s e = true ↔ q < ws.length)) ∧ M.le m m' ∧ Q ws.length m' ws L' TL' ∧ S W0 m' w L' TL' ∧ a.defers = δ.map (fun D => { target := .collected D, args := #[] }) ∧ a.tmps.size = n ∧ (∀ d v, lk l d = some v → (∀ j, j < k → dstOf os.toArray j = some d → s j = false) → a.tmps.getD d undef = v) ∧
    (∀ j, j < k → s j = true → (cs.map COp.lv).getD j 0 ≤ ws.length ∧ ∀ d, dstOf os.toArray j = some d → Φ j m' (ws.take ((cs.map COp.lv).getD j 0)) (a.tmps.getD d undef))) ?_ ?_ ?_
  · exact ⟨[], L, TL, m, by simp, fun q e _ => by simp, M.le.refl m, hQ, hS.drew, hE.defers, hE.size, fun d v hv _ => hE.at_ d v hv, fun j _ h => (Bool.false_ne_true h).elim⟩
  · intro i o ho hik s a w ⟨ws, L', TL', m', hwl, hst, hle, hq, hS', hdf, hsz, holdv, hphi⟩ hsi hpre hcl
    have hci : ∃ c, cs[i]? = some c := ⟨cs[i]'(by omega), by simp [show i < cs.length by omega]⟩
    obtain ⟨c, hc⟩ := hci
    obtain ⟨hl1, hc1, hstep⟩ := steps cs os 0 step hsub hch i o c ho hc
    rw [Nat.zero_add] at hc1 hstep
    unfold ch1 at hc1
    simp only [Bool.and_eq_true] at hc1
    obtain ⟨⟨⟨⟨hlo, hhi⟩, hpl⟩, hmt⟩, hold1⟩ := hc1
    have hlvi : (cs.map COp.lv).getD i 0 = c.lv := by simp [List.getD, hc]
    -- how many of the chain are done
    have hlow : c.lo ≤ ws.length := by
      rcases Nat.eq_zero_or_pos c.lo with h0 | h0
      · omega
      · have h1 := List.all_eq_true.1 hlo (c.lo - 1) (by simp; omega)
        rw [Bool.and_eq_true] at h1
        have h2 : c.lo - 1 < es.length := Nat.le_of_ble_eq_true h1.1
        obtain ⟨e, he, heq, _, _⟩ := esm _ h2
        rw [heq] at h1
        have h3 := ancs_spec os s hcl i o ho hpre hed e h1.2
        have := (hst _ _ he).1 h3
        omega
    have hEi : EnvD δ n a c.olds := by
      have hl2 : ∀ e ∈ c.olds, oldOK' (os.take k) i e.1 = true := fun e he => List.all_eq_true.1 hold1 e he
      clear hstep hlvi
      generalize c.olds = li at *
      refine ⟨hdf, hsz, fun j v hj => ?_⟩
      have : ∃ e ∈ li, e = (j, v) := by
        clear hl1 hl2 hold1
        induction li with
        | nil => simp [lk] at hj
        | cons e r ih =>
          obtain ⟨i', u⟩ := e
          simp only [lk] at hj
          split at hj
          · rename_i hb
            have := Nat.eq_of_beq_eq_true hb
            subst this
            injection hj with hj
            subst hj
            exact ⟨_, by simp, rfl⟩
          · obtain ⟨e, he, rfl⟩ := ih hj
            exact ⟨_, by simp [he], rfl⟩
      obtain ⟨e, he, rfl⟩ := this
      refine holdv j v (hl1 _ he) fun q hq hqd => ?_
      obtain ⟨o', ho', hd'⟩ := (hdo q j).1 hqd
      have h3 := List.all_eq_true.1 (hl2 _ he) (o', q) (mem q o' ho' hq)
      simp only [hd', Bool.or_eq_true, Bool.not_eq_true'] at h3
      have h4 : i ∈ preds o' := by
        rcases h3 with h3 | h3
        · simp at h3
        · obtain ⟨e, he, hb⟩ := List.any_eq_true.1 h3
          have := Nat.eq_of_beq_eq_true hb
          subst this; exact he
      cases hs : s q with
      | false => rfl
      | true => have := hcl q o' ho' hs i h4; rw [hsi] at this; cases this
    have hT : ∀ j ∈ preds o, ∀ d, dstOf os.toArray j = some d → Φ j m' ((ws.take c.lo).take ((cs.map COp.lv).getD j 0)) (a.tmps.getD d undef) := fun j hj d hd => by
      have h1 := (hphi j (by have := edgesOK_at hed ho j hj; omega) (hpre j hj)).2 d hd
      have h2 := Nat.le_of_ble_eq_true (List.all_eq_true.1 hpl j hj)
      rw [List.take_take, Nat.min_eq_left h2]
      exact h1
    have sizes : ∀ u : Value, (a.put o.dst u).tmps.size = n := fun u => by cases hod : o.dst <;> simp [Act.put, hsz]
    have defs : ∀ u : Value, (a.put o.dst u).defers = δ.map (fun D => { target := .collected D, args := #[] }) := fun u => by cases hod : o.dst <;> simp [Act.put, hdf]
    have olds : ∀ (u : Value), ∀ e v, lk l e = some v → (∀ j, j < k → dstOf os.toArray j = some e → upd s i j = false) → (a.put o.dst u).tmps.getD e undef = v := by
      intro u e v hv hj
      have h5 := holdv e v hv (fun j hjk hjd => by
        have := hj j hjk hjd
        unfold upd at this
        split at this
        · cases this
        · exact this)
      cases hod : o.dst with
      | none => simpa [Act.put] using h5
      | some d =>
        have hne' : d ≠ e := fun x => by
          subst x
          have := hj i hik ((hdo i d).2 ⟨o, ho, hod⟩)
          simp [upd] at this
        simpa [Act.put, Array.getElem?_setIfInBounds_ne hne'] using h5
    have phis : ∀ (u : Value) (m'' : M) (ws' : List Wit), Φ i m'' (ws'.take c.lv) u → M.le m' m'' → c.lv ≤ ws'.length → (∃ r, ws' = ws ++ r) → (∀ j, j < k → upd s i j = true → (cs.map COp.lv).getD j 0 ≤ ws'.length ∧ ∀ e, dstOf os.toArray j = some e → Φ j m'' (ws'.take ((cs.map COp.lv).getD j 0)) ((a.put o.dst u).tmps.getD e undef)) := by
      intro u m'' ws' hu hle' hlv' ⟨rr, hrr⟩ j hjk hj
      by_cases hji : j = i
      · subst hji
        rw [hlvi]
        refine ⟨hlv', fun e he => ?_⟩
        obtain ⟨o', ho', hd'⟩ := (hdo j e).1 he
        rw [ho] at ho'; injection ho' with ho'; subst ho'
        have hen := hdn j o ho hjk e hd'
        rw [hd']
        have : (a.put (some e) u).tmps.getD e undef = u := by simp [Act.put, hsz, hen]
        rw [this]; exact hu
      · unfold upd at hj
        rw [if_neg hji] at hj
        obtain ⟨h6, h7⟩ := hphi j hjk hj
        refine ⟨by rw [hrr, List.length_append]; omega, fun e he => ?_⟩
        have h8 := mono j m' m'' _ _ hle' (h7 e he)
        rw [hrr, List.take_append_of_le_length h6]
        cases hod : o.dst with
        | none => simpa [Act.put] using h8
        | some d =>
          obtain ⟨o', ho', hd'⟩ := (hdo j e).1 he
          have hne' := hne i j o o' ho ho' hik hjk (fun x => hji x.symm) d e hod hd'
          have : (a.put (some d) u).tmps.getD e undef = a.tmps.getD e undef := by simp [Act.put, Array.getElem?_setIfInBounds_ne hne']
          rw [this]; exact h8
    cases hmu : c.tur with
    | true =>
      rw [hmu] at hmt hstep
      simp only [hmu, if_true] at hhi
      simp only [Bool.and_eq_true] at hmt
      have hloe : c.lo < es.length := Nat.le_of_ble_eq_true hmt.1
      have hei := Nat.eq_of_beq_eq_true hmt.2
      obtain ⟨e, he, heq, _, _⟩ := esm _ hloe
      rw [hei] at heq; subst heq
      have hwlo : ws.length = c.lo := by
        rcases Nat.lt_or_ge c.lo ws.length with h | h
        · have := (hst _ _ he).2 h
          rw [hsi] at this; cases this
        · omega
      have hlv : c.lv = c.lo + 1 := by simp [COp.lv, hmu]
      have htk : ws.take c.lo = ws := List.take_of_length_le (by omega)
      rw [hwlo] at hq
      obtain ⟨hw, hst'⟩ := hstep ws L' TL' m' a w hwlo hle hq hS' hEi (by rw [htk] at hT; exact hT)
      rw [if_pos hw]
      refine hst'.imp fun v w' ⟨m'', wit, L'', TL'', h1, h2, h3, h4⟩ => ?_
      refine ⟨ws ++ [wit], L'', TL'', m'', by simp; omega, fun q e' he' => ?_, hle.trans h1, by simp; rw [hwlo]; exact h3, h2, defs v, sizes v, olds v, phis v m'' (ws ++ [wit]) ?_ h1 (by simp; omega) ⟨[wit], rfl⟩⟩
      · unfold upd
        by_cases h5 : e' = i
        · subst h5
          have := nodupN_ne hnd q c.lo e' he' he
          simp; omega
        · rw [if_neg h5, hst q e' he']
          have : q ≠ c.lo := fun x => by subst x; rw [he] at he'; injection he' with he'; exact h5 he'.symm
          simp; omega
      · rw [List.take_of_length_le (by simp; omega)]; exact h4
    | false =>
      rw [hmu] at hmt hstep
      simp only [hmu, Bool.false_eq_true, if_false] at hhi
      have hlv : c.lv = c.lo := by simp [COp.lv, hmu]
      have hhi' : ws.length ≤ c.hi := by
        rcases Nat.lt_or_ge c.hi ws.length with h | h
        · exfalso
          have h0 : c.hi < es.length := by omega
          have h1 := List.all_eq_true.1 hhi c.hi (by simpa using h0)
          rw [Bool.or_eq_true] at h1
          obtain ⟨e, he, heq, hek, oe, hoe⟩ := esm _ h0
          rcases h1 with h1 | h1
          · have := Nat.le_of_ble_eq_true h1; omega
          · rw [heq] at h1
            have h2 := (hst _ _ he).2 h
            have h3 := ancs_spec os s hcl e oe hoe (hcl e oe hoe h2) hed i h1
            rw [hsi] at h3; cases h3
        · exact h
      have hdl : (ws.drop c.lo).length = ws.length - c.lo := by simp
      have hqq : Q (c.lo + (ws.drop c.lo).length) m' (ws.take c.lo ++ ws.drop c.lo) L' TL' := by
        rw [List.take_append_drop, hdl, show c.lo + (ws.length - c.lo) = ws.length by omega]; exact hq
      have hstp := hstep (ws.take c.lo) (ws.drop c.lo) L' TL' m' a w (by simp; omega) (by rw [hdl]; omega) hle hqq hS' hEi hT
      have next : ∀ (v : Value) (w' : World) (m'' : M), M.le m' m'' → S W0 m'' w' L' TL' → Φ i m'' (ws.take c.lo) v → ∃ ws L' TL' m', ws.length ≤ es.length ∧ (∀ q e, es[q]? = some e → (upd s i e = true ↔ q < ws.length)) ∧ M.le m m' ∧ Q ws.length m' ws L' TL' ∧ S W0 m' w' L' TL' ∧ (a.put o.dst v).defers = δ.map (fun D => { target := .collected D, args := #[] }) ∧ (a.put o.dst v).tmps.size = n ∧ (∀ d u, lk l d = some u → (∀ j, j < k → dstOf os.toArray j = some d → upd s i j = false) → (a.put o.dst v).tmps.getD d undef = u) ∧
          (∀ j, j < k → upd s i j = true → (cs.map COp.lv).getD j 0 ≤ ws.length ∧ ∀ d, dstOf os.toArray j = some d → Φ j m' (ws.take ((cs.map COp.lv).getD j 0)) ((a.put o.dst v).tmps.getD d undef)) := by
        intro v w' m'' h1 h2 h3
        refine ⟨ws, L', TL', m'', hwl, fun q e he => ?_, hle.trans h1, monq _ _ _ _ _ _ h1 hq, h2, defs v, sizes v, olds v, phis v m'' ws (by rw [hlv]; exact h3) h1 (by rw [hlv]; exact hlow) ⟨[], by simp⟩⟩
        have h5 : e ≠ i := fun x => by
          subst x
          have := List.all_eq_true.1 hmt e (List.mem_of_getElem? he)
          simp at this
        unfold upd
        rw [if_neg h5]
        exact hst q e he
      split
      · rename_i hw
        rw [if_pos hw] at hstp
        exact hstp.imp fun v w' ⟨m'', h1, h2, h3⟩ => next v w' m'' h1 h2 h3
      · rename_i hw
        rw [if_neg hw] at hstp
        exact next undef w m' (M.le.refl _) hS' hstp
  · intro s a w ⟨ws, L', TL', m', hwl, hst, hle, hq, hS', hdf, hsz, holdv, hphi⟩ hall
    have hlen : ws.length = es.length := by
      rcases Nat.lt_or_ge ws.length es.length with h | h
      · obtain ⟨e, he, _, hek, oe, hoe⟩ := esm _ h
        have := (hst _ _ he).1 (hall e hek (List.getElem?_eq_some_iff.1 hoe).1)
        omega
      · omega
    rw [hlen] at hq
    exact fin ws L' TL' m' a w hlen hle hq hS' hdf hsz (fun d v hv hno => holdv d v hv (fun j hj hjd => absurd hjd (hno j hj)))
      (fun j hj d hd => (hphi j (by omega) (hall j (by omega) (by omega))).2 d hd)
end
section
variable {δ : List Nat} {ro : Option Nat} {P : Program} {os : List Oper} {Φ : Nat → M → List Wit → Value → Prop} {Q : Nat → M → List Wit → List (Nat × List Value) → List (Nat × Value) → Prop} {W0 : Bse} {m : M} {n : Nat} {cs : List COp} {i : Nat} {c : COp} {dst : Option Tmp} {op : Op} {ty : TypeId} {pos : String} {aft : Array Edge}
theorem cplain (h : ∀ pre post L' TL' m' a w, pre.length = c.lo → c.lo + post.length ≤ c.hi → M.le m m' → Q (c.lo + post.length) m' (pre ++ post) L' TL' → S W0 m' w L' TL' → EnvD δ n a c.olds →
    (∀ j ∈ preds ⟨dst, op, ty, pos, aft, none⟩, ∀ d, dstOf os.toArray j = some d → Φ j m' (pre.take ((cs.map COp.lv).getD j 0)) (a.tmps.getD d undef)) →
    Step P ⟨dst, op, ty, pos, aft, none⟩ a w (fun v w' => ∃ m'', M.le m' m'' ∧ S W0 m'' w' L' TL' ∧ Φ i m'' pre v)) :
    ChS δ P os Φ Q W0 m n cs i c ⟨dst, op, ty, pos, aft, none⟩ := fun pre post L' TL' m' a w h1 h2 h3 h4 h5 h6 h7 => by
  rw [if_pos (by rfl)]; exact h pre post L' TL' m' a w h1 h2 h3 h4 h5 h6 h7
theorem cturn (h : ∀ pre L' TL' m' a w, pre.length = c.lo → M.le m m' → Q c.lo m' pre L' TL' → S W0 m' w L' TL' → EnvD δ n a c.olds →
    (∀ j ∈ preds ⟨dst, op, ty, pos, aft, none⟩, ∀ d, dstOf os.toArray j = some d → Φ j m' (pre.take ((cs.map COp.lv).getD j 0)) (a.tmps.getD d undef)) →
    Step P ⟨dst, op, ty, pos, aft, none⟩ a w (fun v w' => ∃ m'' wit L'' TL'', M.le m' m'' ∧ S W0 m'' w' L'' TL'' ∧ Q (c.lo + 1) m'' (pre ++ [wit]) L'' TL'' ∧ Φ i m'' (pre ++ [wit]) v)) :
    ChM δ P os Φ Q W0 m n cs i c ⟨dst, op, ty, pos, aft, none⟩ := fun pre L' TL' m' a w h1 h3 h4 h5 h6 h7 => ⟨rfl, h pre L' TL' m' a w h1 h3 h4 h5 h6 h7⟩
theorem cguard {g dg : Nat} {b : Bool} (hd : dstOf os.toArray g = some dg) (hn : Nat.blt dg n = true) (hg : g ∈ preds ⟨dst, op, ty, pos, aft, some (g, b)⟩) (hq : ∀ m ws v, Φ g m ws v → v = .bool b)
    (h : ∀ pre post L' TL' m' a w, pre.length = c.lo → c.lo + post.length ≤ c.hi → M.le m m' → Q (c.lo + post.length) m' (pre ++ post) L' TL' → S W0 m' w L' TL' → EnvD δ n a c.olds →
    (∀ j ∈ preds ⟨dst, op, ty, pos, aft, some (g, b)⟩, ∀ d, dstOf os.toArray j = some d → Φ j m' (pre.take ((cs.map COp.lv).getD j 0)) (a.tmps.getD d undef)) →
    Step P ⟨dst, op, ty, pos, aft, some (g, b)⟩ a w (fun v w' => ∃ m'', M.le m' m'' ∧ S W0 m'' w' L' TL' ∧ Φ i m'' pre v)) :
    ChS δ P os Φ Q W0 m n cs i c ⟨dst, op, ty, pos, aft, some (g, b)⟩ := fun pre post L' TL' m' a w h1 h2 h3 h4 h5 h6 h7 => by
  have hy := yielded_told h6 hd hn (hq _ _ _ (h7 g hg dg hd))
  rw [if_pos (by simp [Region.wanted, hy])]; exact h pre post L' TL' m' a w h1 h2 h3 h4 h5 h6 h7
theorem cskip {g dg : Nat} {b b' : Bool} (hd : dstOf os.toArray g = some dg) (hn : Nat.blt dg n = true) (hg : g ∈ preds ⟨dst, op, ty, pos, aft, some (g, b')⟩) (hq : ∀ m ws v, Φ g m ws v → v = .bool b) (hb : b ≠ b') (h : ∀ m ws, Φ i m ws undef) :
    ChS δ P os Φ Q W0 m n cs i c ⟨dst, op, ty, pos, aft, some (g, b')⟩ := fun pre post L' TL' m' a w h1 h2 h3 h4 h5 h6 h7 => by
  have hy := yielded_told h6 hd hn (hq _ _ _ (h7 g hg dg hd))
  rw [if_neg (by simp [Region.wanted, hy, hb])]; exact h _ _
end
section
variable {δ : List Nat} {ro : Option Nat} {P : Program} {ops : Array Oper} {Q : Exit → Act → World → Prop} {rest : List Oper} {a : Act} {w : World} {n : Nat} {l : List (Nat × Value)} {d : Nat} {op : Op} {ty : TypeId} {pos : String} {aft : Array Edge}
theorem sxu {g : Nat} {b' : Bool} {o : Oper} {dg : Nat} (hE : EnvD δ n a l) (hg : ops[g]? = some o) (ho : o.dst = some dg) (hl : lk l dg = some undef)
    (hd : Nat.blt d n = true) (k : ∀ a', EnvD δ n a' ((d, undef) :: l) → wpL ro P ops Q rest a' w) :
    wpL ro P ops Q (⟨some d, op, ty, pos, aft, some (g, b')⟩ :: rest) a w :=
  wpListIn_step fun K hK => by
    have hy : yielded ops a.tmps g = none := yielded_undef (by unfold dstOf; rw [hg]; exact ho) (hE.at_ dg _ hl)
    have : ((none : Option Bool) == some b') = false := rfl
    simp only [Region.wanted, hy, this, Bool.false_eq_true, if_false]
    exact ⟨fun _ _ => trivial, hK _ _ (k _ (hE.put hd undef))⟩
end
end Go.Proofs.Ytifobhaccglckaa.Hay
