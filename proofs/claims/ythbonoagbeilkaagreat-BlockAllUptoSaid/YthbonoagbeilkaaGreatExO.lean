import Derived.Test.YthbonoagbeilkaaGreatHbN
set_option linter.unusedVariables false
set_option linter.unusedSimpArgs false
namespace Go.Proofs.YthbonoagbeilkaaGreat.Hay
section
variable {G : Sg} {P : Program} {δ : List Nat} {n : Nat} {W0 : Bse} {L0 : Rs} {T0 : List (Nat × Value)} {m m0 : M} {z : Cz} {st : St G} {a : Act} {w : World} {Γ : Tab P G} {D : List (CS P G)} {g : Option (Nat × Bool)} {res : Type} {all : List Oper} {k : Nat}
abbrev dj (os : List Oper) (j : Nat) : Option Nat := dstOf os.toArray j
def nsp (all : List Oper) (k q : Nat) : Prop := ∀ oq, (all.take k)[q]? = some oq → isSp oq = false
def Reads (G : Sg) (all : List Oper) (k : Nat) (st0 : St G) (ev : Nat → EV G) (j : Nat) (o : Oper) (ρ : Operand → Option (EV G)) : Prop :=
 ∀ x e, ρ x = some e → match x with
  | .tmp t => (∃ q, q ∈ preds o ∧ q < j ∧ dj (all.take k) q = some t ∧ ev q = e ∧ nsp all k q) ∨ ((∃ lv, (t, lv, e) ∈ st0.env) ∧ ∀ (q : Nat) (oq : Oper), (all.take k)[q]? = some oq → oq.dst = some t → j ∈ preds oq)
  | .const v => ∃ b, cAV v = some b ∧ e = .one b
  | _ => False
def Exec (G : Sg) (P : Program) (Γ : Tab P G) (D : List (CS P G)) (all : List Oper) (k : Nat) (st0 : St G) (ev : Nat → EV G) (j : Nat) (o : Oper) : Prop :=
 ∃ (R : Res1 G) (b : R.β) (ρ : Operand → Option (EV G)), openOp Γ D ρ (lvOf st0.L) o.op = some R ∧ R.mv = some b ∧ ev j = R.k b ∧ Reads G all k st0 ev j o ρ
def OpF (G : Sg) (P : Program) (Γ : Tab P G) (D : List (CS P G)) (n : Nat) (all : List Oper) (k : Nat) (st0 : St G) (ev : Nat → EV G) (j : Nat) (o : Oper) : Prop :=
 ∃ d, o.dst = some d ∧ Nat.blt d n = true ∧ match o.guard with
  | none => Exec G P Γ D all k st0 ev j o
  | some (g, b) => g ∈ preds o ∧ nsp all k g ∧ ∃ dg, dj (all.take k) g = some dg ∧ Nat.blt dg n = true ∧ ((∃ x, ev g = .one (db x) ∧ (x = b → Exec G P Γ D all k st0 ev j o) ∧ (x ≠ b → ev j = .one .und)) ∨ (ev g = .one .und ∧ ev j = .one .und))
structure Cano (G : Sg) (all : List Oper) (k : Nat) (st0 : St G) (ev : Nat → EV G) (i : Nat) (st : St G) : Prop where
 L : st.L = st0.L
 T : st.T = st0.T
 c : st.c = st0.c
 env : ∀ e ∈ st.env, (∃ j, j < i ∧ dj (all.take k) j = some e.1 ∧ ev j = e.2.2 ∧ e.2.1 = st0.c ∧ nsp all k j) ∨ ((∀ j, j < i → dj (all.take k) j ≠ some e.1) ∧ e ∈ st0.env)
structure Dis (all : List Oper) (k n : Nat) : Prop where
 ed : edgesOK all = true
 ne : ∀ (i j : Nat) (d : Nat), dj (all.take k) i = some d → dj (all.take k) j = some d → i = j
theorem dj_iff {os : List Oper} {j d : Nat} : dj os j = some d ↔ ∃ o, os[j]? = some o ∧ o.dst = some d := by
 unfold dj dstOf
 cases ho : os[j]? with
 | none => simp [ho]
 | some o => simp [ho]
theorem dis_of (he : edgesOK all = true) (hd : dstOK' (all.take k) n = true) : Dis all k n := by
 refine ⟨he, fun i j d hi hj => ?_⟩
 obtain ⟨o, ho, hod⟩ := dj_iff.1 hi
 obtain ⟨o', ho', hod'⟩ := dj_iff.1 hj
 unfold dstOK' at hd
 rw [Bool.and_eq_true] at hd
 have h1 := List.all_eq_true.1 hd.2 (o, i) (by rw [List.mem_zipIdx_iff_getElem?]; exact ho)
 have h2 := List.all_eq_true.1 h1 (o', j) (by rw [List.mem_zipIdx_iff_getElem?]; exact ho')
 simp only [hod, hod', Bool.or_eq_true, Bool.not_eq_true'] at h2
 rcases h2 with h2 | h2
 ·exact Nat.eq_of_beq_eq_true h2
 ·simp at h2
theorem vis_reads {ev : Nat → EV G} {st0 : St G} {i : Nat} {o : Oper} (hD : Dis all k n) (ho : all[i]? = some o) (hc : Cano G all k st0 ev i st) : Reads G all k st0 ev i o (visρ all k i o st) := by
 intro x e hx
 cases x with
 | tmp t =>
  simp only [visρ] at hx
  split at hx
  ·rename_i hv
   simp only [St.op] at hx
   split at hx
   ·rename_i e' he
    injection hx with hx; subst hx
    have hm := lke_mem he
    have hvis : ∀ q oq, (all.take k)[q]? = some oq → oq.dst = some t → q ∈ preds o ∨ i ∈ preds oq := by
     intro q oq hq hqd
     have := List.all_eq_true.1 hv (oq, q) (by rw [List.mem_zipIdx_iff_getElem?]; exact hq)
     simp only [hqd, Bool.or_eq_true, Bool.not_eq_true'] at this
     rcases this with (h | h) | h
     ·simp at h
     ·obtain ⟨p, hp, hb⟩ := List.any_eq_true.1 h
      have := Nat.eq_of_beq_eq_true hb
      subst this; exact .inl hp
     ·obtain ⟨p, hp, hb⟩ := List.any_eq_true.1 h
      have := Nat.eq_of_beq_eq_true hb
      subst this; exact .inr hp
    rcases hc.env _ hm with ⟨j, hj, hdj, hej, _, hns⟩ | ⟨hno, h0⟩
    ·obtain ⟨oj, hoj, hojd⟩ := dj_iff.1 hdj
     rcases hvis j oj hoj hojd with h | h
     ·exact .inl ⟨j, h, hj, hdj, hej, hns⟩
     ·exfalso
      have hoj' : all[j]? = some oj := by
       rw [List.getElem?_take] at hoj
       split at hoj
       ·exact hoj
       ·cases hoj
      have := edgesOK_at hD.ed hoj' i h
      omega
    ·refine .inr ⟨⟨e'.1, h0⟩, fun q oq hq hqd => ?_⟩
     rcases hvis q oq hq hqd with h | h
     ·exfalso
      have := edgesOK_at hD.ed ho q h
      exact hno q this (dj_iff.2 ⟨oq, hq, hqd⟩)
     ·exact h
   ·cases hx
  ·cases hx
 | const v =>
  simp only [visρ, St.op] at hx
  split at hx
  ·rename_i b hb
   injection hx with hx; subst hx
   exact ⟨b, hb, rfl⟩
  ·cases hx
 | _ => simp [visρ, St.op] at hx
theorem Cano.step {ev ev' : Nat → EV G} {st0 : St G} {i d : Nat} {e : EV G} (hns : nsp all k i) (hc : Cano G all k st0 ev i st) (hd : dj (all.take k) i = some d) (he : ev' i = e) (hev : ∀ j, j < i → ev' j = ev j) : Cano G all k st0 ev' (i + 1) (st.put d e) := by
 refine ⟨hc.L, hc.T, hc.c, fun x hx => ?_⟩
 rcases List.mem_cons.1 hx with rfl | hx
 ·exact .inl ⟨i, by omega, hd, he, hc.c, hns⟩
 ·obtain ⟨h1, h2⟩ := mem_rmk hx
  rcases hc.env x h1 with ⟨j, hj, h3, h4, h5⟩ | ⟨h3, h4⟩
  ·exact .inl ⟨j, by omega, h3, by rw [hev j hj]; exact h4, h5⟩
  ·refine .inr ⟨fun j hj hdj => ?_, h4⟩
   rcases Nat.lt_or_ge j i with h | h
   ·exact h3 j h hdj
   ·have : j = i := by omega
    subst this
    rw [hd] at hdj; injection hdj with hdj
    exact h2 hdj.symm
theorem Cano.lit {ev : Nat → EV G} {st0 : St G} {i gi dg : Nat} {x : Bool} (hD : Dis all k n) (hc : Cano G all k st0 ev i st) (hg : dj (all.take k) gi = some dg) (hgi : gi < i) (hx : gd (st.op (.tmp dg)) = some (some x)) :
  ev gi = .one (db x) ∧ nsp all k gi ∧ Cano G all k st0 ev i (st.put dg (.one (db x))) := by
 have key : ev gi = .one (db x) ∧ nsp all k gi := by
  unfold gd at hx
  split at hx
  ·rename_i b hb
   have : b = db x := by
    cases b with
    | dat t y oo =>
     cases t <;> cases oo <;> simp only [AV.g?, reduceCtorEq] at hx
     obtain rfl := Option.some.inj (Option.some.inj hx)
     rfl
    | _ => simp [AV.g?] at hx
   subst this
   cases he : lke st.env dg with
   | none => simp [St.op, he, av?] at hb
   | some e =>
    simp only [St.op, he] at hb
    have hm := lke_mem he
    have hev : e.2 = .one (db x) := by
     cases h2 : e.2 with
     | one v => simp only [h2, av?, Option.some.injEq] at hb; rw [hb]
     | tup vs => simp [h2, av?] at hb
    rcases hc.env _ hm with ⟨j, hj, h3, h4, _, hns⟩ | ⟨h3, _⟩
    ·have := hD.ne gi j dg hg h3
     subst this
     rw [h4]; exact ⟨hev, hns⟩
    ·exact absurd hg (h3 gi hgi)
  ·cases hx
 refine ⟨key.1, key.2, hc.L, hc.T, hc.c, fun e he => ?_⟩
 rcases List.mem_cons.1 he with rfl | he
 ·exact .inl ⟨gi, hgi, hg, key.1, hc.c, key.2⟩
 ·exact hc.env e (mem_rmk he).1
theorem Cano.und {ev : Nat → EV G} {st0 : St G} {i gi dg : Nat} (hD : Dis all k n) (hc : Cano G all k st0 ev i st) (hg : dj (all.take k) gi = some dg) (hgi : gi < i) (hx : gd (st.op (.tmp dg)) = some none) : ev gi = .one .und ∧ nsp all k gi := by
 unfold gd at hx
 split at hx
 ·rename_i b hb
  have : b = .und := by
   cases b with
   | und => rfl
   | dat t y oo => cases t <;> cases oo <;> simp [AV.g?] at hx
   | _ => simp [AV.g?] at hx
  subst this
  cases he : lke st.env dg with
  | none => simp [St.op, he, av?] at hb
  | some e =>
   simp only [St.op, he] at hb
   have hm := lke_mem he
   have hev : e.2 = .one .und := by
    cases h2 : e.2 with
    | one v => simp only [h2, av?, Option.some.injEq] at hb; rw [hb]
    | tup vs => simp [h2, av?] at hb
   rcases hc.env _ hm with ⟨j, hj, h3, h4, _, hns⟩ | ⟨h3, _⟩
   ·have := hD.ne gi j dg hg h3
    subst this
    rw [h4]; exact ⟨hev, hns⟩
   ·exact absurd hg (h3 gi hgi)
 ·cases hx
theorem exOpen_tr {ρ : Type} {K : St G → Option ρ} {r : ρ} {st0 : St G} (hD : Dis all k n) : ∀ {os rest : List Oper} {i : Nat} {st : St G} {ev : Nat → EV G}, (all.take k).drop i = os ++ rest → (∀ o ∈ os, isSp o = false) → Cano G all k st0 ev i st → exOpen n Γ D all k i os st K = some r →
  ∃ ev' stf, (∀ j, j < i → ev' j = ev j) ∧ (∀ j o, i ≤ j → j < i + os.length → (all.take k)[j]? = some o → OpF G P Γ D n all k st0 ev' j o) ∧ K stf = some r ∧ Cano G all k st0 ev' (i + os.length) stf := by
 intro os
 induction os with
 | nil =>
  intro rest i st ev hdr _ hc h
  exact ⟨ev, st, fun _ _ => rfl, fun j o hj hj2 ho => by simp at hj2; omega, h, hc⟩
 | cons o os ih =>
  intro rest i st ev hdr hsp hc h
  have ho : (all.take k)[i]? = some o := by
   have := congrArg (·[0]?) hdr
   simpa using this
  have hoa : all[i]? = some o := by
   rw [List.getElem?_take] at ho
   split at ho
   ·exact ho
   ·cases ho
  have hdr' : (all.take k).drop (i + 1) = os ++ rest := by rw [← List.drop_drop, hdr]; rfl
  have hsp' : ∀ o ∈ os, isSp o = false := fun o' ho' => hsp o' (List.mem_cons_of_mem _ ho')
  have hns : nsp all k i := fun oq hoq => by rw [ho] at hoq; injection hoq with hoq; subst hoq; exact hsp o (by simp)
  -- the rest, from a state behind this operation
  have go : ∀ {st1 : St G} {e : EV G} {d : Nat}, o.dst = some d → Nat.blt d n = true → Cano G all k st0 ev i st1 → exOpen n Γ D all k (i + 1) os (st1.put d e) K = some r →
    (∀ ev' : Nat → EV G, (∀ j, j < i → ev' j = ev j) → ev' i = e → OpF G P Γ D n all k st0 ev' i o) →
    ∃ ev' stf, (∀ j, j < i → ev' j = ev j) ∧ (∀ j o', i ≤ j → j < i + (o :: os).length → (all.take k)[j]? = some o' → OpF G P Γ D n all k st0 ev' j o') ∧ K stf = some r ∧ Cano G all k st0 ev' (i + (o :: os).length) stf := by
   intro st1 e d hd hdn hc1 h1 hf
   have hc2 := Cano.step hns hc1 (ev' := fun j => if j = i then e else ev j) (dj_iff.2 ⟨o, ho, hd⟩) (if_pos rfl) (fun j hj => if_neg (by omega))
   obtain ⟨ev', stf, q1, q2, q3, q4⟩ := ih hdr' hsp' hc2 h1
   have e1 : ∀ j, j < i → ev' j = ev j := fun j hj => by rw [q1 j (by omega)]; exact if_neg (by omega)
   have e2 : ev' i = e := by rw [q1 i (by omega)]; exact if_pos rfl
   refine ⟨ev', stf, e1, fun j oj hj hj2 hoj => ?_, q3, by rw [List.length_cons, show i + (os.length + 1) = i + 1 + os.length by omega]; exact q4⟩
   rw [List.length_cons] at hj2
   rcases Nat.lt_or_ge i j with hij | hij
   ·exact q2 j oj (by omega) (by omega) hoj
   ·have : j = i := by omega
    subst this
    rw [ho] at hoj; injection hoj with hoj; subst hoj
    exact hf ev' e1 e2
  have reads : ∀ {st1 : St G}, Cano G all k st0 ev i st1 → ∀ ev' : Nat → EV G, (∀ j, j < i → ev' j = ev j) → Reads G all k st0 ev' i o (visρ all k i o st1) := by
   intro st1 hc1 ev' he x e hx
   have := vis_reads hD hoa hc1 x e hx
   cases x with
   | tmp t =>
    rcases this with ⟨q, h1, h2, h3, h4, h5⟩ | h
    ·exact .inl ⟨q, h1, h2, h3, by rw [he q h2]; exact h4, h5⟩
    ·exact .inr h
   | _ => exact this
  have exec : ∀ {st1 : St G} {R : Res1 G} {b : R.β}, Cano G all k st0 ev i st1 → openOp Γ D (visρ all k i o st1) (lvOf st.L) o.op = some R → R.mv = some b → ∀ ev' : Nat → EV G, (∀ j, j < i → ev' j = ev j) → ev' i = R.k b → Exec G P Γ D all k st0 ev' i o := by
   intro st1 R b hc1 hR hb ev' he hi
   exact ⟨R, b, _, by rw [hc.L] at hR; exact hR, hb, hi, reads hc1 ev' he⟩
  unfold exOpen at h
  split at h
  ·rename_i d hd
   split at h
   ·rename_i hdn hgn
    split at h
    ·rename_i R hR
     cases hb : R.mv with
     | none => simp [hb] at h
     | some b =>
      simp only [hb, Option.bind_some] at h
      refine go hd hdn hc h fun ev' he hi => ⟨d, hd, hdn, ?_⟩
      rw [hgn]
      exact exec hc hR hb ev' he hi
    ·cases h
   ·rename_i g b hdn hgn
    split at h
    ·rename_i dg hgp hdg
     have hgm : g ∈ preds o := by
      obtain ⟨e, he, hb⟩ := List.any_eq_true.1 hgp
      have := Nat.eq_of_beq_eq_true hb
      subst this; exact he
     have hgi := edgesOK_at hD.ed hoa g hgm
     split at h
     ·rename_i x hdgn hx
      obtain ⟨k1, kn, hc1⟩ := Cano.lit hD hc hdg hgi hx
      split at h
      ·rename_i hxt
       rw [hxt] at k1 hc1
       split at h
       ·split at h
        ·rename_i R hR
         cases hb : R.mv with
         | none => simp [hb] at h
         | some b =>
          simp only [hb, Option.bind_some] at h
          refine go hd hdn hc1 h fun ev' he hi => ⟨d, hd, hdn, ?_⟩
          rw [hgn]
          exact ⟨hgm, kn, dg, hdg, hdgn, .inl ⟨true, by rw [he g hgi]; exact k1, fun _ => exec hc1 hR hb ev' he hi, fun hne => absurd rfl hne⟩⟩
        ·cases h
       ·refine go hd hdn hc1 h fun ev' he hi => ⟨d, hd, hdn, ?_⟩
        rw [hgn]
        exact ⟨hgm, kn, dg, hdg, hdgn, .inl ⟨true, by rw [he g hgi]; exact k1, (fun hne => Bool.noConfusion hne), fun _ => hi⟩⟩
      ·rename_i hxf
       have hxf' : x = false := by simpa using hxf
       rw [hxf'] at k1 hc1
       split at h
       ·split at h
        ·rename_i R hR
         cases hb : R.mv with
         | none => simp [hb] at h
         | some b =>
          simp only [hb, Option.bind_some] at h
          refine go hd hdn hc1 h fun ev' he hi => ⟨d, hd, hdn, ?_⟩
          rw [hgn]
          exact ⟨hgm, kn, dg, hdg, hdgn, .inl ⟨false, by rw [he g hgi]; exact k1, fun _ => exec hc1 hR hb ev' he hi, fun hne => absurd rfl hne⟩⟩
        ·cases h
       ·refine go hd hdn hc1 h fun ev' he hi => ⟨d, hd, hdn, ?_⟩
        rw [hgn]
        exact ⟨hgm, kn, dg, hdg, hdgn, .inl ⟨false, by rw [he g hgi]; exact k1, (fun hne => Bool.noConfusion hne), fun _ => hi⟩⟩
     ·rename_i hdgn hx
      obtain ⟨k1, kn⟩ := Cano.und hD hc hdg hgi hx
      refine go hd hdn hc h fun ev' he hi => ⟨d, hd, hdn, ?_⟩
      rw [hgn]
      exact ⟨hgm, kn, dg, hdg, hdgn, .inr ⟨by rw [he g hgi]; exact k1, hi⟩⟩
     ·cases h
    ·cases h
   ·cases h
  ·cases h
theorem dj_all {g dg : Nat} (h : dj (all.take k) g = some dg) : dstOf all.toArray g = some dg := by
 obtain ⟨o, ho, hd⟩ := dj_iff.1 h
 rw [List.getElem?_take] at ho
 split at ho
 ·exact dj_iff.2 ⟨o, ho, hd⟩
 ·cases ho
theorem get_all {j : Nat} {o : Oper} (h : (all.take k)[j]? = some o) : all[j]? = some o ∧ j < k := by
 rw [List.getElem?_take] at h
 split at h
 ·exact ⟨h, ‹_›⟩
 ·cases h
theorem get_take {j : Nat} {o : Oper} (h : all[j]? = some o) (hk : j < k) : (all.take k)[j]? = some o := by
 rw [List.getElem?_take, if_pos hk]; exact h
theorem MemS.drew {Ls : List (Nat × BC G)} {Ts : List Nat} (h : MemS G W0 L0 T0 Ls Ts m z w) : MemS G W0 L0 T0 Ls Ts m z w.drew := by
 obtain ⟨Lc, Tc, h1, h2, h3, h4⟩ := h
 exact ⟨Lc, Tc, h1, h2, h3.drew, h4⟩
theorem open_ok {ρ : Type} {ro : Option Nat} {id : Nat} {K' : St G → Option ρ} {r : ρ} {N Rt : Act → World → Prop} {X : List (Nat × (Act → World → Prop))} (hnsp : (all.take k).any isSp = false) (hmx : P.follows .mixedOrders = true) (hs : Sat G P δ n W0 L0 T0 m0 st a w) (hD : Dis all k n) (htl : tailOK all k = true)
  (h : exOpen n Γ D all k 0 (all.take k) st (fun st' => exOps n Γ D all (all.drop k) st' K') = some r) (hN : Nxt G P δ n W0 L0 T0 m0 K' r st N) : K ro P (.region id all.toArray true) N X Rt a w := by
 obtain ⟨⟨m, z, h0, hr, hM⟩, hdf, hsz⟩ := hs
 have hsp : ∀ o ∈ all.take k, isSp o = false := fun o ho => by
  cases hq : isSp o with
  | false => rfl
  | true => rw [List.any_eq_true.2 ⟨o, ho, hq⟩] at hnsp; cases hnsp
 obtain ⟨ev, stf, _, hF, hK, hC⟩ := exOpen_tr (G := G) (P := P) (st0 := st) (ev := fun _ => .one .und) hD (i := 0) (rest := []) (by simp) hsp ⟨rfl, rfl, rfl, fun e he => .inr ⟨fun j hj => by omega, he⟩⟩ h
 rw [Nat.zero_add] at hC
 have hF' : ∀ j o, (all.take k)[j]? = some o → OpF G P Γ D n all k st ev j o := fun j o ho => hF j o (Nat.zero_le _) (by have := (List.getElem?_eq_some_iff.1 ho).1; omega) ho
 refine kany (k := k) hmx hD.ed htl (fun s a w => ∃ m', M.le m m' ∧ MemS G W0 L0 T0 st.L st.T m' z w ∧ (a.defers = δ.map fun D => { target := .collected D, args := #[] }) ∧ a.tmps.size = n ∧
   (∀ (j : Nat) (o : Oper), (all.take k)[j]? = some o → s j = true → ∀ d, o.dst = some d → (ev j).Rel G P m' z (a.tmps.getD d undef)) ∧
   (∀ e ∈ st.env, (∀ (j : Nat) (o : Oper), (all.take k)[j]? = some o → o.dst = some e.1 → s j = false) → e.2.2.Rel G P m' z (a.tmps.getD e.1 undef))) ?_ ?_ ?_
 ·exact ⟨m, M.le.refl m, hM.drew, hdf, hsz, (fun j o _ h => Bool.noConfusion h), fun e he _ => hr e he⟩
 ·rintro i o hio hik s a w ⟨m', hm, hMe, hdf, hsz, hev, hold⟩ hsi hpre hcl
  have hit := get_take hio hik
  obtain ⟨d, hd, hdn, hop⟩ := hF' i o hit
  have hdn' : d < n := Nat.le_of_ble_eq_true hdn
  -- what it may read holds now
  have reads : ∀ {ρ : Operand → Option (EV G)}, Reads G all k st ev i o ρ → ∀ x e, ρ x = some e → e.Rel G P m' z (a.eval x) := by
   intro ρ hR x e hx
   have := hR x e hx
   cases x with
   | tmp t =>
    rcases this with ⟨q, h1, h2, h3, h4, _⟩ | ⟨⟨lv, h1⟩, h2⟩
    ·obtain ⟨oq, hoq, hod⟩ := dj_iff.1 h3
     rw [← h4]
     exact hev q oq hoq (hpre q h1) t hod
    ·refine hold _ h1 fun q oq hoq hod => ?_
     cases hsq : s q with
     | false => rfl
     | true =>
      have := hcl q oq (get_all hoq).1 hsq i (h2 q oq hoq hod)
      rw [hsi] at this; cases this
   | const v =>
    obtain ⟨b, h1, rfl⟩ := this
    exact cAV_rel h1
   | _ => exact this.elim
  have next : ∀ (v : Value) (w' : World) (m'' : M), M.le m' m'' → MemS G W0 L0 T0 st.L st.T m'' z w' → (ev i).Rel G P m'' z v →
    ∃ m', M.le m m' ∧ MemS G W0 L0 T0 st.L st.T m' z w' ∧ ((a.put o.dst v).defers = δ.map fun D => { target := .collected D, args := #[] }) ∧ (a.put o.dst v).tmps.size = n ∧
     (∀ (j : Nat) (o' : Oper), (all.take k)[j]? = some o' → upd s i j = true → ∀ d, o'.dst = some d → (ev j).Rel G P m' z ((a.put o.dst v).tmps.getD d undef)) ∧
     (∀ e ∈ st.env, (∀ (j : Nat) (o : Oper), (all.take k)[j]? = some o → o.dst = some e.1 → upd s i j = false) → e.2.2.Rel G P m' z ((a.put o.dst v).tmps.getD e.1 undef)) := by
   intro v w' m'' hm' hM' hv
   rw [hd]
   refine ⟨m'', hm.trans hm', hM', by simp [Act.put, hdf], by simp [Act.put, hsz], fun j oj hoj hu e hoe => ?_, fun e he hno => ?_⟩
   ·by_cases hji : j = i
    ·subst hji
     rw [hit] at hoj; injection hoj with hoj; subst hoj
     rw [hd] at hoe; injection hoe with hoe; subst hoe
     simpa [Act.put, hsz, hdn'] using hv
    ·unfold upd at hu
     rw [if_neg hji] at hu
     have h1 := (hev j oj hoj hu e hoe).mono hm'
     have hne : d ≠ e := fun x => by
      subst x
      exact hji (hD.ne j i d (dj_iff.2 ⟨oj, hoj, hoe⟩) (dj_iff.2 ⟨o, hit, hd⟩))
     simpa [Act.put, Array.getElem?_setIfInBounds_ne hne] using h1
   ·have hne : d ≠ e.1 := fun x => by
     have := hno i o hit (by rw [hd, x])
     simp [upd] at this
    have h1 := (hold e he fun j oj hoj hod => by
     have := hno j oj hoj hod
     unfold upd at this
     split at this
     ·cases this
     ·exact this).mono hm'
    simpa [Act.put, Array.getElem?_setIfInBounds_ne hne] using h1
  have run : Exec G P Γ D all k st ev i o → Step P o a w (fun v w' => ∃ m', M.le m m' ∧ MemS G W0 L0 T0 st.L st.T m' z w' ∧ ((a.put o.dst v).defers = δ.map fun D => { target := .collected D, args := #[] }) ∧ (a.put o.dst v).tmps.size = n ∧
     (∀ (j : Nat) (o' : Oper), (all.take k)[j]? = some o' → upd s i j = true → ∀ d, o'.dst = some d → (ev j).Rel G P m' z ((a.put o.dst v).tmps.getD d undef)) ∧
     (∀ e ∈ st.env, (∀ (j : Nat) (o : Oper), (all.take k)[j]? = some o → o.dst = some e.1 → upd s i j = false) → e.2.2.Rel G P m' z ((a.put o.dst v).tmps.getD e.1 undef))) := by
   rintro ⟨R, b, ρ, hR, hb, he, hrd⟩
   obtain ⟨dst, op, ty, pos, aft, g⟩ := o
   simp only at hd
   subst hd
   refine (openOp_ok (d := d) hdf hsz hMe (reads hrd) R b hR hb).imp fun v w' hq => ?_
   obtain ⟨m'', h1, h2, h3⟩ := hq
   exact next v w' m'' h1 h2 (by rw [he]; exact h3)
  have skip : ev i = .one .und → ∃ m', M.le m m' ∧ MemS G W0 L0 T0 st.L st.T m' z w ∧ ((a.put o.dst undef).defers = δ.map fun D => { target := .collected D, args := #[] }) ∧ (a.put o.dst undef).tmps.size = n ∧
     (∀ (j : Nat) (o' : Oper), (all.take k)[j]? = some o' → upd s i j = true → ∀ d, o'.dst = some d → (ev j).Rel G P m' z ((a.put o.dst undef).tmps.getD d undef)) ∧
     (∀ e ∈ st.env, (∀ (j : Nat) (o : Oper), (all.take k)[j]? = some o → o.dst = some e.1 → upd s i j = false) → e.2.2.Rel G P m' z ((a.put o.dst undef).tmps.getD e.1 undef)) :=
   fun he => next undef w m' (M.le.refl m') hMe (by rw [he]; rfl)
  cases hg : o.guard with
  | none =>
   rw [hg] at hop
   have hw : Region.wanted o (yielded all.toArray a.tmps) = true := by simp [Region.wanted, hg]
   rw [if_pos hw]
   exact run hop
  | some gb =>
   obtain ⟨g, b⟩ := gb
   rw [hg] at hop
   obtain ⟨hgp, _, dg, hdg, hdgn, hx⟩ := hop
   obtain ⟨og, hog, hogd⟩ := dj_iff.1 hdg
   have hgv := hev g og hog (hpre g hgp) dg hogd
   rcases hx with ⟨x, h1, h2, h3⟩ | ⟨h1, h2⟩
   ·rw [h1] at hgv
    have hv : a.tmps.getD dg undef = .bool x := RV_bool hgv.1
    have hy := yielded_bool (all := all) hsz (dj_all hdg) hdgn hv
    by_cases hxb : x = b
    ·have hw : Region.wanted o (yielded all.toArray a.tmps) = true := by simp [Region.wanted, hg, hy, hxb]
     rw [if_pos hw]
     exact run (h2 hxb)
    ·have hw : ¬ Region.wanted o (yielded all.toArray a.tmps) = true := by simp [Region.wanted, hg, hy, hxb]
     rw [if_neg hw]
     exact skip (h3 hxb)
   ·rw [h1] at hgv
    have hv : a.tmps.getD dg undef = undef := hgv
    have hy := yielded_undef (dj_all hdg) hv
    have hw : ¬ Region.wanted o (yielded all.toArray a.tmps) = true := by simp [Region.wanted, hg, hy]
    rw [if_neg hw]
    exact skip h2
 ·rintro s a w ⟨m', hm, hMe, hdf, hsz, hev, hold⟩ hall
  have hEf : EnvR G P m' z stf.env a := by
   intro e he
   rcases hC.env e he with ⟨j, hj, h3, h4, _⟩ | ⟨h3, h4⟩
   ·obtain ⟨o, ho, hod⟩ := dj_iff.1 h3
    rw [← h4]
    exact hev j o ho (hall j (get_all ho).2 (List.getElem?_eq_some_iff.1 (get_all ho).1).1) e.1 hod
   ·refine hold e h4 fun j o ho hod => ?_
    exact absurd (dj_iff.2 ⟨o, ho, hod⟩) (h3 j (List.getElem?_eq_some_iff.1 ho).1)
  have hSf : Sat G P δ n W0 L0 T0 m0 stf a w := ⟨⟨m', z, h0.trans hm, hEf, by rw [hC.L, hC.T]; exact hMe⟩, hdf, hsz⟩
  have hX : Ext st.c st stf := by
   refine ⟨fun q hq e he hl => ?_, fun q hq i s B hb hs => ⟨s, hs, by rw [hC.L] at hb; exact hb⟩⟩
   rcases hC.env e he with ⟨j, _, _, _, h5, _⟩ | ⟨_, h4⟩
   ·omega
   ·exact ⟨e.2.1, hl, h4⟩
  exact exOps_ok hK hSf fun st' a' w' q1 q2 q3 q4 => knil (hN st' a' w' q1 q2 (hX.trans (by rw [hC.c] at q3; exact q3)) (by rw [q4, hC.c]))
end
end Go.Proofs.YthbonoagbeilkaaGreat.Hay
set_option linter.unusedVariables false
set_option linter.unusedSimpArgs false
namespace Go.Proofs.YthbonoagbeilkaaGreat.Hay
section
variable {G : Sg} {P : Program} {δ : List Nat} {n : Nat} {W0 : Bse} {L0 : Rs} {T0 : List (Nat × Value)} {m m0 : M} {z : Cz} {st : St G} {a : Act} {w : World} {Γ : Tab P G} {D : List (CS P G)} {g : Option (Nat × Bool)} {all : List Oper} {k : Nat}
theorem S.comm {A B C : List (Nat × List Value)} {TL : List (Nat × Value)} (h : S W0 m w (A ++ (B ++ C)) TL) : S W0 m w (B ++ (A ++ C)) TL := by
 refine h.selL _ (fun i => if i < B.length then i + A.length else if i < B.length + A.length then i - B.length else i) (fun i e he => ?_) (fun i j hij => ?_)
 ·by_cases h1 : i < B.length
  ·rw [if_pos h1]
   rw [List.getElem?_append_left h1] at he
   rw [List.getElem?_append_right (by omega), List.getElem?_append_left (by omega), show i + A.length - A.length = i by omega]
   exact he
  ·rw [if_neg h1]
   rw [List.getElem?_append_right (by omega)] at he
   by_cases h2 : i < B.length + A.length
   ·rw [if_pos h2]
    rw [List.getElem?_append_left (by omega)] at he
    rw [List.getElem?_append_left (by omega)]
    exact he
   ·rw [if_neg h2]
    rw [List.getElem?_append_right (by omega)] at he
    rw [List.getElem?_append_right (by omega), List.getElem?_append_right (by omega), show i - A.length - B.length = i - B.length - A.length by omega]
    exact he
 ·split at hij <;> split at hij <;> (try split at hij) <;> (try split at hij) <;> omega
def FrOK (G : Sg) (m : M) (z : Cz) (done : Bool) (a : Act) : Sp G → Nat × List Value → Prop
 | .al d t x, e => match done with
  | true => a.tmps.getD d undef = .pointer (some ⟨e.1, 0, none⟩) ∧ (t.kd G).R m e.2 x
  | false => e.2 = []
 | .so i t x, e => ∃ p, fb z.b i = some p ∧ e.1 = p.1 ∧ match done with
  | true => (t.kd G).R m e.2 x
  | false => ∃ y, (t.kd G).R m e.2 y
def FrR (G : Sg) (m : M) (z : Cz) (s : Nat → Bool) (a : Act) : List (Nat × Sp G) → List (Nat × List Value) → Prop
 | [], [] => True
 | q :: r, e :: Fr => FrOK G m z (s q.1) a q.2 e ∧ FrR G m z s a r Fr
 | _, _ => False
theorem FrOK.step {m' : M} {b : Bool} {sp : Sp G} {e : Nat × List Value} {a' : Act} (h : FrOK G m z b a sp e) (hm : M.le m m') (ha : ∀ d t x, sp = .al d t x → a'.tmps.getD d undef = a.tmps.getD d undef) : FrOK G m' z b a' sp e := by
 cases sp with
 | al d t x =>
  cases b with
  | true => obtain ⟨h1, h2⟩ := h; exact ⟨by rw [ha d t x rfl]; exact h1, (t.kd G).mono hm h2⟩
  | false => exact h
 | so i t x =>
  obtain ⟨p, h1, h2, h3⟩ := h
  cases b with
  | true => exact ⟨p, h1, h2, (t.kd G).mono hm h3⟩
  | false => obtain ⟨y, h3⟩ := h3; exact ⟨p, h1, h2, y, (t.kd G).mono hm h3⟩
theorem FrR.step {m' : M} {s s' : Nat → Bool} {a' : Act} : ∀ {sps : List (Nat × Sp G)} {Fr : List (Nat × List Value)}, FrR G m z s a sps Fr → M.le m m' → (∀ q ∈ sps, s' q.1 = s q.1 ∧ ∀ d t x, q.2 = .al d t x → a'.tmps.getD d undef = a.tmps.getD d undef) → FrR G m' z s' a' sps Fr := by
 intro sps
 induction sps with
 | nil => intro Fr h _ _; cases Fr with | nil => trivial | cons e Fr => exact h.elim
 | cons q r ih =>
  intro Fr h hm hq
  cases Fr with
  | nil => exact h.elim
  | cons e Fr =>
   obtain ⟨h1, h2⟩ := h
   obtain ⟨q1, q2⟩ := hq q (by simp)
   exact ⟨by rw [q1]; exact h1.step hm q2, ih h2 hm fun x hx => hq x (by simp [hx])⟩
theorem FrR.zz {z' : Cz} {s : Nat → Bool} (hz : ∀ i p, fb z.b i = some p → fb z'.b i = some p) : ∀ {sps : List (Nat × Sp G)} {Fr : List (Nat × List Value)}, FrR G m z s a sps Fr → FrR G m z' s a sps Fr := by
 intro sps
 induction sps with
 | nil => intro Fr h; cases Fr with | nil => trivial | cons e Fr => exact h.elim
 | cons q r ih =>
  intro Fr h
  cases Fr with
  | nil => exact h.elim
  | cons e Fr =>
   obtain ⟨h1, h2⟩ := h
   refine ⟨?_, ih h2⟩
   obtain ⟨j, sp⟩ := q
   cases sp with
   | al d t x => exact h1
   | so i t x => obtain ⟨p, k1, k2⟩ := h1; exact ⟨p, hz i p k1, k2⟩
theorem FrR.set {s : Nat → Bool} : ∀ {sps : List (Nat × Sp G)} {Fr : List (Nat × List Value)} {i : Nat} {sp : Sp G}, FrR G m z s a sps Fr → (i, sp) ∈ sps → (sps.map Prod.fst).Nodup →
  ∃ p e, Fr[p]? = some e ∧ FrOK G m z (s i) a sp e ∧ ∀ (m' : M) (a' : Act) (e' : Nat × List Value), M.le m m' → FrOK G m' z true a' sp e' → (∀ q ∈ sps, q.1 ≠ i → ∀ d t x, q.2 = .al d t x → a'.tmps.getD d undef = a.tmps.getD d undef) → FrR G m' z (upd s i) a' sps (Fr.set p e') := by
 intro sps
 induction sps with
 | nil => intro Fr i sp _ hi; cases hi
 | cons q r ih =>
  intro Fr i sp h hi hn
  cases Fr with
  | nil => exact h.elim
  | cons e Fr =>
   obtain ⟨h1, h2⟩ := h
   simp only [List.map_cons, List.nodup_cons] at hn
   obtain ⟨hn1, hn2⟩ := hn
   rcases List.mem_cons.1 hi with hq | hi
   ·subst hq
    refine ⟨0, e, rfl, h1, fun m' a' e' hm he ha => ⟨?_, ?_⟩⟩
    ·rw [show upd s i i = true from if_pos rfl]; exact he
    ·refine h2.step hm fun x hx => ?_
     have hne : x.1 ≠ i := fun e => by
      have h5 := List.mem_map_of_mem (f := Prod.fst) hx
      rw [e] at h5; exact hn1 h5
     exact ⟨if_neg hne, ha x (by simp [hx]) hne⟩
   ·obtain ⟨p, e1, k1, k2, k3⟩ := ih h2 hi hn2
    have hne : q.1 ≠ i := fun e => hn1 (by rw [e]; exact List.mem_map_of_mem (f := Prod.fst) hi)
    refine ⟨p + 1, e1, k1, k2, fun m' a' e' hm he ha => ⟨?_, k3 m' a' e' hm he fun x hx => ha x (by simp [hx])⟩⟩
    rw [show upd s i q.1 = s q.1 from if_neg hne]
    exact h1.step hm (ha q (by simp) hne)
theorem gone_init {c : Nat} {X : List (Nat × List Value)} {TL : List (Nat × Value)} {Ls : List (Nat × BC G)} {Lc : List (Nat × List Value)} (h1 : LR G m Ls z.b Lc) (hS : S W0 m w (Lc ++ X) TL) : ∀ {gs : List (Option Nat)}, gOK (lvOf Ls) gs = true →
  ∃ (Lc' Fr : List (Nat × List Value)), LR G m (goneL c gs Ls) z.b Lc' ∧ S W0 m w (Fr ++ (Lc' ++ X)) TL ∧ (∀ j, (∀ o ∈ gs, o ≠ some j) → fb (goneL c gs Ls) j = fb Ls j) ∧
   (∀ sps : List (Nat × Sp G), sps.map (fun q => q.2.blk) = gs → (∀ q ∈ sps, ∀ i t x, q.2 = .so i t x → ∃ y, lvOf Ls i = some (.dat t y)) → FrR G m z (fun _ => false) a sps Fr) := by
 intro gs
 induction gs with
 | nil =>
  intro _
  refine ⟨Lc, [], h1, hS, fun _ _ => rfl, fun sps hs _ => ?_⟩
  cases sps with
  | nil => trivial
  | cons q r => simp at hs
 | cons o gs ih =>
  intro hg
  cases o with
  | none =>
   obtain ⟨Lc', Fr, k1, k2, k3, k4⟩ := ih hg
   refine ⟨Lc', (0, []) :: Fr, k1, k2.void 0, fun j hj => k3 j fun o ho => hj o (by simp [ho]), fun sps hs hq => ?_⟩
   cases sps with
   | nil => simp at hs
   | cons q r =>
    simp only [List.map_cons, List.cons.injEq] at hs
    obtain ⟨hs1, hs2⟩ := hs
    refine ⟨?_, k4 r hs2 fun x hx => hq x (by simp [hx])⟩
    obtain ⟨j, sp⟩ := q
    cases sp with
    | al d t x => exact rfl
    | so i t x => simp [Sp.blk] at hs1
  | some i =>
   simp only [gOK, Bool.and_eq_true] at hg
   obtain ⟨⟨hg1, hg2⟩, hg3⟩ := hg
   obtain ⟨Lc', Fr, k1, k2, k3, k4⟩ := ih hg3
   have hni : ∀ o ∈ gs, o ≠ some i := fun o ho e => by
    subst e
    have : gs.any (fun j => decide (j = some i)) = true := List.any_eq_true.2 ⟨some i, ho, by simp⟩
    rw [this] at hg2; cases hg2
   split at hg1
   ·rename_i t y hB
    obtain ⟨lv, hlv⟩ := lvOf_some hB
    have hlv' : fb (goneL c gs Ls) i = some (lv, .dat t y) := by rw [k3 i hni]; exact hlv
    obtain ⟨p, cs, j, g1, g2, g3, g4⟩ := k1.get hlv'
    have g5 := g4 (c, .gone) p.2 [] rfl
    rw [sb_self g1] at g5
    have e0 : (Fr ++ (Lc' ++ X))[Fr.length + j]? = some (p.1, cs) := by
     rw [List.getElem?_append_right (by omega), show Fr.length + j - Fr.length = j by omega]
     exact get_app g2
    have hS2 := k2.takeL e0
    have e1 : (Fr ++ (Lc' ++ X)).set (Fr.length + j) (p.1, []) = Fr ++ (Lc'.set j (p.1, []) ++ X) := by
     rw [List.set_append_right _ _ (by omega), show Fr.length + j - Fr.length = j by omega, set_app g2]
    rw [e1] at hS2
    refine ⟨_, (p.1, cs) :: Fr, g5, hS2, fun q hq => ?_, fun sps hs hq => ?_⟩
    ·show fb (sb (goneL c gs Ls) i (c, .gone)) q = _
     rw [fb_sb_ne (fun e => hq (some i) (by simp) (by rw [e]))]
     exact k3 q fun o ho => hq o (by simp [ho])
    ·cases sps with
     | nil => simp at hs
     | cons q r =>
      simp only [List.map_cons, List.cons.injEq] at hs
      obtain ⟨hs1, hs2⟩ := hs
      refine ⟨?_, k4 r hs2 fun x hx => hq x (by simp [hx])⟩
      obtain ⟨j', sp⟩ := q
      cases sp with
      | al d t x => simp [Sp.blk] at hs1
      | so i' t' x =>
       simp only [Sp.blk, Option.some.injEq] at hs1
       subst hs1
       obtain ⟨y', hy'⟩ := hq (j', .so i' t' x) (by simp) i' t' x rfl
       rw [hB] at hy'
       injection hy' with hy'
       injection hy' with e2 e3
       subst e2
       exact ⟨p, g1, rfl, y, g3⟩
   ·cases hg1
def gND : List (Option Nat) → Prop
 | [] => True
 | none :: r => gND r
 | some i :: r => (∀ o ∈ r, o ≠ some i) ∧ gND r
theorem gND_of {Lv : Nat → Option (BC G)} : ∀ {gs : List (Option Nat)}, gOK Lv gs = true → gND gs := by
 intro gs
 induction gs with
 | nil => intro _; trivial
 | cons o gs ih =>
  intro hg
  cases o with
  | none => exact ih hg
  | some i =>
   simp only [gOK, Bool.and_eq_true] at hg
   obtain ⟨⟨_, hg2⟩, hg3⟩ := hg
   refine ⟨fun o ho e => ?_, ih hg3⟩
   subst e
   have : gs.any (fun j => decide (j = some i)) = true := List.any_eq_true.2 ⟨some i, ho, by simp⟩
   rw [this] at hg2; cases hg2
theorem gone_at {c : Nat} {Ls : List (Nat × BC G)} : ∀ {gs : List (Option Nat)}, gOK (lvOf Ls) gs = true → ∀ i, some i ∈ gs → ∃ lv, fb (goneL c gs Ls) i = some (lv, .gone) := by
 intro gs
 induction gs with
 | nil => intro _ i hi; cases hi
 | cons o gs ih =>
  intro hg i hi
  cases o with
  | none => exact ih hg i (by simpa using hi)
  | some q =>
   simp only [gOK, Bool.and_eq_true] at hg
   obtain ⟨⟨hg1, _⟩, hg3⟩ := hg
   show ∃ lv, fb (sb (goneL c gs Ls) q (c, .gone)) i = some (lv, .gone)
   by_cases hq : q = i
   ·subst hq
    have key : ∀ {gs : List (Option Nat)} {q : Nat} {e : Nat × BC G}, fb Ls q = some e → ∃ e', fb (goneL c gs Ls) q = some e' := by
     intro gs
     induction gs with
     | nil => intro q e h; exact ⟨e, h⟩
     | cons o gs ih2 =>
      intro q e h
      cases o with
      | none => exact ih2 h
      | some j =>
       obtain ⟨e', he'⟩ := ih2 h
       show ∃ e', fb (sb (goneL c gs Ls) j (c, .gone)) q = some e'
       by_cases hj : j = q
       ·subst hj; exact ⟨_, fb_sb_eq he'⟩
       ·exact ⟨e', by rw [fb_sb_ne hj]; exact he'⟩
    split at hg1
    ·rename_i t y hB
     obtain ⟨lv, hlv⟩ := lvOf_some hB
     obtain ⟨e', he'⟩ := key hlv (gs := gs)
     exact ⟨c, fb_sb_eq he'⟩
    ·cases hg1
   ·rw [fb_sb_ne hq]
    rcases List.mem_cons.1 hi with h | h
    ·injection h with h; exact absurd h.symm hq
    ·exact ih hg3 i h
theorem Ext.gone {gs : List (Option Nat)} : Ext st.c st { st with L := goneL st.c gs st.L } := by
 induction gs with
 | nil => exact Ext.refl _ _
 | cons o gs ih =>
  cases o with
  | none => exact ih
  | some i => exact ih.trans (Ext.setB (st := { st with L := goneL st.c gs st.L }) (i := i) (B := .gone))
theorem sp_fin {X : List (Nat × List Value)} {TL : List (Nat × Value)} {nm : List (Nat × Value)} {s : Nat → Bool} : ∀ {sps : List (Nat × Sp G)} {Fr Lc : List (Nat × List Value)} {st : St G} {z : Cz}, FrR G m z s a sps Fr → (∀ q ∈ sps, s q.1 = true) → gND (sps.map fun q => q.2.blk) → (∀ i, some i ∈ sps.map (fun q => q.2.blk) → ∃ lv, fb st.L i = some (lv, .gone)) →
  EnvR G P m z st.env a → LR G m st.L z.b Lc → S W0 m w (Lc ++ (Fr ++ X)) TL → Sfx z.b nm →
  ∃ (z' : Cz) (Lc' : List (Nat × List Value)), z'.t = z.t ∧ EnvR G P m z' (applySp sps st).env a ∧ LR G m (applySp sps st).L z'.b Lc' ∧ S W0 m w (Lc' ++ X) TL ∧ Sfx z'.b nm ∧ Ext st.c st (applySp sps st) ∧ (applySp sps st).c = st.c ∧ (applySp sps st).T = st.T := by
 intro sps
 induction sps with
 | nil =>
  intro Fr Lc st z hF _ _ _ hr h1 hS hsf
  cases Fr with
  | nil => exact ⟨z, Lc, rfl, hr, h1, hS, hsf, Ext.refl _ _, rfl, rfl⟩
  | cons e Fr => exact hF.elim
 | cons q r ih =>
  intro Fr Lc st z hF hs hnd hg hr h1 hS hsf
  cases Fr with
  | nil => exact hF.elim
  | cons e Fr =>
   obtain ⟨hF1, hF2⟩ := hF
   have hq := hs q (by simp)
   have hs' : ∀ q ∈ r, s q.1 = true := fun x hx => hs x (by simp [hx])
   obtain ⟨j, sp⟩ := q
   simp only at hq
   rw [hq] at hF1
   have hS1 : S W0 m w (e :: (Lc ++ (Fr ++ X))) TL := S.comm (A := Lc) (B := [e]) (C := Fr ++ X) hS
   cases sp with
   | al d t x =>
    obtain ⟨f1, f2⟩ := hF1
    have hlen := h1.len.1
    have hr2 : EnvR G P m ⟨(e.1, undef) :: z.b, z.t⟩ ((st.push (.dat t x)).put d (.one (.blk st.L.length))).env a := by
     intro y hy
     rcases List.mem_cons.1 hy with rfl | hy
     ·exact ⟨_, by rw [← hlen]; exact fb_top, f1⟩
     ·exact (hr y (mem_rmk hy).1).z (Zle.pushB z _)
    have hnd' : gND (r.map fun q => q.2.blk) := hnd
    obtain ⟨z', Lc', k0, k1, k2, k3, k4, k5, k6, k7⟩ := ih (z := ⟨(e.1, undef) :: z.b, z.t⟩) (Lc := e :: Lc) (st := (st.push (.dat t x)).put d (.one (.blk st.L.length))) (hF2.zz fun i p h => fb_cons h) hs' hnd' (fun i hi => by
     obtain ⟨lv, h⟩ := hg i (by simp only [List.map_cons, List.mem_cons]; exact .inr hi)
     exact ⟨lv, fb_cons h⟩) hr2 ⟨rfl, f2, h1⟩ hS1 hsf.cons
    exact ⟨z', Lc', k0, k1, k2, k3, k4, Ext.push_put.trans k5, k6, k7⟩
   | so i t x =>
    obtain ⟨p, f1, f2, f3⟩ := hF1
    have hnd1 : (∀ o ∈ r.map (fun q => q.2.blk), o ≠ some i) ∧ gND (r.map fun q => q.2.blk) := hnd
    obtain ⟨lv, hlv⟩ := hg i (by simp [Sp.blk])
    obtain ⟨p', cs, j', g1, g2, g3, g4⟩ := h1.get hlv
    rw [f1] at g1; injection g1 with g1; subst g1
    have hcs : cs = [] := g3
    subst hcs
    have g5 := g4 (st.c, .dat t x) p.2 e.2 f3
    rw [sb_self f1] at g5
    have ee : e = (p.1, e.2) := by rw [← f2]
    rw [ee] at hS1
    have hS2 := hS1.putL (get_app (l0 := Fr ++ X) g2)
    rw [set_app g2] at hS2
    obtain ⟨z', Lc', k0, k1, k2, k3, k4, k5, k6, k7⟩ := ih (z := z) (st := st.setB i (.dat t x)) hF2 hs' hnd1.2 (fun q hq => by
     obtain ⟨lv', h⟩ := hg q (by simp only [List.map_cons, List.mem_cons]; exact .inr hq)
     exact ⟨lv', by
      show fb (sb st.L i _) q = _
      rw [fb_sb_ne (fun e => hnd1.1 (some q) hq (by rw [e]))]; exact h⟩) hr g5 hS2 hsf
    exact ⟨z', Lc', k0, k1, k2, k3, k4, Ext.setB.trans k5, k6, k7⟩
def SpF (G : Sg) (P : Program) (Γ : Tab P G) (n : Nat) (all : List Oper) (k : Nat) (Lv : Nat → Option (BC G)) (st0 : St G) (ev : Nat → EV G) (j : Nat) (sp : Sp G) : Prop :=
 ∃ o ρ, (all.take k)[j]? = some o ∧ isSp o = true ∧ dstOK n o.dst = true ∧ spOf Γ ρ Lv o = some sp ∧ Reads G all k st0 ev j o ρ
theorem Reads.congr {st0 : St G} {ev ev' : Nat → EV G} {j : Nat} {o : Oper} {ρ : Operand → Option (EV G)} (h : Reads G all k st0 ev j o ρ) (he : ∀ q, q < j → ev' q = ev q) : Reads G all k st0 ev' j o ρ := by
 intro x e hx
 have := h x e hx
 cases x with
 | tmp t =>
  rcases this with ⟨q, h1, h2, h3, h4, h5⟩ | h
  ·exact .inl ⟨q, h1, h2, h3, by rw [he q h2]; exact h4, h5⟩
  ·exact .inr h
 | _ => exact this
theorem OpF.congr {st0 : St G} {ev ev' : Nat → EV G} {j : Nat} {o : Oper} (h : OpF G P Γ D n all k st0 ev j o) (hD : Dis all k n) (ho : all[j]? = some o) (he : ∀ q, q < j + 1 → ev' q = ev q) : OpF G P Γ D n all k st0 ev' j o := by
 have hx : Exec G P Γ D all k st0 ev j o → Exec G P Γ D all k st0 ev' j o := by
  rintro ⟨R, b, ρ, h1, h2, h3, h4⟩
  exact ⟨R, b, ρ, h1, h2, by rw [he j (by omega)]; exact h3, h4.congr fun q hq => he q (by omega)⟩
 obtain ⟨d, h1, h2, h3⟩ := h
 refine ⟨d, h1, h2, ?_⟩
 cases hg : o.guard with
 | none => rw [hg] at h3; exact hx h3
 | some gb =>
  obtain ⟨g, b⟩ := gb
  rw [hg] at h3
  obtain ⟨k1, k2, dg, k3, k4, k5⟩ := h3
  have hgj := edgesOK_at hD.ed ho g k1
  refine ⟨k1, k2, dg, k3, k4, ?_⟩
  rw [he g (by omega), he j (by omega)]
  rcases k5 with ⟨x, q1, q2, q3⟩ | q
  ·exact .inl ⟨x, q1, fun hb => hx (q2 hb), q3⟩
  ·exact .inr q
structure AccOK (G : Sg) (P : Program) (Γ : Tab P G) (n : Nat) (all : List Oper) (k : Nat) (Lv : Nat → Option (BC G)) (st0 : St G) (ev : Nat → EV G) (i : Nat) (acc : List (Nat × Sp G)) : Prop where
 lt : ∀ q ∈ acc, q.1 < i
 f : ∀ q ∈ acc, SpF G P Γ n all k Lv st0 ev q.1 q.2
 nd : (acc.map Prod.fst).Nodup
 al : ∀ j o, j < i → (all.take k)[j]? = some o → isSp o = true → ∃ sp, (j, sp) ∈ acc
theorem AccOK.congr {Lv : Nat → Option (BC G)} {st0 : St G} {ev ev' : Nat → EV G} {i : Nat} {acc : List (Nat × Sp G)} (h : AccOK G P Γ n all k Lv st0 ev i acc) (he : ∀ q, q < i → ev' q = ev q) : AccOK G P Γ n all k Lv st0 ev' i acc :=
 ⟨h.lt, fun q hq => by
  obtain ⟨o, ρ, h1, h2, h3, h4, h5⟩ := h.f q hq
  exact ⟨o, ρ, h1, h2, h3, h4, h5.congr fun x hx => he x (by have := h.lt q hq; omega)⟩, h.nd, h.al⟩
theorem exOpenS_tr {ρ : Type} {K : St G → List (Nat × Sp G) → Option ρ} {r : ρ} {st0 : St G} {Lv : Nat → Option (BC G)} (hD : Dis all k n) : ∀ {os : List Oper} {i : Nat} {st : St G} {acc : List (Nat × Sp G)} {ev : Nat → EV G}, (all.take k).drop i = os → Cano G all k st0 ev i st → AccOK G P Γ n all k Lv st0 ev i acc →
  exOpenS n Γ D all k Lv i os st acc K = some r →
  ∃ ev' sps stf, (∀ j, j < i → ev' j = ev j) ∧ (∀ j o, i ≤ j → (all.take k)[j]? = some o → isSp o = false → OpF G P Γ D n all k st0 ev' j o) ∧ AccOK G P Γ n all k Lv st0 ev' (all.take k).length sps ∧ K stf sps = some r ∧ Cano G all k st0 ev' (all.take k).length stf := by
 intro os
 induction os with
 | nil =>
  intro i st acc ev hdr hc ha h
  have hlen : (all.take k).length ≤ i := by
   have := congrArg List.length hdr
   simp only [List.length_drop, List.length_nil] at this
   omega
  refine ⟨ev, acc, st, fun _ _ => rfl, fun j o hj ho => ?_, ⟨fun q hq => ?_, ha.f, ha.nd, fun j o hj ho => ha.al j o (by omega) ho⟩, h, ⟨hc.L, hc.T, hc.c, fun e he => ?_⟩⟩
  ·have := (List.getElem?_eq_some_iff.1 ho).1; omega
  ·obtain ⟨o, _, h1, _⟩ := ha.f q hq
   exact (List.getElem?_eq_some_iff.1 h1).1
  ·rcases hc.env e he with ⟨j, hj, h3, h4⟩ | ⟨h3, h4⟩
   ·obtain ⟨o, ho, _⟩ := dj_iff.1 h3
    exact .inl ⟨j, (List.getElem?_eq_some_iff.1 ho).1, h3, h4⟩
   ·refine .inr ⟨fun j hj => h3 j (by omega), h4⟩
 | cons o os ih =>
  intro i st acc ev hdr hc ha h
  have ho : (all.take k)[i]? = some o := by
   have := congrArg (·[0]?) hdr
   simpa using this
  have hoa : all[i]? = some o := (get_all ho).1
  have hdr' : (all.take k).drop (i + 1) = os := by rw [← List.drop_drop, hdr]; rfl
  unfold exOpenS at h
  split at h
  ·rename_i hsp
   split at h
   ·rename_i sp hdn hs
    have hR := vis_reads hD hoa hc
    have hc' : Cano G all k st0 ev (i + 1) (match o.dst with | some d => { st with env := rmk st.env d } | none => st) := by
     cases hd : o.dst with
     | none =>
      refine ⟨hc.L, hc.T, hc.c, fun e he => ?_⟩
      rcases hc.env e he with ⟨j, hj, h3⟩ | ⟨h3, h4⟩
      ·exact .inl ⟨j, by omega, h3⟩
      ·refine .inr ⟨fun j hj hdj => ?_, h4⟩
       rcases Nat.lt_or_ge j i with hji | hji
       ·exact h3 j hji hdj
       ·have : j = i := by omega
        subst this
        obtain ⟨o', ho', hd'⟩ := dj_iff.1 hdj
        rw [ho] at ho'; injection ho' with ho'; subst ho'
        rw [hd] at hd'; cases hd'
     | some d =>
      refine ⟨hc.L, hc.T, hc.c, fun e he => ?_⟩
      obtain ⟨he1, he2⟩ := mem_rmk he
      rcases hc.env e he1 with ⟨j, hj, h3⟩ | ⟨h3, h4⟩
      ·exact .inl ⟨j, by omega, h3⟩
      ·refine .inr ⟨fun j hj hdj => ?_, h4⟩
       rcases Nat.lt_or_ge j i with hji | hji
       ·exact h3 j hji hdj
       ·have : j = i := by omega
        subst this
        obtain ⟨o', ho', hd'⟩ := dj_iff.1 hdj
        rw [ho] at ho'; injection ho' with ho'; subst ho'
        rw [hd] at hd'; injection hd' with hd'
        exact he2 hd'.symm
    have ha' : AccOK G P Γ n all k Lv st0 ev (i + 1) (acc ++ [(i, sp)]) := by
     refine ⟨fun q hq => ?_, fun q hq => ?_, ?_, fun j o' hj ho' hs' => ?_⟩
     ·rcases List.mem_append.1 hq with hq | hq
      ·have := ha.lt q hq; omega
      ·simp only [List.mem_singleton] at hq; subst hq; simp
     ·rcases List.mem_append.1 hq with hq | hq
      ·exact ha.f q hq
      ·simp only [List.mem_singleton] at hq; subst hq
       exact ⟨o, _, ho, hsp, hdn, hs, hR⟩
     ·rw [List.map_append, List.nodup_append]
      refine ⟨ha.nd, by simp, fun x hx y hy => ?_⟩
      simp only [List.map_cons, List.map_nil, List.mem_singleton] at hy
      subst hy
      obtain ⟨q, hq, rfl⟩ := List.mem_map.1 hx
      have := ha.lt q hq
      omega
     ·rcases Nat.lt_or_ge j i with hji | hji
      ·obtain ⟨sp', h1⟩ := ha.al j o' hji ho' hs'
       exact ⟨sp', List.mem_append.2 (.inl h1)⟩
      ·have : j = i := by omega
       subst this
       exact ⟨sp, by simp⟩
    obtain ⟨ev', sps, stf, q1, q2, q3, q4, q5⟩ := ih hdr' hc' ha' h
    refine ⟨ev', sps, stf, fun j hj => q1 j (by omega), fun j o' hj ho' hs' => ?_, q3, q4, q5⟩
    rcases Nat.lt_or_ge i j with hij | hij
    ·exact q2 j o' (by omega) ho' hs'
    ·have : j = i := by omega
     subst this
     rw [ho] at ho'; injection ho' with ho'; subst ho'
     rw [hsp] at hs'; cases hs'
   ·cases h
  ·rename_i hsp
   obtain ⟨ev1, st1, p1, p2, p3, p4⟩ := exOpen_tr (os := [o]) (rest := os) hD hdr (fun o' ho' => by simp only [List.mem_singleton] at ho'; subst ho'; exact hsp) hc h
   have ha1 : AccOK G P Γ n all k Lv st0 ev1 (i + 1) acc := by
    have := ha.congr p1
    refine ⟨fun q hq => by have := ha.lt q hq; omega, this.f, this.nd, fun j o' hj ho' hs' => ?_⟩
    rcases Nat.lt_or_ge j i with hji | hji
    ·exact ha.al j o' hji ho' hs'
    ·have : j = i := by omega
     subst this
     rw [ho] at ho'; injection ho' with ho'; subst ho'
     rw [hsp] at hs'; cases hs'
   obtain ⟨ev', sps, stf, q1, q2, q3, q4, q5⟩ := ih hdr' p4 ha1 p3
   refine ⟨ev', sps, stf, fun j hj => by rw [q1 j (by omega)]; exact p1 j hj, fun j o' hj ho' hs' => ?_, q3, q4, q5⟩
   rcases Nat.lt_or_ge i j with hij | hij
   ·exact q2 j o' (by omega) ho' hs'
   ·have : j = i := by omega
    subst this
    have hop := p2 j o' (by omega) (by simp) ho'
    exact hop.congr hD (get_all ho').1 (fun q hq => q1 q (by omega))
theorem spOf_inv {Lv : Nat → Option (BC G)} {ρ : Operand → Option (EV G)} {o : Oper} {sp : Sp G} (h : spOf Γ ρ Lv o = some sp) :
  (∃ (d : Nat) (t : TypeId) (I : TI P G t), o.guard = none ∧ o.dst = some d ∧ o.op = .alloc t ∧ sp = .al d I.T I.z) ∨
  (∃ (t : TypeId) (x y : Operand) (I : TI P G t) (i : Nat) (b : AV G) (u : I.T.den G) (y0 : I.T.den G), o.guard = none ∧ o.dst = none ∧ o.op = .store t x y ∧ av? (ρ x) = some (.blk i) ∧ av? (ρ y) = some b ∧ Lv i = some (.dat I.T y0) ∧ b.as Γ I.T = some u ∧ sp = .so i I.T u) := by
 unfold spOf at h
 split at h
 ·rename_i d t hg hd ho
  split at h
  ·rename_i I _ _
   injection h with h
   exact .inl ⟨d, t, I, hg, hd, ho, h.symm⟩
  ·cases h
 ·rename_i t x y hg hd ho
  split at h
  ·rename_i I i b hI hx hy
   split at h
   ·rename_i c y0 hL
    split at h
    ·rename_i hc
     subst hc
     split at h
     ·rename_i u hu
      injection h with h
      exact .inr ⟨t, x, y, I, i, b, u, y0, hg, hd, ho, hx, hy, hL, hu, h.symm⟩
     ·cases h
    ·cases h
   ·cases h
  ·cases h
 ·cases h
theorem openS_ok {ρ : Type} {ro : Option Nat} {id : Nat} {K' : St G → Option ρ} {r : ρ} {N Rt : Act → World → Prop} {X : List (Nat × (Act → World → Prop))} (hmx : P.follows .mixedOrders = true) (hs : Sat G P δ n W0 L0 T0 m0 st a w) (hD : Dis all k n) (htl : tailOK all k = true)
  (hgk : gOK (lvOf st.L) (stG st (all.take k)) = true) (h : exOpenS n Γ D all k (lvOf st.L) 0 (all.take k) { st with L := goneL st.c (stG st (all.take k)) st.L } [] (fun st' sps => if sps.map (fun q => q.2.blk) = stG st (all.take k) then exOps n Γ D all (all.drop k) (applySp sps st') K' else none) = some r) (hN : Nxt G P δ n W0 L0 T0 m0 K' r st N) : K ro P (.region id all.toArray true) N X Rt a w := by
 obtain ⟨⟨m, z, h0, hr, hM⟩, hdf, hsz⟩ := hs
 obtain ⟨ev, sps, stf, _, hF0, hA, hK0, hC⟩ := exOpenS_tr (G := G) (P := P) (st0 := { st with L := goneL st.c (stG st (all.take k)) st.L }) (ev := fun _ => .one .und) hD (i := 0) rfl ⟨rfl, rfl, rfl, fun e he => .inr ⟨fun j hj => by omega, he⟩⟩ ⟨fun q hq => (by cases hq), fun q hq => (by cases hq), by simp, fun j o hj => (by omega)⟩ h
 have hF' : ∀ j o, (all.take k)[j]? = some o → isSp o = false → OpF G P Γ D n all k { st with L := goneL st.c (stG st (all.take k)) st.L } ev j o := fun j o ho => hF0 j o (Nat.zero_le _) ho
 split at hK0
 rotate_left
 ·cases hK0
 rename_i hgs
 have hK := hK0
 obtain ⟨Lc, Tc, h1, h2, hS, hsf⟩ := hM
 obtain ⟨Lc1, Fr1, k1, k2, _, k4⟩ := gone_init (a := a) (c := st.c) h1 hS hgk
 have hFr1 := k4 sps hgs (fun q hq i t x he => by
  obtain ⟨o, ρ, _, _, _, hs, _⟩ := hA.f q hq
  rcases spOf_inv hs with ⟨d, t', I, _, _, _, e⟩ | ⟨t', x', y', I, i', b, u, y0, _, _, _, _, _, e5, _, e7⟩
  ·rw [he] at e; cases e
  ·rw [he] at e7; injection e7 with e1 e2 e3; subst e1; subst e2; exact ⟨y0, e5⟩)
 have hM : MemS G W0 ⟨Fr1 ++ L0.l, L0.nm⟩ T0 (goneL st.c (stG st (all.take k)) st.L) st.T m z w := ⟨Lc1, Tc, k1, h2, k2.comm, hsf⟩
 have aldj : ∀ q ∈ sps, ∀ d t x, q.2 = .al d t x → dj (all.take k) q.1 = some d := by
  intro q hq d t x he
  obtain ⟨o, ρ, ho, _, _, hs, _⟩ := hA.f q hq
  rcases spOf_inv hs with ⟨d', t', I, _, hd, _, e⟩ | ⟨t', x', y', I, i', b, u, y0, _, _, _, _, _, _, _, e7⟩
  ·rw [he] at e; injection e with e1; subst e1; exact dj_iff.2 ⟨o, ho, hd⟩
  ·rw [he] at e7; cases e7
 refine kany (k := k) hmx hD.ed htl (fun s a w => ∃ m' Fr, M.le m m' ∧ FrR G m' z s a sps Fr ∧ MemS G W0 ⟨Fr ++ L0.l, L0.nm⟩ T0 (goneL st.c (stG st (all.take k)) st.L) st.T m' z w ∧ (a.defers = δ.map fun D => { target := .collected D, args := #[] }) ∧ a.tmps.size = n ∧
   (∀ (j : Nat) (o : Oper), (all.take k)[j]? = some o → isSp o = false → s j = true → ∀ d, o.dst = some d → (ev j).Rel G P m' z (a.tmps.getD d undef)) ∧
   (∀ e ∈ st.env, (∀ (j : Nat) (o : Oper), (all.take k)[j]? = some o → o.dst = some e.1 → s j = false) → e.2.2.Rel G P m' z (a.tmps.getD e.1 undef))) ?_ ?_ ?_
 ·exact ⟨m, Fr1, M.le.refl m, hFr1, hM.drew, hdf, hsz, (fun j o _ _ h => Bool.noConfusion h), fun e he _ => hr e he⟩
 ·rintro i o hio hik s a w ⟨m', Fr, hm, hFr, hMe, hdf, hsz, hev, hold⟩ hsi hpre hcl
  have hit := get_take hio hik
  -- what it may read holds now
  have reads : ∀ {ρ : Operand → Option (EV G)}, Reads G all k { st with L := goneL st.c (stG st (all.take k)) st.L } ev i o ρ → ∀ x e, ρ x = some e → e.Rel G P m' z (a.eval x) := by
   intro ρ hR x e hx
   have := hR x e hx
   cases x with
   | tmp t =>
    rcases this with ⟨q, h1, h2, h3, h4, hnq⟩ | ⟨⟨lv, h1⟩, h2⟩
    ·obtain ⟨oq, hoq, hod⟩ := dj_iff.1 h3
     rw [← h4]
     exact hev q oq hoq (hnq oq hoq) (hpre q h1) t hod
    ·refine hold _ h1 fun q oq hoq hod => ?_
     cases hsq : s q with
     | false => rfl
     | true =>
      have := hcl q oq (get_all hoq).1 hsq i (h2 q oq hoq hod)
      rw [hsi] at this; cases this
   | const v =>
    obtain ⟨b, h1, rfl⟩ := this
    exact cAV_rel h1
   | _ => exact this.elim
  cases hsp : isSp o with
  | true =>
   obtain ⟨sp, hsps⟩ := hA.al i o (List.getElem?_eq_some_iff.1 hit).1 hit hsp
   obtain ⟨o', ρ, ho', _, hdn, hs, hR⟩ := hA.f _ hsps
   simp only at ho'
   rw [hit] at ho'; injection ho' with ho'; subst ho'
   obtain ⟨p, e, g1, g2, g3⟩ := hFr.set hsps hA.nd
   rw [hsi] at g2
   have hns : ∀ (j : Nat) (oj : Oper), (all.take k)[j]? = some oj → isSp oj = false → j ≠ i := fun j oj hj hjs e => by
    subst e
    rw [hit] at hj; injection hj with hj; subst hj
    rw [hsp] at hjs; cases hjs
   obtain ⟨Lc, Tc, h1, h2, hS, hsf⟩ := hMe
   have e0 : (Lc ++ (Fr ++ L0.l))[Lc.length + p]? = some e := by
    rw [List.getElem?_append_right (by omega), show Lc.length + p - Lc.length = p by omega]
    exact get_app g1
   have e1 : ∀ e', (Lc ++ (Fr ++ L0.l)).set (Lc.length + p) e' = Lc ++ (Fr.set p e' ++ L0.l) := fun e' => by
    rw [List.set_append_right _ _ (by omega), show Lc.length + p - Lc.length = p by omega, set_app g1]
   rcases spOf_inv hs with ⟨d, t, I, hg, hd, hop, rfl⟩ | ⟨t, x, y, I, bi, b, u, y0, hg, hd, hop, hx, hy, hLv, hu, rfl⟩
   ·have hw : Region.wanted o (yielded all.toArray a.tmps) = true := by simp [Region.wanted, hg]
    rw [if_pos hw]
    obtain ⟨dst, op, ty, pos, aft, g⟩ := o
    simp only at hd hop hg
    subst hd; subst hop; subst hg
    have hdn' : d < n := Nat.le_of_ble_eq_true hdn
    refine (st_alloc hS I.hz (cs := I.zv.cells.toList) (by simp)).imp fun v w' hq => ?_
    obtain ⟨b, rfl, hS'⟩ := hq
    have hee : e = (e.1, []) := by
     have g2 : e.2 = [] := g2
     rw [← g2]
    rw [hee] at e0
    have hS2 := hS'.putL e0
    rw [e1] at hS2
    have hput : ∀ q, q ≠ d → (a.put (some d) (.pointer (some ⟨b, 0, none⟩))).tmps.getD q undef = a.tmps.getD q undef := fun q hq => by
     simp [Act.put, Array.getElem?_setIfInBounds_ne (Ne.symm hq)]
    refine ⟨m', Fr.set p (b, I.zv.cells.toList), hm, g3 m' _ _ (M.le.refl m') ⟨by simp [Act.put, hsz, hdn'], I.hzR m'⟩ (fun q hq hqi d' t' x' he => hput d' fun e => hqi ?_), ⟨Lc, Tc, h1, h2, hS2, hsf⟩, by simp [Act.put, hdf], by simp [Act.put, hsz], fun j oj hoj hjs hju dd hdd => ?_, fun e' he' hno => ?_⟩
    ·subst e
     exact hD.ne q.1 i _ (aldj q hq _ t' x' he) (dj_iff.2 ⟨_, hit, rfl⟩)
    ·have hji := hns j oj hoj hjs
     unfold upd at hju
     rw [if_neg hji] at hju
     rw [hput dd fun e => hji (hD.ne j i dd (dj_iff.2 ⟨oj, hoj, hdd⟩) (dj_iff.2 ⟨_, hit, by rw [e]⟩))]
     exact hev j oj hoj hjs hju dd hdd
    ·have hne : e'.1 ≠ d := fun e => by
      have := hno i _ hit (by rw [e])
      simp [upd] at this
     rw [hput _ hne]
     exact hold e' he' fun j oj hoj hod => by
      have := hno j oj hoj hod
      unfold upd at this
      split at this
      ·cases this
      ·exact this
   ·have hw : Region.wanted o (yielded all.toArray a.tmps) = true := by simp [Region.wanted, hg]
    rw [if_pos hw]
    obtain ⟨dst, op, ty, pos, aft, g⟩ := o
    simp only at hd hop hg
    subst hd; subst hop; subst hg
    obtain ⟨l, hE, hl⟩ := opEnv hdf hsz [x, y]
    obtain ⟨p1, q1, q2⟩ := av_rel (reads hR) hx
    obtain ⟨p2, q3, q4, yy, q5⟩ := g2
    rw [q1] at q3; injection q3 with q3; subst q3
    have hee : e = (p1.1, e.2) := by rw [← q4]
    rw [hee] at e0
    have hxl := hl x (by simp)
    rw [q2] at hxl
    refine (st_storeF hE hS I.ok StF_self hxl (hl y (by simp)) (AV.as_rel hu (av_rel (reads hR) hy)) e0 q5).imp fun v w' hq => ?_
    obtain ⟨cs', hc', hS'⟩ := hq
    rw [e1] at hS'
    refine ⟨m', Fr.set p (p1.1, cs'), hm, g3 m' _ _ (M.le.refl m') ⟨p1, q1, rfl, hc'⟩ (fun q hq hqi d' t' x' he => rfl), ⟨Lc, Tc, h1, h2, hS', hsf⟩, hdf, hsz, fun j oj hoj hjs hju dd hdd => ?_, fun e' he' hno => ?_⟩
    ·have hji := hns j oj hoj hjs
     unfold upd at hju
     rw [if_neg hji] at hju
     exact hev j oj hoj hjs hju dd hdd
    ·exact hold e' he' fun j oj hoj hod => by
      have := hno j oj hoj hod
      unfold upd at this
      split at this
      ·cases this
      ·exact this
  | false =>
  obtain ⟨d, hd, hdn, hop⟩ := hF' i o hit hsp
  have hdn' : d < n := Nat.le_of_ble_eq_true hdn
  have hqs : ∀ q ∈ sps, q.1 ≠ i ∧ ∀ d' t x, q.2 = .al d' t x → d' ≠ d := fun q hq => by
   have hqi : q.1 ≠ i := fun e => by
    obtain ⟨o', _, ho', hs', _⟩ := hA.f q hq
    rw [e, hit] at ho'; injection ho' with ho'; subst ho'
    rw [hsp] at hs'; cases hs'
   exact ⟨hqi, fun d' t x he e => by
    subst e
    exact hqi (hD.ne q.1 i _ (aldj q hq _ t x he) (dj_iff.2 ⟨o, hit, hd⟩))⟩
  have fr : ∀ (v : Value) (m'' : M), M.le m' m'' → FrR G m'' z (upd s i) (a.put o.dst v) sps Fr := fun v m'' hm'' => hFr.step hm'' fun q hq => by
   obtain ⟨c1, c2⟩ := hqs q hq
   refine ⟨if_neg c1, fun d' t x he => ?_⟩
   rw [hd]
   simp [Act.put, Array.getElem?_setIfInBounds_ne (Ne.symm (c2 d' t x he))]
  have next : ∀ (v : Value) (w' : World) (m'' : M), M.le m' m'' → MemS G W0 ⟨Fr ++ L0.l, L0.nm⟩ T0 (goneL st.c (stG st (all.take k)) st.L) st.T m'' z w' → (ev i).Rel G P m'' z v →
    ∃ m' Fr', M.le m m' ∧ FrR G m' z (upd s i) (a.put o.dst v) sps Fr' ∧ MemS G W0 ⟨Fr' ++ L0.l, L0.nm⟩ T0 (goneL st.c (stG st (all.take k)) st.L) st.T m' z w' ∧ ((a.put o.dst v).defers = δ.map fun D => { target := .collected D, args := #[] }) ∧ (a.put o.dst v).tmps.size = n ∧
     (∀ (j : Nat) (o' : Oper), (all.take k)[j]? = some o' → isSp o' = false → upd s i j = true → ∀ d, o'.dst = some d → (ev j).Rel G P m' z ((a.put o.dst v).tmps.getD d undef)) ∧
     (∀ e ∈ st.env, (∀ (j : Nat) (o : Oper), (all.take k)[j]? = some o → o.dst = some e.1 → upd s i j = false) → e.2.2.Rel G P m' z ((a.put o.dst v).tmps.getD e.1 undef)) := by
   intro v w' m'' hm' hM' hv
   refine ⟨m'', Fr, hm.trans hm', fr v m'' hm', hM', by rw [hd]; simp [Act.put, hdf], by rw [hd]; simp [Act.put, hsz], fun j oj hoj hjs hu e hoe => ?_, fun e he hno => ?_⟩ <;> rw [hd]
   ·by_cases hji : j = i
    ·subst hji
     rw [hit] at hoj; injection hoj with hoj; subst hoj
     rw [hd] at hoe; injection hoe with hoe; subst hoe
     simpa [Act.put, hsz, hdn'] using hv
    ·unfold upd at hu
     rw [if_neg hji] at hu
     have h1 := (hev j oj hoj hjs hu e hoe).mono hm'
     have hne : d ≠ e := fun x => by
      subst x
      exact hji (hD.ne j i d (dj_iff.2 ⟨oj, hoj, hoe⟩) (dj_iff.2 ⟨o, hit, hd⟩))
     simpa [Act.put, Array.getElem?_setIfInBounds_ne hne] using h1
   ·have hne : d ≠ e.1 := fun x => by
     have := hno i o hit (by rw [hd, x])
     simp [upd] at this
    have h1 := (hold e he fun j oj hoj hod => by
     have := hno j oj hoj hod
     unfold upd at this
     split at this
     ·cases this
     ·exact this).mono hm'
    simpa [Act.put, Array.getElem?_setIfInBounds_ne hne] using h1
  have run : Exec G P Γ D all k { st with L := goneL st.c (stG st (all.take k)) st.L } ev i o → Step P o a w (fun v w' => ∃ m' Fr', M.le m m' ∧ FrR G m' z (upd s i) (a.put o.dst v) sps Fr' ∧ MemS G W0 ⟨Fr' ++ L0.l, L0.nm⟩ T0 (goneL st.c (stG st (all.take k)) st.L) st.T m' z w' ∧ ((a.put o.dst v).defers = δ.map fun D => { target := .collected D, args := #[] }) ∧ (a.put o.dst v).tmps.size = n ∧
     (∀ (j : Nat) (o' : Oper), (all.take k)[j]? = some o' → isSp o' = false → upd s i j = true → ∀ d, o'.dst = some d → (ev j).Rel G P m' z ((a.put o.dst v).tmps.getD d undef)) ∧
     (∀ e ∈ st.env, (∀ (j : Nat) (o : Oper), (all.take k)[j]? = some o → o.dst = some e.1 → upd s i j = false) → e.2.2.Rel G P m' z ((a.put o.dst v).tmps.getD e.1 undef))) := by
   rintro ⟨R, b, ρ, hR, hb, he, hrd⟩
   obtain ⟨dst, op, ty, pos, aft, g⟩ := o
   simp only at hd
   subst hd
   refine (openOp_ok (d := d) hdf hsz hMe (reads hrd) R b hR hb).imp fun v w' hq => ?_
   obtain ⟨m'', h1, h2, h3⟩ := hq
   exact next v w' m'' h1 h2 (by rw [he]; exact h3)
  have skip : ev i = .one .und → ∃ m' Fr', M.le m m' ∧ FrR G m' z (upd s i) (a.put o.dst undef) sps Fr' ∧ MemS G W0 ⟨Fr' ++ L0.l, L0.nm⟩ T0 (goneL st.c (stG st (all.take k)) st.L) st.T m' z w ∧ ((a.put o.dst undef).defers = δ.map fun D => { target := .collected D, args := #[] }) ∧ (a.put o.dst undef).tmps.size = n ∧
     (∀ (j : Nat) (o' : Oper), (all.take k)[j]? = some o' → isSp o' = false → upd s i j = true → ∀ d, o'.dst = some d → (ev j).Rel G P m' z ((a.put o.dst undef).tmps.getD d undef)) ∧
     (∀ e ∈ st.env, (∀ (j : Nat) (o : Oper), (all.take k)[j]? = some o → o.dst = some e.1 → upd s i j = false) → e.2.2.Rel G P m' z ((a.put o.dst undef).tmps.getD e.1 undef)) :=
   fun he => next undef w m' (M.le.refl m') hMe (by rw [he]; rfl)
  cases hg : o.guard with
  | none =>
   rw [hg] at hop
   have hw : Region.wanted o (yielded all.toArray a.tmps) = true := by simp [Region.wanted, hg]
   rw [if_pos hw]
   exact run hop
  | some gb =>
   obtain ⟨g, b⟩ := gb
   rw [hg] at hop
   obtain ⟨hgp, hng, dg, hdg, hdgn, hx⟩ := hop
   obtain ⟨og, hog, hogd⟩ := dj_iff.1 hdg
   have hgv := hev g og hog (hng og hog) (hpre g hgp) dg hogd
   rcases hx with ⟨x, h1, h2, h3⟩ | ⟨h1, h2⟩
   ·rw [h1] at hgv
    have hv : a.tmps.getD dg undef = .bool x := RV_bool hgv.1
    have hy := yielded_bool (all := all) hsz (dj_all hdg) hdgn hv
    by_cases hxb : x = b
    ·have hw : Region.wanted o (yielded all.toArray a.tmps) = true := by simp [Region.wanted, hg, hy, hxb]
     rw [if_pos hw]
     exact run (h2 hxb)
    ·have hw : ¬ Region.wanted o (yielded all.toArray a.tmps) = true := by simp [Region.wanted, hg, hy, hxb]
     rw [if_neg hw]
     exact skip (h3 hxb)
   ·rw [h1] at hgv
    have hv : a.tmps.getD dg undef = undef := hgv
    have hy := yielded_undef (dj_all hdg) hv
    have hw : ¬ Region.wanted o (yielded all.toArray a.tmps) = true := by simp [Region.wanted, hg, hy]
    rw [if_neg hw]
    exact skip h2
 ·rintro s a w ⟨m', Fr, hm, hFr, ⟨Lc, Tc, h1, h2, hS, hsf⟩, hdf, hsz, hev, hold⟩ hall
  have hEf : EnvR G P m' z stf.env a := by
   intro e he
   rcases hC.env e he with ⟨j, hj, h3, h4, _, hns⟩ | ⟨h3, h4⟩
   ·obtain ⟨o, ho, hod⟩ := dj_iff.1 h3
    rw [← h4]
    exact hev j o ho (hns o ho) (hall j (get_all ho).2 (List.getElem?_eq_some_iff.1 (get_all ho).1).1) e.1 hod
   ·refine hold e h4 fun j o ho hod => ?_
    exact absurd (dj_iff.2 ⟨o, ho, hod⟩) (h3 j (List.getElem?_eq_some_iff.1 ho).1)
  obtain ⟨z', Lc', c0, c1, c2, c3, c4, c5, c6, c7⟩ := sp_fin (st := stf) hFr (fun q hq => by
   obtain ⟨o, _, ho, _⟩ := hA.f q hq
   exact hall q.1 (get_all ho).2 (List.getElem?_eq_some_iff.1 (get_all ho).1).1) (by rw [hgs]; exact gND_of hgk) (fun i hi => by rw [hgs] at hi; rw [hC.L]; exact gone_at hgk i hi) hEf (by rw [hC.L]; exact h1) hS hsf
  have hSf : Sat G P δ n W0 L0 T0 m0 (applySp sps stf) a w := ⟨⟨m', z', h0.trans hm, c1, Lc', Tc, c2, by rw [c7, c0, hC.T]; exact h2, c3, c4⟩, hdf, hsz⟩
  have hX : Ext st.c st stf := by
   refine (Ext.gone (st := st) (gs := stG st (all.take k))).trans ⟨fun q hq e he hl => ?_, fun q hq i s B hb hs => ⟨s, hs, by rw [hC.L] at hb; exact hb⟩⟩
   rcases hC.env e he with ⟨j, _, _, _, h5, _⟩ | ⟨_, h4⟩
   ·have h5 : e.2.1 = st.c := h5
    omega
   ·exact ⟨e.2.1, hl, h4⟩
  have hcc : stf.c = st.c := hC.c
  rw [hcc] at c5 c6
  exact exOps_ok hK hSf fun st' a' w' q1 q2 q3 q4 => knil (hN st' a' w' q1 q2 ((hX.trans c5).trans (by rw [c6] at q3; exact q3)) (by rw [q4, c6]))

end
end Go.Proofs.YthbonoagbeilkaaGreat.Hay
set_option linter.unusedVariables false
set_option linter.unusedSimpArgs false
namespace Go.Proofs.YthbonoagbeilkaaGreat.Hay
inductive Sh where
 | dat (t : Ty) (o : Option Nat)
 | ptr (t : Ty)
 | fn1 (a b : Ty)
 | fn2 (a c b : Ty)
def Sh.den (G : Sg) : Sh → Type
 | .dat t _ => t.den G
 | .ptr t => t.den G
 | .fn1 a b => a.den G → Option (b.den G)
 | .fn2 a c b => a.den G → c.den G → Option (b.den G)
inductive It where
 | v (q lv : Nat) (s : Sh)
 | b (i lv : Nat) (t : Ty)
 | a (i lv : Nat) (t : Ty) (n : Option Nat)
def It.den (G : Sg) : It → Type
 | .v _ _ s => s.den G
 | .b _ _ t => t.den G
 | .a _ _ t _ => List (t.den G)
def denI (G : Sg) : List It → Type
 | [] => Unit
 | [i] => i.den G
 | i :: i' :: r => i.den G × denI G (i' :: r)
def hdI (G : Sg) (i : It) : (r : List It) → denI G (i :: r) → i.den G
 | [], x => x
 | _ :: _, x => x.1
def tlI (G : Sg) (i : It) : (r : List It) → denI G (i :: r) → denI G r
 | [], _ => ()
 | _ :: _, x => x.2
def mkI (G : Sg) (i : It) : (r : List It) → i.den G → denI G r → denI G (i :: r)
 | [], x, _ => x
 | _ :: _, x, y => (x, y)
inductive Fx where
 | blk (i : Nat)
 | own (i : Nat)
 | nils
 | und
section
variable {G : Sg} {P : Program}
def Sh.mk (G : Sg) : (s : Sh) → s.den G → AV G
 | .dat t o, x => .dat t x o
 | .ptr t, x => .ptr t x
 | .fn1 a b, f => .fn1 a b f
 | .fn2 a c b, f => .fn2 a c b f
def Fx.mk (G : Sg) : Fx → AV G
 | .blk i => .blk i
 | .own i => .own i
 | .nils => .nils
 | .und => .und
def Fx.is : Fx → AV G → Bool
 | .blk i, .blk j => Nat.beq i j
 | .own i, .own j => Nat.beq i j
 | .nils, .nils => true
 | .und, .und => true
 | _, _ => false
def BC.of (G : Sg) : (i : It) → i.den G → BC G
 | .v _ _ _, _ => .gone
 | .b _ _ t, x => .dat t x
 | .a _ _ t n, x => .arr t n x
def itEnv (G : Sg) : (its : List It) → denI G its → List (Nat × Nat × EV G)
 | [], _ => []
 | .v q lv s :: r, x => (q, lv, .one (s.mk G (hdI G (.v q lv s) r x))) :: itEnv G r (tlI G (.v q lv s) r x)
 | .b i lv t :: r, x => itEnv G r (tlI G (.b i lv t) r x)
 | .a i lv t n :: r, x => itEnv G r (tlI G (.a i lv t n) r x)
def itBlk (G : Sg) : (its : List It) → denI G its → Nat → Option (Nat × BC G)
 | [], _, _ => none
 | .v q lv s :: r, x, k => itBlk G r (tlI G (.v q lv s) r x) k
 | .b i lv t :: r, x, k => if Nat.beq i k then some (lv, .dat t (hdI G (.b i lv t) r x)) else itBlk G r (tlI G (.b i lv t) r x) k
 | .a i lv t n :: r, x, k => if Nat.beq i k then some (lv, .arr t n (hdI G (.a i lv t n) r x)) else itBlk G r (tlI G (.a i lv t n) r x) k
def buildL {α : Type} (f : Nat → α) : Nat → List α
 | 0 => []
 | n + 1 => f n :: buildL f n
def AV.dt? : AV G → Option ((t : Ty) × (t.den G) × Option Nat)
 | .dat t x o => some ⟨t, x, o⟩
 | _ => none
def AV.pt? : AV G → Option ((t : Ty) × t.den G)
 | .ptr t x => some ⟨t, x⟩
 | _ => none
def AV.f1? : AV G → Option ((a : Ty) × (b : Ty) × (a.den G → Option (b.den G)))
 | .fn1 a b f => some ⟨a, b, f⟩
 | _ => none
def AV.f2? : AV G → Option ((a : Ty) × (c : Ty) × (b : Ty) × (a.den G → c.den G → Option (b.den G)))
 | .fn2 a c b f => some ⟨a, c, b, f⟩
 | _ => none
theorem AV.dt_eq {b : AV G} {q : (t : Ty) × (t.den G) × Option Nat} (h : b.dt? = some q) : b = .dat q.1 q.2.1 q.2.2 := by
 cases b <;> simp [AV.dt?] at h
 subst h; rfl
theorem AV.pt_eq {b : AV G} {q : (t : Ty) × t.den G} (h : b.pt? = some q) : b = .ptr q.1 q.2 := by
 cases b <;> simp [AV.pt?] at h
 subst h; rfl
theorem AV.f1_eq {p : AV G} {q : (a : Ty) × (b : Ty) × (a.den G → Option (b.den G))} (h : p.f1? = some q) : p = .fn1 q.1 q.2.1 q.2.2 := by
 cases p <;> simp [AV.f1?] at h
 subst h; rfl
theorem AV.f2_eq {p : AV G} {q : (a : Ty) × (c : Ty) × (b : Ty) × (a.den G → c.den G → Option (b.den G))} (h : p.f2? = some q) : p = .fn2 q.1 q.2.1 q.2.2.1 q.2.2.2 := by
 cases p <;> simp [AV.f2?] at h
 subst h; rfl
def tagB (nT : Nat) : Option Nat → Bool
 | some j => Nat.blt j nT
 | none => true
def shX (G : Sg) (nT : Nat) (s : Sh) (b : AV G) : Option (s.den G) :=
 match s with
 | .dat t o => (match b.dt? with
  | some q => if q.2.2 = o ∧ tagB nT o = true then castTy G q.1 t q.2.1 else none
  | none => none)
 | .ptr t => (match b.pt? with | some q => castTy G q.1 t q.2 | none => none)
 | .fn1 a b' => (match b.f1? with | some q => if h : q.1 = a ∧ q.2.1 = b' then some (h.1 ▸ h.2 ▸ q.2.2) else none | none => none)
 | .fn2 a c b' => (match b.f2? with | some q => if h : q.1 = a ∧ q.2.1 = c ∧ q.2.2.1 = b' then some (h.1 ▸ h.2.1 ▸ h.2.2 ▸ q.2.2.2) else none | none => none)
def shA (Γ : Tab P G) (nT : Nat) (s : Sh) (b : AV G) : Option (s.den G) :=
 match s with
 | .dat t none => b.as Γ t
 | s => shX G nT s b
def fitI (Γ : Tab P G) (nT : Nat) (st : St G) : (its : List It) → Option (denI G its)
 | [] => some ()
 | .v q lv s :: r => (match lke st.env q, fitI Γ nT st r with
  | some (lv', .one b), some y => if st.c ≤ lv ∨ lv' ≤ lv then (match (if st.c ≤ lv then shA Γ nT s b else shX G nT s b) with | some x => some (mkI G (.v q lv s) r x y) | none => none) else none
  | _, _ => none)
 | .b i lv t :: r => (match fb st.L i, fitI Γ nT st r with
  | some (lv', .dat t' x), some y => if st.c ≤ lv ∨ lv' ≤ lv then (match castTy G t' t x with | some x => some (mkI G (.b i lv t) r x y) | none => none) else none
  | _, _ => none)
 | .a i lv t n :: r => (match fb st.L i, fitI Γ nT st r with
  | some (lv', .arr t' n' x), some y => if (st.c ≤ lv ∨ lv' ≤ lv) ∧ n' = n then (match castTy G (.sl t') (.sl t) x with | some x => some (mkI G (.a i lv t n) r x y) | none => none) else none
  | _, _ => none)
def nilT (G : Sg) (q : Nat) (c : Ty) (st : St G) : St G :=
 match lke st.env q with
 | some (_, .one .nils) => { st with T := (c.kd G).sz :: st.T }.put q (.one (.dat (.sl c) [] (some st.T.length)))
 | _ => st
def renT (G : Sg) (q j : Nat) (st : St G) : St G :=
 match lke st.env q with
 | some (_, .one (.dat t x (some j'))) =>
  if j' = j then st else
  (match fb st.T j, fb st.T j' with
  | some s, some s' => if s = s' then { st with env := (q, st.c, .one (.dat t x (some j))) :: rmk (erEnv j' st.c (erEnv j st.c st.env)) q } else st
  | _, _ => st)
 | _ => st
def nilTs (G : Sg) : List It → St G → St G
 | [], st => st
 | .v q _ (.dat (.sl c) (some j)) :: r, st => nilTs G r (renT G q j (nilT G q c st))
 | _ :: r, st => nilTs G r st
structure Tm where
 fx : List (Nat × Nat × Fx)
 its : List It
 nb : Nat
 T : List Nat
def Tm.st (G : Sg) (T : Tm) (c : Nat) (x : denI G T.its) : St G :=
 { env := T.fx.map (fun e => (e.1, e.2.1, .one (e.2.2.mk G))) ++ itEnv G T.its x, c := c, L := buildL (fun i => match itBlk G T.its x i with | some e => e | none => (c, .gone)) T.nb, T := T.T }
def fxOK (st : St G) (nb : Nat) : List (Nat × Nat × Fx) → Bool
 | [] => true
 | (q, lv, f) :: r => (match lke st.env q with
  | some (lv', .one b) => (Nat.ble st.c lv || Nat.ble lv' lv) && f.is b && (match f with | .blk i => Nat.blt i nb | .own i => Nat.blt i nb | _ => true)
  | _ => false) && fxOK st nb r
def Tm.fit (Γ : Tab P G) (T : Tm) (st0 : St G) : Option (denI G T.its) :=
 let st := nilTs G T.its st0
 match fxOK st T.nb T.fx && Nat.ble T.nb st.L.length && decide (st.T.drop (st.T.length - T.T.length) = T.T) with
 | true => fitI Γ T.T.length st T.its
 | false => none
structure Lt where
 its : List It
 keep : List Nat
 nb : Nat
 T : List Nat
def keepEnv (env : List (Nat × Nat × EV G)) (d : Nat) : List Nat → List (Nat × Nat × EV G)
 | [] => []
 | q :: r => (match lke env q with | some (lv, e) => (q, min lv d, e) :: keepEnv env d r | none => keepEnv env d r)
def Lt.st (G : Sg) (T : Lt) (st : St G) (x : denI G T.its) : St G :=
 { env := itEnv G T.its x ++ keepEnv st.env st.c T.keep, c := st.c + 1, L := buildL (fun i => match itBlk G T.its x i with | some e => e | none => (match fb st.L i with | some e => (min e.1 st.c, e.2) | none => (0, .gone))) T.nb, T := T.T }
def itLv (d : Nat) : List It → Bool
 | [] => true
 | .v _ lv _ :: r => Nat.beq lv (d + 1) && itLv d r
 | .b _ lv _ :: r => Nat.beq lv (d + 1) && itLv d r
 | .a _ lv _ _ :: r => Nat.beq lv (d + 1) && itLv d r
def Lt.fit (Γ : Tab P G) (T : Lt) (st0 : St G) : Option (St G × denI G T.its) :=
 let st := nilTs G T.its st0
 match Nat.beq st.L.length T.nb && decide (st.T = T.T) && nodupN T.keep && itLv st.c T.its && T.keep.all (fun q => (lke st.env q).isSome) with
 | true => (match fitI Γ T.T.length st T.its with | some x => some (st, x) | none => none)
 | false => none
def itHas (k : Nat) : List It → Bool
 | [] => false
 | .v _ _ _ :: r => itHas k r
 | .b i _ _ :: r => Nat.beq i k || itHas k r
 | .a i _ _ _ :: r => Nat.beq i k || itHas k r
def backOK (T : Lt) (d : Nat) (st : St G) : Bool :=
 T.keep.all (fun q => match lke st.env q with | some (lv, _) => Nat.ble lv d | none => false) && Nat.ble T.nb st.L.length && decide (st.T.drop (st.T.length - T.T.length) = T.T) &&
  (List.range T.nb).all fun i => itHas i T.its || (match fb st.L i with | some (lv, _) => Nat.ble lv d | none => false)
def Lt.back (Γ : Tab P G) (T : Lt) (d : Nat) (st0 : St G) : Option (denI G T.its) :=
 let st := nilTs G T.its st0
 match backOK T d st with
 | true => fitI Γ T.T.length st T.its
 | false => none
end
inductive An (G : Sg) : Type → Type 1 where
 | o {ρ : Type} : An G ρ
 | s {ρ : Type} (l r : An G ρ) : An G ρ
 | c {ρ : Type} (l : An G ρ) (T : Tm) (J : denI G T.its → Option ρ) (r : An G ρ) : An G ρ
 | l {ρ : Type} (T : Lt) (b : An G (denI G T.its ⊕ ρ)) : An G ρ
 | b {ρ : Type} (x : An G ρ) : An G ρ
 | i {ρ : Type} (x y : An G ρ) : An G ρ
noncomputable section
variable {G : Sg} {P : Program}
def low (d : Nat) (st : St G) : St G := { st with c := d }
def ex (n : Nat) (Γ : Tab P G) (D : List (CS P G)) : Code → {ρ : Type} → An G ρ → St G → (St G → Option ρ) → (Nat → St G → Option ρ) → (St G → Option ρ) → Option ρ
 | .skip, _, _, st, N, _, _ => N st
 | .label _, _, _, st, N, _, _ => N st
 | .region _ ops dr, _, _, st, N, _, _ => exRegion n Γ D ops.toList dr st N
 | .seq x y, _, A, st, N, X, R => (match A with
  | .s l r => ex n Γ D x l st (fun st' => ex n Γ D y r st' N X R) X R
  | .c l T J r => ex n Γ D x l st (fun st' => match T.fit Γ st' with | some v => J v | none => none) X R
  | _ => ex n Γ D x .o st (fun st' => ex n Γ D y .o st' N X R) X R)
 | .cond c x y, _, A, st, N, X, R => (match av? (st.op c) with
  | some v => (match v.b? with
   | some b => (match A with
    | .i l r => if b = true then ex n Γ D x l st N X R else ex n Γ D y r st N X R
    | _ => if b = true then ex n Γ D x .o st N X R else ex n Γ D y .o st N X R)
   | none => none)
  | none => none)
 | .block id c, _, A, st, N, X, R => (match A with
  | .b a => ex n Γ D c a st N (fun j st' => match Nat.beq j id with | true => N st' | false => X j st') R
  | _ => ex n Γ D c .o st N (fun j st' => match Nat.beq j id with | true => N st' | false => X j st') R)
 | .scope c, _, A, st, N, X, R => (match A with
  | .b a => ex n Γ D c a st N X R
  | _ => ex n Γ D c .o st N X R)
 | .loop c, _, A, st, N, X, R => (match A with
  | .l T b => (match T.fit Γ st with
   | some (st1, x) => loopO (fun s => ex n Γ D c b (T.st G st1 s) (fun st' => match T.back Γ st.c st' with | some s' => some (.inl s') | none => none) (fun j st' => (X j (low st.c st')).map .inr) (fun st' => (R (low st.c st')).map .inr)) x
   | none => none)
  | _ => none)
 | .exit id, _, _, st, _, X, _ => X id st
 | .ret, _, _, st, _, _, R => R st
 | _, _, _, _, _, _, _ => none
def Obl (np n : Nat) (Γ : Tab P G) (D : List (CS P G)) : Code → {ρ : Type} → An G ρ → Nat → (St G → Option ρ) → (Nat → St G → Option ρ) → (St G → Option ρ) → Prop
 | .seq x y, _, A, d, N, X, R => (match A with
  | .s l r => Obl np n Γ D x l d (fun st' => ex n Γ D y r st' N X R) X R ∧ Obl np n Γ D y r d N X R
  | .c l T J r => Obl np n Γ D x l d (fun st' => match T.fit Γ st' with | some v => J v | none => none) X R ∧ Nat.ble np T.nb = true ∧ (∀ v, ex n Γ D y r (T.st G d v) N X R = J v) ∧ Obl np n Γ D y r d N X R
  | _ => True)
 | .cond _ x y, _, A, d, N, X, R => (match A with
  | .i l r => Obl np n Γ D x l d N X R ∧ Obl np n Γ D y r d N X R
  | _ => True)
 | .block id c, _, A, d, N, X, R => (match A with
  | .b a => Obl np n Γ D c a d N (fun j st' => match Nat.beq j id with | true => N st' | false => X j st') R
  | _ => True)
 | .scope c, _, A, d, N, X, R => (match A with
  | .b a => Obl np n Γ D c a d N X R
  | _ => True)
 | .loop c, _, A, d, N, X, R => (match A with
  | .l T b => Obl np n Γ D c b (d + 1) (fun st' => match T.back Γ d st' with | some s' => some (.inl s') | none => none) (fun j st' => (X j (low d st')).map .inr) (fun st' => (R (low d st')).map .inr)
  | _ => True)
 | _, _, _, _, _, _, _ => True
theorem Obl.o (np n : Nat) (Γ : Tab P G) (D : List (CS P G)) (c : Code) {ρ : Type} (d : Nat) (N : St G → Option ρ) (X : Nat → St G → Option ρ) (R : St G → Option ρ) : Obl np n Γ D c .o d N X R := by
 cases c <;> exact trivial
end
end Go.Proofs.YthbonoagbeilkaaGreat.Hay
set_option linter.unusedVariables false
set_option linter.unusedSimpArgs false
namespace Go.Proofs.YthbonoagbeilkaaGreat.Hay
section
variable {G : Sg} {P : Program} {δ : List Nat} {n : Nat} {W0 : Bse} {L0 : Rs} {T0 : List (Nat × Value)} {m m0 : M} {z : Cz} {st : St G} {a : Act} {w : World} {Γ : Tab P G} {D : List (CS P G)}
theorem fb_drop {α : Type} {l : List α} {k i : Nat} (h : i < (l.drop k).length) : fb (l.drop k) i = fb l i := by
  induction l generalizing k with
  | nil => simp
  | cons x l ih =>
    cases k with
    | zero => rfl
    | succ k =>
      simp only [List.drop_succ_cons] at h ⊢
      rw [ih h]
      have hi : i < l.length := by simp at h; omega
      have : Nat.beq i l.length = false := by
        cases hb : Nat.beq i l.length with
        | false => rfl
        | true => have := Nat.eq_of_beq_eq_true hb; omega
      simp [fb, this]
theorem LR.drop {Bs : List (Nat × BC G)} {ps : List (Nat × Value)} {es : List (Nat × List Value)} (h : LR G m Bs ps es) (k : Nat) : LR G m (Bs.drop k) (ps.drop k) (es.drop k) := by
  induction Bs generalizing ps es k with
  | nil => cases ps <;> cases es <;> first | exact h.elim | (simp; exact trivial)
  | cons B Bs ih =>
    cases ps with
    | nil => cases es <;> exact h.elim
    | cons p ps =>
      cases es with
      | nil => exact h.elim
      | cons e es =>
        cases k with
        | zero => exact h
        | succ k => exact ih h.2.2 k
theorem TRl.drop {ss : List Nat} {vs : List Value} {es : List (Nat × Value)} (h : TRl ss vs es) (k : Nat) : TRl (ss.drop k) (vs.drop k) (es.drop k) := by
  induction ss generalizing vs es k with
  | nil => cases vs <;> cases es <;> first | exact h.elim | (simp; exact trivial)
  | cons s ss ih =>
    cases vs with
    | nil => cases es <;> exact h.elim
    | cons v vs =>
      cases es with
      | nil => exact h.elim
      | cons e es =>
        cases k with
        | zero => exact h
        | succ k => exact ih h.2 k
theorem S.voids {L L' : List (Nat × List Value)} {TL : List (Nat × Value)} (h : S W0 m w L TL) (hv : ∀ (i : Nat) (e : Nat × List Value), L'[i]? = some e → e.2 = [] ∨ L[i]? = some e) : S W0 m w L' TL :=
  ⟨h.below, h.imm, fun i e he hne => (hv i e he).elim (fun x => absurd x hne) (fun x => h.own i e x hne),
   fun i j e e' he he' hij hne hne' => (hv i e he).elim (fun x => absurd x hne) (fun x => (hv j e' he').elim (fun y => absurd y hne') (fun y => h.nodup i j e e' x y hij hne hne')), h.tails, h.apart⟩
theorem buildL_len {α : Type} {f : Nat → α} : ∀ {n : Nat}, (buildL f n).length = n
  | 0 => rfl
  | n + 1 => by simp [buildL, buildL_len]
theorem fb_build {α : Type} {f : Nat → α} : ∀ {n i : Nat} {y : α}, fb (buildL f n) i = some y → i < n ∧ y = f i
  | 0, i, y, h => by simp [buildL, fb] at h
  | n + 1, i, y, h => by
    simp only [buildL, fb, buildL_len] at h
    split at h
    · rename_i e
      have := Nat.eq_of_beq_eq_true e
      subst this
      injection h with h
      exact ⟨by omega, h.symm⟩
    · have := fb_build h; exact ⟨by omega, this.2⟩
theorem LR.build {f : Nat → Nat × BC G} : ∀ {n : Nat} {Bs : List (Nat × BC G)} {ps : List (Nat × Value)} {es : List (Nat × List Value)}, LR G m Bs ps es → Bs.length = n → (∀ i, i < n → (f i).2 = .gone ∨ ∃ s, fb Bs i = some (s, (f i).2)) →
    ∃ es', LR G m (buildL f n) ps es' ∧ es'.length = es.length ∧ ∀ (i : Nat) (e : Nat × List Value), es'[i]? = some e → e.2 = [] ∨ es[i]? = some e
  | 0, Bs, ps, es, h, hl, _ => by
    have : Bs = [] := List.eq_nil_of_length_eq_zero hl
    subst this
    cases ps <;> cases es <;> first | exact h.elim | exact ⟨[], trivial, rfl, fun i e he => .inr he⟩
  | n + 1, [], ps, es, h, hl, _ => by simp at hl
  | n + 1, B :: Bs, [], es, h, hl, _ => by cases es <;> exact h.elim
  | n + 1, B :: Bs, p :: ps, [], h, hl, _ => h.elim
  | n + 1, B :: Bs, p :: ps, e :: es, h, hl, hf => by
    obtain ⟨h1, h2, h3⟩ := h
    have hl' : Bs.length = n := by simpa using hl
    obtain ⟨es', k1, k2, k3⟩ := LR.build (f := f) h3 hl' (fun i hi => by
      rcases hf i (by omega) with h | ⟨s, h⟩
      · exact .inl h
      · refine .inr ⟨s, ?_⟩
        have : Nat.beq i Bs.length = false := by
          cases hb : Nat.beq i Bs.length with
          | false => rfl
          | true => have := Nat.eq_of_beq_eq_true hb; omega
        simp only [fb, this] at h
        exact h)
    rcases hf n (by omega) with hg | ⟨s, hs⟩
    · refine ⟨(p.1, []) :: es', ⟨rfl, by rw [hg]; rfl, k1⟩, by simp [k2], fun i x hx => ?_⟩
      cases i with
      | zero => simp at hx; subst hx; exact .inl rfl
      | succ i => exact k3 i x (by simpa using hx)
    · have : fb (B :: Bs) n = some B := by rw [← hl']; exact fb_top
      rw [this] at hs
      injection hs with hs
      refine ⟨e :: es', ⟨h1, by rw [show (f n).2 = B.2 by rw [hs]]; exact h2, k1⟩, by simp [k2], fun i x hx => ?_⟩
      cases i with
      | zero => exact .inr (by simpa using hx)
      | succ i => exact k3 i x (by simpa using hx)
theorem MemS.cut {Ls : List (Nat × BC G)} {Ts T' : List Nat} {nb : Nat} {f : Nat → Nat × BC G} (h : MemS G W0 L0 T0 Ls Ts m z w) (hnb : nb ≤ Ls.length) (hf : ∀ i, i < nb → (f i).2 = .gone ∨ ∃ s, fb Ls i = some (s, (f i).2)) (hT : Ts.drop (Ts.length - T'.length) = T') (hnm : L0.nm.length ≤ nb) :
    ∃ z', MemS G W0 L0 T0 (buildL f nb) T' m z' w ∧ (∀ i p, i < nb → fb z.b i = some p → fb z'.b i = some p) ∧ (∀ j v, j < T'.length → fb z.t j = some v → fb z'.t j = some v) := by
  obtain ⟨Lc, Tc, h1, h2, hS, hsf⟩ := h
  have hl := h1.len
  have hlT := h2.len
  have d1 := h1.drop (Ls.length - nb)
  have hdl : (Ls.drop (Ls.length - nb)).length = nb := by simp; omega
  obtain ⟨es', k1, k2, k3⟩ := LR.build (f := f) d1 hdl (fun i hi => by
    rw [fb_drop (by omega)]; exact hf i hi)
  have d2 := h2.drop (Ts.length - T'.length)
  rw [hT] at d2
  have hT' : T'.length ≤ Ts.length := by
    have := congrArg List.length hT
    simp at this; omega
  refine ⟨⟨z.b.drop (Ls.length - nb), z.t.drop (Ts.length - T'.length)⟩, ⟨es', Tc.drop (Ts.length - T'.length), k1, d2, ?_, hsf.drop (by omega)⟩, fun i p hi hp => ?_, fun j v hj hv => ?_⟩
  · have hS1 := hS.dropL (Ls.length - nb)
    rw [List.drop_append_of_le_length (by omega)] at hS1
    have hS2 := hS1.dropT (Ts.length - T'.length)
    rw [List.drop_append_of_le_length (by omega)] at hS2
    refine hS2.voids fun i e he => ?_
    rw [List.getElem?_append] at he ⊢
    rw [k2] at he
    split at he
    · rename_i hlt
      rw [if_pos hlt]; exact k3 i e he
    · rename_i hlt
      rw [if_neg hlt]; exact .inr he
  · rw [fb_drop (by simp; omega)]; exact hp
  · rw [fb_drop (by simp; omega)]; exact hv
theorem nilT_ok {q : Nat} {c : Ty} (hs : Sat G P δ n W0 L0 T0 m0 st a w) : Sat G P δ n W0 L0 T0 m0 (nilT G q c st) a w ∧ Ext st.c st (nilT G q c st) ∧ (nilT G q c st).c = st.c := by
  unfold nilT
  split
  · rename_i lv he
    obtain ⟨⟨m, z, h0, hr, hM⟩, hdf, hsz⟩ := hs
    have hlen := hM.len
    obtain ⟨Lc, Tc, h1, h2, hS, hsf⟩ := hM
    have hv : a.tmps.getD q undef = .slice none 0 0 := hr _ (lke_mem he)
    refine ⟨⟨⟨m, ⟨z.b, .slice none 0 0 :: z.t⟩, h0, fun e he => ?_, Lc, ((c.kd G).sz, .slice none 0 0) :: Tc, h1, ⟨rfl, h2⟩, hS.tail0 _, hsf⟩, hdf, hsz⟩, (Ext.envL (st := st) (st' := { st with T := (c.kd G).sz :: st.T }) rfl rfl).trans (Ext.put (st := { st with T := (c.kd G).sz :: st.T })), rfl⟩
    rcases List.mem_cons.1 he with rfl | he
    · show RV _ m (a.tmps.getD q undef) _ ∧ Tag _ _ _
      rw [hv]
      refine ⟨RV_nil, ?_⟩
      show fb (.slice none 0 0 :: z.t) st.T.length = _
      rw [← hlen.2]; exact fb_top
    · exact ((hr e (mem_rmk he).1)).z (Zle.pushT z _)
  · exact ⟨hs, Ext.refl _ _, rfl⟩
theorem fb_of_lt {α : Type} : ∀ {l : List α} {i : Nat}, i < l.length → ∃ y, fb l i = some y := by
  intro l
  induction l with
  | nil => intro i h; simp at h
  | cons a l ih =>
    intro i h
    simp only [fb]
    split
    · exact ⟨_, rfl⟩
    · rename_i hb
      have : i ≠ l.length := fun e => by subst e; simp at hb
      simp at h
      exact ih (by omega)
theorem TRl.get2 {ss : List Nat} {vs : List Value} {es : List (Nat × Value)} (h : TRl ss vs es) {i s : Nat} {v : Value} (hs : fb ss i = some s) (hv : fb vs i = some v) :
    i < ss.length ∧ es[ss.length - 1 - i]? = some (s, v) ∧ ∀ v', TRl ss (sb vs i v') (es.set (ss.length - 1 - i) (s, v')) := by
  induction ss generalizing vs es with
  | nil => cases vs <;> simp [fb] at hs
  | cons s0 ss ih =>
    cases vs with
    | nil => cases es <;> exact h.elim
    | cons v0 vs =>
      cases es with
      | nil => exact h.elim
      | cons e es =>
        obtain ⟨h1, h2⟩ := h
        have hl : vs.length = ss.length := h2.len.1
        simp only [fb] at hs hv
        rw [hl] at hv
        split at hs
        · rename_i hi
          rw [if_pos hi] at hv
          injection hs with hs; injection hv with hv
          subst hs; subst hv
          have hi' := Nat.eq_of_beq_eq_true hi
          subst hi'
          have e0 : (s0 :: ss).length - 1 - ss.length = 0 := by simp
          rw [e0]
          refine ⟨by simp, by simp [h1], fun v' => ?_⟩
          simp only [sb, hl, hi, if_true, List.set_cons_zero]
          exact ⟨rfl, h2⟩
        · rename_i hi
          rw [if_neg hi] at hv
          obtain ⟨g0, g1, g2⟩ := ih h2 hs hv
          have e0 : (s0 :: ss).length - 1 - i = (ss.length - 1 - i) + 1 := by simp; omega
          rw [e0]
          refine ⟨by simp; omega, by simpa using g1, fun v' => ?_⟩
          simp only [sb, hl, hi, List.set_cons_succ]
          exact ⟨h1, g2 v'⟩
theorem S.swapT {TL : List (Nat × Value)} {L : List (Nat × List Value)} (h : S W0 m w L TL) {k1 k2 : Nat} {e1 e2 : Nat × Value} (h1 : TL[k1]? = some e1) (h2 : TL[k2]? = some e2) (hk : k1 ≠ k2) : S W0 m w L ((TL.set k1 e2).set k2 e1) := by
  refine h.selT _ (fun i => if i = k1 then k2 else if i = k2 then k1 else i) (fun i e he => ?_) (fun i j hij => ?_)
  · rw [List.getElem?_set] at he
    split at he
    · rename_i e
      subst e
      split at he
      · injection he with he; subst he
        rw [if_neg (fun e => hk e.symm), if_pos rfl]; exact h1
      · cases he
    · rename_i hn
      rw [List.getElem?_set] at he
      split at he
      · rename_i e
        subst e
        split at he
        · injection he with he; subst he
          rw [if_pos rfl]; exact h2
        · cases he
      · rename_i hn2
        rw [if_neg (fun e => hn2 e.symm), if_neg (fun e => hn e.symm)]; exact he
  · split at hij <;> split at hij <;> (try split at hij) <;> (try split at hij) <;> omega
theorem Ext.er2 {j k : Nat} : Ext st.c st { st with env := erEnv k st.c (erEnv j st.c st.env) } :=
  (Ext.er (st := st) (j := j)).trans (Ext.er (st := { st with env := erEnv j st.c st.env }) (j := k))
theorem renT_ok {q j : Nat} (hs : Sat G P δ n W0 L0 T0 m0 st a w) : Sat G P δ n W0 L0 T0 m0 (renT G q j st) a w ∧ Ext st.c st (renT G q j st) ∧ (renT G q j st).c = st.c := by
  unfold renT
  split
  · rename_i lv t x j' he
    split
    · exact ⟨hs, Ext.refl _ _, rfl⟩
    · rename_i hne
      split
      · rename_i s s' hj hj'
        split
        · rename_i hss
          subst hss
          obtain ⟨⟨m, z, h0, hr, hM⟩, hdf, hsz⟩ := hs
          have hlen := hM.len
          obtain ⟨Lc, Tc, h1, h2, hS, hsf⟩ := hM
          obtain ⟨hv, ht⟩ := hr _ (lke_mem he)
          simp only at hv ht
          have ht : fb z.t j' = some (a.tmps.getD q undef) := ht
          obtain ⟨u, hu⟩ := fb_of_lt (l := z.t) (i := j) (by rw [hlen.2]; exact fb_lt hj)
          obtain ⟨p1, p2, p3⟩ := h2.get2 hj hu
          obtain ⟨q1, q2, q3⟩ := (p3 (a.tmps.getD q undef)).get2 hj' (show fb (sb z.t j _) j' = _ by rw [fb_sb_ne (fun e => hne e.symm)]; exact ht)
          obtain ⟨_, r2, _⟩ := h2.get2 hj' ht
          have hk : st.T.length - 1 - j ≠ st.T.length - 1 - j' := by omega
          refine ⟨⟨⟨m, ⟨z.b, sb (sb z.t j (a.tmps.getD q undef)) j' u⟩, h0, fun e he => ?_, Lc, _, h1, q3 u, ?_, hsf⟩, hdf, hsz⟩, Ext.er2.trans (Ext.put (st := { st with env := erEnv j' st.c (erEnv j st.c st.env) }) (d := q)), rfl⟩
          · rcases List.mem_cons.1 he with rfl | he
            · refine ⟨hv, ?_⟩
              show fb (sb (sb z.t j (a.tmps.getD q undef)) j' u) j = _
              rw [fb_sb_ne hne, fb_sb_eq hu]
            · exact erEnv_rel (erEnv_rel hr) e (mem_rmk he).1
          · have := hS.swapT (k1 := st.T.length - 1 - j) (k2 := st.T.length - 1 - j') (by rw [List.getElem?_append_left (by have := h2.len.2; omega)]; exact p2) (by rw [List.getElem?_append_left (by have := h2.len.2; omega)]; exact r2) hk
            rw [List.set_append_left _ _ (by have := h2.len.2; omega), List.set_append_left _ _ (by have := h2.len.2; simp; omega)] at this
            exact this
        · exact ⟨hs, Ext.refl _ _, rfl⟩
      · exact ⟨hs, Ext.refl _ _, rfl⟩
  · exact ⟨hs, Ext.refl _ _, rfl⟩
theorem nilTs_ok : ∀ {its : List It} {st : St G}, Sat G P δ n W0 L0 T0 m0 st a w → Sat G P δ n W0 L0 T0 m0 (nilTs G its st) a w ∧ Ext st.c st (nilTs G its st) ∧ (nilTs G its st).c = st.c := by
  intro its
  induction its with
  | nil => intro st hs; exact ⟨hs, Ext.refl _ _, rfl⟩
  | cons i its ih =>
    intro st hs
    unfold nilTs
    split
    · rename_i heq
      cases heq
    · rename_i q lv c j r heq
      injection heq with h1 h2
      subst h2
      obtain ⟨k1, k2, k3⟩ := nilT_ok (q := q) (c := c) hs
      obtain ⟨l1, l2, l3⟩ := renT_ok (q := q) (j := j) k1
      obtain ⟨r1, r2, r3⟩ := ih l1
      rw [l3, k3] at r2 r3
      rw [k3] at l2
      exact ⟨r1, k2.trans (l2.trans r2), r3⟩
    · rename_i heq
      injection heq with h1 h2
      subst h2
      exact ih hs
theorem shX_eq {nT : Nat} {s : Sh} {b : AV G} {x : s.den G} (h : shX G nT s b = some x) : s.mk G x = b ∧ ∀ t j, s = .dat t (some j) → j < nT := by
  cases s with
  | dat t o =>
    unfold shX at h
    dsimp only at h
    cases hb : b.dt? with
    | none => simp [hb] at h
    | some q =>
      simp only [hb] at h
      have h' : (if q.2.2 = o ∧ tagB nT o = true then castTy G q.1 t q.2.1 else none) = some (show t.den G from x) := h
      clear h
      split at h'
      · rename_i hj
        obtain ⟨h1, hj⟩ := hj
        obtain ⟨e, h⟩ := castTy_some h'
        rw [AV.dt_eq hb]
        obtain ⟨t', x', o'⟩ := q
        simp only at e h1
        subst e; subst h1; subst h
        exact ⟨rfl, fun t j e => by injection e with e1 e2; rw [e2] at hj; exact Nat.le_of_ble_eq_true hj⟩
      · cases h'
  | ptr t =>
    unfold shX at h
    dsimp only at h
    cases hb : b.pt? with
    | none => simp [hb] at h
    | some q =>
      simp only [hb] at h
      obtain ⟨e, h⟩ := castTy_some h
      rw [AV.pt_eq hb]
      obtain ⟨t', x'⟩ := q
      simp only at e
      subst e; subst h
      exact ⟨rfl, fun t j e => by cases e⟩
  | fn1 c d =>
    unfold shX at h
    dsimp only at h
    cases hb : b.f1? with
    | none => simp [hb] at h
    | some q =>
      simp only [hb] at h
      split at h
      · rename_i hh
        rw [AV.f1_eq hb]
        obtain ⟨a', b', f⟩ := q
        obtain ⟨h1, h2⟩ := hh
        simp only at h1 h2
        subst h1; subst h2
        injection h with h; subst h
        exact ⟨rfl, fun t j e => by cases e⟩
      · cases h
  | fn2 c e d =>
    unfold shX at h
    dsimp only at h
    cases hb : b.f2? with
    | none => simp [hb] at h
    | some q =>
      simp only [hb] at h
      split at h
      · rename_i hh
        rw [AV.f2_eq hb]
        obtain ⟨a', c', b', f⟩ := q
        obtain ⟨h1, h2, h3⟩ := hh
        simp only at h1 h2 h3
        subst h1; subst h2; subst h3
        injection h with h; subst h
        exact ⟨rfl, fun t j e => by cases e⟩
      · cases h
theorem sh_z {nT : Nat} {s : Sh} {x : s.den G} {v : Value} {z' : Cz} (hr : (s.mk G x).Rel G P m z v) (hs : ∀ t j, s = .dat t (some j) → j < nT) (hz : ∀ j v, j < nT → fb z.t j = some v → fb z'.t j = some v) : (s.mk G x).Rel G P m z' v := by
  cases s with
  | dat t o =>
    refine ⟨hr.1, ?_⟩
    cases o with
    | none => trivial
    | some j => exact hz _ _ (hs t j rfl) hr.2
  | _ => exact hr
theorem shX_ok {nT : Nat} {s : Sh} {b : AV G} {x : s.den G} {v : Value} {z' : Cz} (h : shX G nT s b = some x) (hr : b.Rel G P m z v) (hz : ∀ j v, j < nT → fb z.t j = some v → fb z'.t j = some v) : (s.mk G x).Rel G P m z' v ∧ s.mk G x = b := by
  obtain ⟨h1, h2⟩ := shX_eq h
  rw [← h1] at hr
  exact ⟨sh_z hr h2 hz, h1⟩
theorem shA_ok {nT : Nat} {s : Sh} {b : AV G} {x : s.den G} {v : Value} {z' : Cz} (h : shA Γ nT s b = some x) (hr : b.Rel G P m z v) (hz : ∀ j v, j < nT → fb z.t j = some v → fb z'.t j = some v) : (s.mk G x).Rel G P m z' v := by
  cases s with
  | dat t o =>
    cases o with
    | none =>
      have h' : b.as Γ t = some x := h
      exact ⟨AV.as_rel h' hr, trivial⟩
    | some j =>
      have h' : shX G nT (.dat t (some j)) b = some x := h
      exact (shX_ok h' hr hz).1
  | ptr t =>
    have h' : shX G nT (.ptr t) b = some x := h
    exact (shX_ok h' hr hz).1
  | fn1 c d =>
    have h' : shX G nT (.fn1 c d) b = some x := h
    exact (shX_ok h' hr hz).1
  | fn2 c e d =>
    have h' : shX G nT (.fn2 c e d) b = some x := h
    exact (shX_ok h' hr hz).1
theorem itEnv_v {q lv : Nat} {s : Sh} {its : List It} {u : s.den G} {y : denI G its} : itEnv G (.v q lv s :: its) (mkI G (.v q lv s) its u y) = (q, lv, .one (s.mk G u)) :: itEnv G its y := by
  cases its <;> rfl
theorem itEnv_b {i lv : Nat} {t : Ty} {its : List It} {u : t.den G} {y : denI G its} : itEnv G (.b i lv t :: its) (mkI G (.b i lv t) its u y) = itEnv G its y := by
  cases its <;> rfl
theorem itEnv_a {i lv : Nat} {t : Ty} {nn : Option Nat} {its : List It} {u : List (t.den G)} {y : denI G its} : itEnv G (.a i lv t nn :: its) (mkI G (.a i lv t nn) its u y) = itEnv G its y := by
  cases its <;> rfl
theorem itBlk_v {q lv : Nat} {s : Sh} {its : List It} {u : s.den G} {y : denI G its} {k : Nat} : itBlk G (.v q lv s :: its) (mkI G (.v q lv s) its u y) k = itBlk G its y k := by
  cases its <;> rfl
theorem itBlk_b {i lv : Nat} {t : Ty} {its : List It} {u : t.den G} {y : denI G its} {k : Nat} : itBlk G (.b i lv t :: its) (mkI G (.b i lv t) its u y) k = if Nat.beq i k then some (lv, .dat t u) else itBlk G its y k := by
  cases its <;> rfl
theorem itBlk_a {i lv : Nat} {t : Ty} {nn : Option Nat} {its : List It} {u : List (t.den G)} {y : denI G its} {k : Nat} : itBlk G (.a i lv t nn :: its) (mkI G (.a i lv t nn) its u y) k = if Nat.beq i k then some (lv, .arr t nn u) else itBlk G its y k := by
  cases its <;> rfl
theorem fitI_env {nT : Nat} {z' : Cz} (hE : EnvR G P m z st.env a) (hz : ∀ j v, j < nT → fb z.t j = some v → fb z'.t j = some v) : ∀ {its : List It} {x : denI G its}, fitI Γ nT st its = some x →
    ∀ e ∈ itEnv G its x, e.2.2.Rel G P m z' (a.tmps.getD e.1 undef) ∧ (e.2.1 < st.c → ∃ lv, lv ≤ e.2.1 ∧ (e.1, lv, e.2.2) ∈ st.env) := by
  intro its
  induction its with
  | nil => intro x h e he; cases he
  | cons i its ih =>
    intro x h
    cases i with
    | v q lv s =>
      simp only [fitI] at h
      split at h
      · rename_i lv' b y hq hy
        split at h
        · rename_i hlv
          split at h
          · rename_i u hu
            injection h with h
            subst h
            intro e he
            rw [itEnv_v] at he
            rcases List.mem_cons.1 he with rfl | he
            · have hr : b.Rel G P m z (a.tmps.getD q undef) := hE _ (lke_mem hq)
              split at hu
              · rename_i hc
                exact ⟨shA_ok hu hr hz, fun h => absurd h (by show ¬ lv < st.c; omega)⟩
              · obtain ⟨k1, k2⟩ := shX_ok hu hr hz
                exact ⟨k1, fun hlt => ⟨lv', hlv.resolve_left (Nat.not_le.2 hlt), by rw [k2]; exact lke_mem hq⟩⟩
            · exact ih hy e he
          · cases h
        · cases h
      · cases h
    | b i lv t =>
      simp only [fitI] at h
      split at h
      · rename_i lv' t' u y hq hy
        split at h
        · split at h
          · injection h with h
            subst h
            intro e he
            rw [itEnv_b] at he
            exact ih hy e he
          · cases h
        · cases h
      · cases h
    | a i lv t nn =>
      simp only [fitI] at h
      split at h
      · rename_i lv' t' n' u y hq hy
        split at h
        · split at h
          · injection h with h
            subst h
            intro e he
            have he' : e ∈ itEnv G its y := by rw [← itEnv_a (i := i) (lv := lv) (t := t) (nn := nn)]; exact he
            exact ih hy e he'
          · cases h
        · cases h
      · cases h
theorem fitI_blk {nT : Nat} : ∀ {its : List It} {x : denI G its}, fitI Γ nT st its = some x → ∀ k e, itBlk G its x k = some e → ∃ lv, (e.1 < st.c → lv ≤ e.1) ∧ fb st.L k = some (lv, e.2) := by
  intro its
  induction its with
  | nil => intro x h k e he; cases he
  | cons i its ih =>
    intro x h
    cases i with
    | v q lv s =>
      simp only [fitI] at h
      split at h
      · rename_i lv' b y hq hy
        split at h
        · split at h
          · injection h with h
            subst h
            intro k e he
            rw [itBlk_v] at he
            exact ih hy k e he
          · cases h
        · cases h
      · cases h
    | b i lv t =>
      simp only [fitI] at h
      split at h
      · rename_i lv' t' u y hq hy
        split at h
        · rename_i hlv
          split at h
          · rename_i u' hu
            obtain ⟨e, hu⟩ := castTy_some hu
            subst e; subst hu
            injection h with h
            subst h
            intro k e he
            rw [itBlk_b] at he
            split at he
            · rename_i hb
              have := Nat.eq_of_beq_eq_true hb
              subst this
              injection he with he; subst he
              exact ⟨lv', fun hlt => hlv.resolve_left (Nat.not_le.2 hlt), hq⟩
            · exact ih hy k e he
          · cases h
        · cases h
      · cases h
    | a i lv t nn =>
      simp only [fitI] at h
      split at h
      · rename_i lv' t' n' u y hq hy
        split at h
        · rename_i hlv
          obtain ⟨hlv, rfl⟩ := hlv
          split at h
          · rename_i u' hu
            obtain ⟨e, hu⟩ := castTy_some hu
            injection e with e
            subst e; subst hu
            injection h with h
            subst h
            intro k e he
            have he2 := (itBlk_a (G := G) (i := i) (lv := lv) (t := t')).symm.trans he
            clear he
            split at he2
            · rename_i hb
              have := Nat.eq_of_beq_eq_true hb
              subst this
              injection he2 with he2; subst he2
              exact ⟨lv', fun hlt => hlv.resolve_left (Nat.not_le.2 hlt), hq⟩
            · exact ih hy k e he2
          · cases h
        · cases h
      · cases h
end
end Go.Proofs.YthbonoagbeilkaaGreat.Hay
set_option linter.unusedVariables false
set_option linter.unusedSimpArgs false
namespace Go.Proofs.YthbonoagbeilkaaGreat.Hay
section
variable {G : Sg} {P : Program} {δ : List Nat} {n : Nat} {W0 : Bse} {L0 : Rs} {T0 : List (Nat × Value)} {m m0 : M} {z : Cz} {st : St G} {a : Act} {w : World} {Γ : Tab P G} {D : List (CS P G)}
theorem Fx.is_eq {f : Fx} {b : AV G} (h : f.is b = true) : b = f.mk G := by
 cases f <;> cases b <;> simp [Fx.is] at h <;> simp [Fx.mk, h]
theorem fxOK_mem {nb : Nat} : ∀ {fx : List (Nat × Nat × Fx)}, fxOK st nb fx = true → ∀ e ∈ fx, ∃ lv', lke st.env e.1 = some (lv', .one (e.2.2.mk G)) ∧ (e.2.1 < st.c → lv' ≤ e.2.1) ∧ (∀ i, e.2.2 = .blk i → i < nb) ∧ (∀ i, e.2.2 = .own i → i < nb) := by
 intro fx
 induction fx with
 | nil => intro _ e he; cases he
 | cons x fx ih =>
  intro h e he
  obtain ⟨q, lv, f⟩ := x
  simp only [fxOK, Bool.and_eq_true] at h
  rcases List.mem_cons.1 he with rfl | he
  ·obtain ⟨h1, _⟩ := h
   split at h1
   ·rename_i lv' b hq
    simp only [Bool.and_eq_true] at h1
    obtain ⟨⟨h1, h2⟩, h3⟩ := h1
    have := Fx.is_eq h2
    subst this
    refine ⟨lv', hq, fun hlt => ?_, fun i hi => ?_, fun i hi => ?_⟩
    ·rcases Bool.or_eq_true_iff.1 h1 with h1 | h1
     ·exact absurd (Nat.le_of_ble_eq_true h1) (Nat.not_le.2 hlt)
     ·exact Nat.le_of_ble_eq_true h1
    ·simp only at hi; subst hi; exact Nat.le_of_ble_eq_true h3
    ·simp only at hi; subst hi; exact Nat.le_of_ble_eq_true h3
   ·cases h1
  ·exact ih h.2 e he
theorem Tm.ok {T : Tm} {x : denI G T.its} (hnm : L0.nm.length ≤ T.nb) (h : T.fit Γ st = some x) (hs : Sat G P δ n W0 L0 T0 m0 st a w) : Sat G P δ n W0 L0 T0 m0 (T.st G st.c x) a w ∧ Ext st.c st (T.st G st.c x) := by
 obtain ⟨hs1, hx1, hc1⟩ := nilTs_ok (its := T.its) hs
 unfold Tm.fit at h
 simp only at h
 generalize nilTs G T.its st = st1 at *
 split at h
 ·rename_i hc
  simp only [Bool.and_eq_true] at hc
  obtain ⟨⟨hfx, hnb⟩, hT⟩ := hc
  have hT := of_decide_eq_true hT
  have hnb := Nat.le_of_ble_eq_true hnb
  have hfx := fxOK_mem hfx
  obtain ⟨⟨m, z, h0, hr, hM⟩, hdf, hsz⟩ := hs1
  have hbl := fitI_blk h
  obtain ⟨z', hM', hzb, hzt⟩ := MemS.cut (f := fun i => match itBlk G T.its x i with | some e => e | none => (st.c, .gone)) hM hnb (fun i hi => by
   cases hi : itBlk G T.its x i with
   | none => exact .inl rfl
   | some e => obtain ⟨lv, _, h2⟩ := hbl i e hi; exact .inr ⟨lv, h2⟩) hT hnm
  have henv := fitI_env hr hzt h
  refine ⟨⟨⟨m, z', h0, fun e he => ?_, hM'⟩, hdf, hsz⟩, ?_⟩
  ·rcases List.mem_append.1 he with he | he
   ·obtain ⟨f, hf, rfl⟩ := List.mem_map.1 he
    obtain ⟨lv', k1, k2, k3, k4⟩ := hfx f hf
    have hrel := hr _ (lke_mem k1)
    show AV.Rel G P m z' (f.2.2.mk G) _
    cases hff : f.2.2 with
    | blk i => rw [hff] at hrel; obtain ⟨p, q1, q2⟩ := hrel; exact ⟨p, hzb i p (k3 i hff) q1, q2⟩
    | own i => rw [hff] at hrel; obtain ⟨p, q1, q2⟩ := hrel; exact ⟨p, hzb i p (k4 i hff) q1, q2⟩
    | nils => rw [hff] at hrel; exact hrel
    | und => rw [hff] at hrel; exact hrel
   ·exact (henv e he).1
  ·rw [hc1] at henv
   refine hx1.trans ⟨fun k hk e he hl => ?_, fun k hk i s B hb hsk => ?_⟩
   ·rcases List.mem_append.1 he with he | he
    ·obtain ⟨f, hf, rfl⟩ := List.mem_map.1 he
     obtain ⟨lv', k1, k2, _⟩ := hfx f hf
     have hl : f.2.1 ≤ k := hl
     exact ⟨lv', Nat.le_trans (k2 (by rw [hc1]; omega)) hl, lke_mem k1⟩
    ·obtain ⟨lv, k1, k2⟩ := (henv e he).2 (by omega)
     exact ⟨lv, Nat.le_trans k1 hl, k2⟩
   ·obtain ⟨_, hy⟩ := fb_build hb
    cases hi : itBlk G T.its x i with
    | none =>
     rw [hi] at hy
     injection hy with hy _; omega
    | some e =>
     rw [hi] at hy
     simp only at hy
     subst hy
     obtain ⟨lv, k1, k2⟩ := hbl i _ hi
     exact ⟨lv, Nat.le_trans (k1 (by simp only; omega)) hsk, k2⟩
 ·cases h
theorem keepEnv_mem {env : List (Nat × Nat × EV G)} {d : Nat} : ∀ {ks : List Nat} {e : Nat × Nat × EV G}, e ∈ keepEnv env d ks → e.1 ∈ ks ∧ ∃ lv, lke env e.1 = some (lv, e.2.2) ∧ e.2.1 = min lv d := by
 intro ks
 induction ks with
 | nil => intro e he; cases he
 | cons q ks ih =>
  intro e he
  simp only [keepEnv] at he
  split at he
  ·rename_i lv ev hq
   rcases List.mem_cons.1 he with rfl | he
   ·exact ⟨by simp, lv, hq, rfl⟩
   ·obtain ⟨h1, h2⟩ := ih he; exact ⟨by simp [h1], h2⟩
  ·obtain ⟨h1, h2⟩ := ih he; exact ⟨by simp [h1], h2⟩
theorem itEnv_lv {d : Nat} : ∀ {its : List It} {x : denI G its}, itLv d its = true → ∀ e ∈ itEnv G its x, e.2.1 = d + 1 := by
 intro its
 induction its with
 | nil => intro x _ e he; cases he
 | cons i its ih =>
  intro x h e he
  cases i with
  | v q lv s =>
   simp only [itLv, Bool.and_eq_true] at h
   rcases List.mem_cons.1 he with rfl | he
   ·exact Nat.eq_of_beq_eq_true h.1
   ·exact ih h.2 e he
  | b i lv t =>
   simp only [itLv, Bool.and_eq_true] at h
   exact ih h.2 e he
  | a i lv t nn =>
   simp only [itLv, Bool.and_eq_true] at h
   exact ih h.2 e he
theorem itBlk_lv {d : Nat} : ∀ {its : List It} {x : denI G its}, itLv d its = true → ∀ k e, itBlk G its x k = some e → e.1 = d + 1 := by
 intro its
 induction its with
 | nil => intro x _ k e he; cases he
 | cons i its ih =>
  intro x h k e he
  cases i with
  | v q lv s =>
   simp only [itLv, Bool.and_eq_true] at h
   exact ih h.2 k e he
  | b i lv t =>
   simp only [itLv, Bool.and_eq_true] at h
   simp only [itBlk] at he
   split at he
   ·injection he with he; subst he; exact Nat.eq_of_beq_eq_true h.1
   ·exact ih h.2 k e he
  | a i lv t nn =>
   simp only [itLv, Bool.and_eq_true] at h
   simp only [itBlk] at he
   split at he
   ·injection he with he; subst he; exact Nat.eq_of_beq_eq_true h.1
   ·exact ih h.2 k e he
theorem itHas_iff {k : Nat} : ∀ {its : List It} {x : denI G its}, itHas k its = (itBlk G its x k).isSome := by
 intro its
 induction its with
 | nil => intro x; rfl
 | cons i its ih =>
  intro x
  cases i with
  | v q lv s => exact ih
  | b i lv t =>
   simp only [itHas, itBlk]
   cases Nat.beq i k with
   | true => rfl
   | false => simpa using ih
  | a i lv t nn =>
   simp only [itHas, itBlk]
   cases Nat.beq i k with
   | true => rfl
   | false => simpa using ih
theorem AV.Rel.z2 {m1 m : M} {z1 z z' : Cz} {b : AV G} {v1 v : Value} (h1 : b.Rel G P m1 z1 v1) (h : b.Rel G P m z v) (hb : ∀ i p1 p, fb z1.b i = some p1 → fb z.b i = some p → fb z'.b i = some p) (ht : ∀ j u1 u, fb z1.t j = some u1 → fb z.t j = some u → fb z'.t j = some u) : b.Rel G P m z' v := by
 cases b with
 | dat t x o =>
  refine ⟨h.1, ?_⟩
  cases o with
  | none => trivial
  | some j => exact ht j _ _ h1.2 h.2
 | loc i a b A => obtain ⟨p, q1, q2⟩ := h; obtain ⟨p1, r1, _⟩ := h1; exact ⟨p, hb _ _ _ r1 q1, q2⟩
 | elp i j a b A => obtain ⟨p, q1, q2⟩ := h; obtain ⟨p1, r1, _⟩ := h1; exact ⟨p, hb _ _ _ r1 q1, q2⟩
 | blk i => obtain ⟨p, q1, q2⟩ := h; obtain ⟨p1, r1, _⟩ := h1; exact ⟨p, hb _ _ _ r1 q1, q2⟩
 | own i => obtain ⟨p, q1, q2⟩ := h; obtain ⟨p1, r1, _⟩ := h1; exact ⟨p, hb _ _ _ r1 q1, q2⟩
 | _ => exact h
theorem EV.Rel.z2 {m1 m : M} {z1 z z' : Cz} {e : EV G} {v1 v : Value} (h1 : e.Rel G P m1 z1 v1) (h : e.Rel G P m z v) (hb : ∀ i p1 p, fb z1.b i = some p1 → fb z.b i = some p → fb z'.b i = some p) (ht : ∀ j u1 u, fb z1.t j = some u1 → fb z.t j = some u → fb z'.t j = some u) : e.Rel G P m z' v := by
 cases e with
 | one b => exact AV.Rel.z2 h1 h hb ht
 | tup asv =>
  obtain ⟨vs1, k0, k1⟩ := h1
  obtain ⟨vs, k2, k3⟩ := h
  refine ⟨vs, k2, ?_⟩
  clear k2 k0
  induction asv generalizing vs vs1 with
  | nil => cases vs <;> exact k3
  | cons b asv ih =>
   cases vs with
   | nil => exact k3
   | cons v vs =>
    cases vs1 with
    | nil => exact k1.elim
    | cons v1 vs1 => exact ⟨AV.Rel.z2 k1.1 k3.1 hb ht, ih vs1 k1.2 vs k3.2⟩
structure LtOK (T : Lt) (st : St G) : Prop where
 len : st.L.length = T.nb
 tls : st.T = T.T
 nd : nodupN T.keep = true
 lv : itLv st.c T.its = true
 keep : ∀ q ∈ T.keep, ∃ e, lke st.env q = some e
theorem Lt.fit_ok {T : Lt} {st1 : St G} {x : denI G T.its} (h : T.fit Γ st = some (st1, x)) : st1 = nilTs G T.its st ∧ LtOK T st1 ∧ fitI Γ T.T.length st1 T.its = some x := by
 unfold Lt.fit at h
 simp only at h
 split at h
 ·rename_i hc
  split at h
  ·rename_i y hy
   injection h with h
   injection h with h1 h2
   subst h1; subst h2
   simp only [Bool.and_eq_true] at hc
   obtain ⟨⟨⟨⟨c1, c2⟩, c3⟩, c4⟩, c5⟩ := hc
   refine ⟨rfl, ⟨Nat.eq_of_beq_eq_true c1, of_decide_eq_true c2, c3, c4, fun q hq => ?_⟩, hy⟩
   exact Option.isSome_iff_exists.1 (List.all_eq_true.1 c5 q hq)
  ·cases h
 ·cases h
theorem Lt.entry {T : Lt} {st1 : St G} {x : denI G T.its} (hs : Sat G P δ n W0 L0 T0 m0 st1 a w) (hk : LtOK T st1) (hf : fitI Γ T.T.length st1 T.its = some x) : Sat G P δ n W0 L0 T0 m0 (T.st G st1 x) a w := by
 obtain ⟨⟨m, z, h0, hr, hM⟩, hdf, hsz⟩ := hs
 have hlen := hM.len
 have hbl := fitI_blk hf
 obtain ⟨z', hM', hzb, hzt⟩ := MemS.cut (T' := T.T) (nb := T.nb) (f := fun i => match itBlk G T.its x i with | some e => e | none => (match fb st1.L i with | some e => (min e.1 st1.c, e.2) | none => (0, .gone))) hM (by rw [hk.len]; exact Nat.le_refl _) (fun i hi => by
   cases hi : itBlk G T.its x i with
   | none =>
    cases hj : fb st1.L i with
    | none => exact .inl (by simp)
    | some e => exact .inr ⟨e.1, by simp⟩
   | some e => obtain ⟨lv, _, h2⟩ := hbl i e hi; exact .inr ⟨lv, h2⟩) (by rw [hk.tls]; simp) (by obtain ⟨_, _, _, _, _, hsf⟩ := hM; have := hsf.len; rw [hlen.1, hk.len] at this; exact this)
 have hz : Zle z z' := ⟨fun i p hp => hzb i p (by have := fb_lt hp; rw [hlen.1, hk.len] at this; exact this) hp, fun j v hv => hzt j v (by have := fb_lt hv; rw [hlen.2, hk.tls] at this; exact this) hv⟩
 have henv := fitI_env hr hzt hf
 refine ⟨⟨m, z', h0, fun e he => ?_, hM'⟩, hdf, hsz⟩
 rcases List.mem_append.1 he with he | he
 ·exact (henv e he).1
 ·obtain ⟨_, lv, h1, _⟩ := keepEnv_mem he
  exact (hr _ (lke_mem h1)).z hz
theorem Lt.ext {T : Lt} {st1 : St G} {s : denI G T.its} (hk : LtOK T st1) : Ext st1.c st1 (T.st G st1 s) := by
 refine ⟨fun k hkk e he hl => ?_, fun k hkk i sl B hb hsl => ?_⟩
 ·rcases List.mem_append.1 he with he | he
  ·have := itEnv_lv hk.lv e he; omega
  ·obtain ⟨_, lv, h1, h2⟩ := keepEnv_mem he
   exact ⟨lv, by omega, lke_mem h1⟩
 ·obtain ⟨hi, hy⟩ := fb_build hb
  cases hit : itBlk G T.its s i with
  | some e =>
   rw [hit] at hy
   have := itBlk_lv hk.lv i e hit
   simp only at hy
   subst hy
   simp only at this; omega
  | none =>
   rw [hit] at hy
   obtain ⟨e, he⟩ := fb_of_lt (l := st1.L) (i := i) (by rw [hk.len]; exact hi)
   simp only [he] at hy
   injection hy with h1 h2
   subst h2
   exact ⟨e.1, by omega, he⟩
theorem nodup_mem {env : List (Nat × Nat × EV G)} {d q lv : Nat} {e : EV G} : ∀ {ks : List Nat}, (q, lv, e) ∈ keepEnv env d ks → ∃ lv', lke env q = some (lv', e) := by
 intro ks h
 obtain ⟨_, lv', h1, _⟩ := keepEnv_mem h
 exact ⟨lv', h1⟩
theorem Lt.back_ok {T : Lt} {st1 st' : St G} {s s' : denI G T.its} {a0 : Act} {w0 : World} (hk : LtOK T st1) (h0 : Sat G P δ n W0 L0 T0 m0 (T.st G st1 s) a0 w0) (hs0 : Sat G P δ n W0 L0 T0 m0 st' a w) (hx0 : Ext (st1.c + 1) (T.st G st1 s) st') (hc : st'.c = st1.c + 1)
  (hb : T.back Γ st1.c st' = some s') : Sat G P δ n W0 L0 T0 m0 (T.st G st1 s') a w := by
 obtain ⟨hs, hxn, hcn⟩ := nilTs_ok (its := T.its) hs0
 unfold Lt.back at hb
 simp only at hb
 rw [hc] at hxn
 have hx := hx0.trans hxn
 clear hxn hx0 hs0
 generalize nilTs G T.its st' = st' at *
 obtain ⟨⟨m1, z1, _, hr1, hM1⟩, _, _⟩ := h0
 have hlen1 := hM1.len
 have hl1 : (T.st G st1 s).L.length = T.nb := buildL_len
 obtain ⟨⟨m, z, hm0, hr, hM⟩, hdf, hsz⟩ := hs
 split at hb
 ·rename_i hok
  unfold backOK at hok
  simp only [Bool.and_eq_true] at hok
  obtain ⟨⟨⟨c1, c2⟩, c3⟩, c4⟩ := hok
  have hbl := fitI_blk hb
  have stay : ∀ i, i < T.nb → itBlk G T.its s' i = none → ∃ sl e, fb st1.L i = some e ∧ fb st'.L i = some (sl, e.2) := by
   intro i hi hn
   have h4 := List.all_eq_true.1 c4 i (by simpa using hi)
   have hno : itHas i T.its = false := by rw [itHas_iff (G := G) (x := s'), hn]; rfl
   rw [hno, Bool.false_or] at h4
   split at h4
   ·rename_i lv B hB
    have hlv := Nat.le_of_ble_eq_true h4
    obtain ⟨sl, _, h6⟩ := hx.blk st1.c (Nat.lt_succ_self _) i lv B hB hlv
    obtain ⟨_, hy⟩ := fb_build h6
    have hno' : itBlk G T.its s i = none := by
     have := itHas_iff (G := G) (x := s) (k := i)
     rw [hno] at this
     cases hq : itBlk G T.its s i with
     | none => rfl
     | some e => rw [hq] at this; cases this
    rw [hno'] at hy
    obtain ⟨e, he⟩ := fb_of_lt (l := st1.L) (i := i) (by rw [hk.len]; exact hi)
    simp only [he] at hy
    injection hy with _ hy
    subst hy
    exact ⟨lv, e, he, hB⟩
   ·cases h4
  obtain ⟨z', hM', hzb, hzt⟩ := MemS.cut (T' := T.T) (nb := T.nb) (f := fun i => match itBlk G T.its s' i with | some e => e | none => (match fb st1.L i with | some e => (min e.1 st1.c, e.2) | none => (0, .gone))) hM (Nat.le_of_ble_eq_true c2) (fun i hi => by
    cases hii : itBlk G T.its s' i with
    | none =>
     obtain ⟨sl, e, h1, h2⟩ := stay i hi hii
     exact .inr ⟨sl, by simp [h1, h2]⟩
    | some e => obtain ⟨lv, _, h2⟩ := hbl i e hii; exact .inr ⟨lv, h2⟩) (of_decide_eq_true c3) (by obtain ⟨_, _, _, _, _, hsf⟩ := hM1; have := hsf.len; rw [hlen1.1, hl1] at this; exact this)
  have henv := fitI_env hr hzt hb
  refine ⟨⟨m, z', hm0, fun e he => ?_, hM'⟩, hdf, hsz⟩
  rcases List.mem_append.1 he with he | he
  ·exact (henv e he).1
  ·obtain ⟨hq, lv, h1, _⟩ := keepEnv_mem he
   have h2 := List.all_eq_true.1 c1 e.1 hq
   split at h2
   ·rename_i lv2 ev2 hq2
    obtain ⟨lv3, h3, h4⟩ := hx.env st1.c (Nat.lt_succ_self _) (e.1, lv2, ev2) (lke_mem hq2) (Nat.le_of_ble_eq_true h2)
    have hev : ev2 = e.2.2 := by
     rcases List.mem_append.1 h4 with h4 | h4
     ·have := itEnv_lv hk.lv _ h4
      simp only at this; omega
     ·obtain ⟨lv', h5⟩ := nodup_mem h4
      rw [h1] at h5
      injection h5 with h5; injection h5 with _ h5
      exact h5.symm
    subst hev
    have r1 := hr1 e (List.mem_append.2 (.inr he))
    have r2 := hr _ (lke_mem hq2)
    refine EV.Rel.z2 r1 r2 (fun i p1 p hp1 hp => hzb i p ?_ hp) (fun j u1 u hu1 hu => hzt j u ?_ hu)
    ·have := fb_lt hp1; rw [hlen1.1, hl1] at this; exact this
    ·have := fb_lt hu1; rw [hlen1.2] at this; exact this
   ·cases h2
 ·cases hb
end
end Go.Proofs.YthbonoagbeilkaaGreat.Hay
set_option linter.unusedVariables false
set_option linter.unusedSimpArgs false
namespace Go.Proofs.YthbonoagbeilkaaGreat.Hay
section
variable {G : Sg} {P : Program} {δ : List Nat} {n : Nat} {W0 : Bse} {L0 : Rs} {T0 : List (Nat × Value)} {m0 : M} {Γ : Tab P G} {D : List (CS P G)} {ro : Option Nat}
theorem exRegion_ok {ρ : Type} {id : Nat} {ops : Array Oper} {dr : Bool} {st : St G} {K' : St G → Option ρ} {r : ρ} {a : Act} {w : World} {NP RP : Act → World → Prop} {XP : List (Nat × (Act → World → Prop))} (hmx : P.follows .mixedOrders = true) (h : exRegion n Γ D ops.toList dr st K' = some r) (hs : Sat G P δ n W0 L0 T0 m0 st a w)
  (hN : Nxt G P δ n W0 L0 T0 m0 K' r st NP) : K ro P (.region id ops dr) NP XP RP a w := by
 obtain ⟨os⟩ := ops
 cases dr with
 | false => exact kreg (exOps_ok h hs fun st' a' w' h1 h2 h3 h4 => knil (hN st' a' w' h1 h2 h3 h4))
 | true =>
  unfold exRegion at h
  simp only at h
  split at h
  ·rename_i hc
   simp only [Bool.and_eq_true] at hc
   split at h
   ·rename_i hns
    exact open_ok hns hmx hs (dis_of hc.1.1 hc.2) hc.1.2 h hN
   ·split at h
    ·rename_i hg
     exact openS_ok hmx hs (dis_of hc.1.1 hc.2) hc.1.2 hg h hN
    ·cases h
  ·cases h
theorem map_inr {σ ρ : Type} {x : Option ρ} {r : σ ⊕ ρ} (h : x.map Sum.inr = some r) : ∃ o, x = some o ∧ r = .inr o := by
 cases x with
 | none => cases h
 | some o => injection h with h; exact ⟨o, rfl, h.symm⟩
theorem ex_sound {np : Nat} (hnp : L0.nm.length ≤ np) (hmx : P.follows .mixedOrders = true) : ∀ (c : Code) {ρ : Type} (A : An G ρ) (st : St G) (N : St G → Option ρ) (X : Nat → St G → Option ρ) (R : St G → Option ρ) (r : ρ) (a : Act) (w : World) (NP RP : Act → World → Prop) (XP : List (Nat × (Act → World → Prop))),
  ex n Γ D c A st N X R = some r → Obl np n Γ D c A st.c N X R → Sat G P δ n W0 L0 T0 m0 st a w → Nxt G P δ n W0 L0 T0 m0 N r st NP →
  (∀ j, Nxt G P δ n W0 L0 T0 m0 (X j) r st (fun a w => ∃ e, XP.find? (fun e => Nat.beq e.1 j) = some e ∧ e.2 a w)) → Nxt G P δ n W0 L0 T0 m0 R r st RP → K ro P c NP XP RP a w := by
 intro c
 induction c with
 | skip => intro ρ A st N X R r a w NP RP XP h _ hs hN _ _; exact kskip (hN st a w h hs (Ext.refl _ _) rfl)
 | label l => intro ρ A st N X R r a w NP RP XP h _ hs hN _ _; exact klabel (hN st a w h hs (Ext.refl _ _) rfl)
 | region id ops dr => intro ρ A st N X R r a w NP RP XP h _ hs hN _ _; exact exRegion_ok hmx h hs hN
 | exit id =>
  intro ρ A st N X R r a w NP RP XP h _ hs _ hX _
  obtain ⟨e, h1, h2⟩ := hX id st a w h hs (Ext.refl _ _) rfl
  exact kexit h1 rfl h2
 | ret => intro ρ A st N X R r a w NP RP XP h _ hs _ _ hR; exact kret (hR st a w h hs (Ext.refl _ _) rfl)
 | seq x y ihx ihy =>
  intro ρ A st N X R r a w NP RP XP h hO hs hN hX hR
  have plain : ∀ {Ax Ay : An G ρ}, ex n Γ D x Ax st (fun st' => ex n Γ D y Ay st' N X R) X R = some r → Obl np n Γ D x Ax st.c (fun st' => ex n Γ D y Ay st' N X R) X R → Obl np n Γ D y Ay st.c N X R → K ro P (.seq x y) NP XP RP a w := by
   intro Ax Ay h hOx hOy
   refine kseq (ihx Ax st _ X R r a w _ RP XP h hOx hs (fun st' a' w' h1 h2 h3 h4 => ?_) hX hR)
   exact ihy Ay st' N X R r a' w' NP RP XP h1 (by rw [h4]; exact hOy) h2 (hN.later h3 h4) (fun j => (hX j).later h3 h4) (hR.later h3 h4)
  cases A with
  | s l r' => exact plain h hO.1 hO.2
  | c l T J r' =>
   obtain ⟨o1, o0, o2, o3⟩ := hO
   refine kseq (ihx l st _ X R r a w _ RP XP h o1 hs (fun st' a' w' h1 h2 h3 h4 => ?_) hX hR)
   split at h1
   ·rename_i v hv
    obtain ⟨k1, k2⟩ := Tm.ok (Nat.le_trans hnp (Nat.le_of_ble_eq_true o0)) hv h2
    rw [h4] at k1 k2
    have hx := h3.trans k2
    refine ihy r' (T.st G st.c v) N X R r a' w' NP RP XP (by rw [o2 v]; exact h1) o3 k1 (hN.later hx rfl) (fun j => (hX j).later hx rfl) (hR.later hx rfl)
   ·cases h1
  | _ => exact plain h (Obl.o ..) (Obl.o ..)
 | cond cnd x y ihx ihy =>
  intro ρ A st N X R r a w NP RP XP h hO hs hN hX hR
  unfold ex at h
  split at h
  ·rename_i v hv
   split at h
   ·rename_i b hb
    obtain ⟨⟨m, z, h0, hr, hM⟩, hdf, hsz⟩ := hs
    have hs : Sat G P δ n W0 L0 T0 m0 st a w := ⟨⟨m, z, h0, hr, hM⟩, hdf, hsz⟩
    have hev := AV.b_rel hb (av_rel (op_rel hr) hv)
    have plain : ∀ {Ax Ay : An G ρ}, (if b = true then ex n Γ D x Ax st N X R else ex n Γ D y Ay st N X R) = some r → Obl np n Γ D x Ax st.c N X R → Obl np n Γ D y Ay st.c N X R → K ro P (.cond cnd x y) NP XP RP a w := by
     intro Ax Ay h hOx hOy
     refine wpIn_cond_split hev (fun hb => ?_) (fun hb => ?_)
     ·rw [if_pos hb] at h
      exact ihx Ax st N X R r a w NP RP XP h hOx hs hN hX hR
     ·rw [if_neg (by rw [hb]; decide)] at h
      exact ihy Ay st N X R r a w NP RP XP h hOy hs hN hX hR
    cases A with
    | i l r' => exact plain h hO.1 hO.2
    | _ => exact plain h (Obl.o ..) (Obl.o ..)
   ·cases h
  ·cases h
 | block id c ih =>
  intro ρ A st N X R r a w NP RP XP h hO hs hN hX hR
  have plain : ∀ {Ac : An G ρ}, ex n Γ D c Ac st N (fun j st' => match Nat.beq j id with | true => N st' | false => X j st') R = some r → Obl np n Γ D c Ac st.c N (fun j st' => match Nat.beq j id with | true => N st' | false => X j st') R → K ro P (.block id c) NP XP RP a w := by
   intro Ac h hOc
   refine kblock (ih Ac st N _ R r a w NP RP _ h hOc hs hN (fun j st' a' w' h1 h2 h3 h4 => ?_) hR)
   split at h1
   ·rename_i hj
    have := Nat.eq_of_beq_eq_true hj
    subst this
    exact ⟨(j, NP), by simp [List.find?], hN st' a' w' h1 h2 h3 h4⟩
   ·rename_i hj
    obtain ⟨e, q1, q2⟩ := hX j st' a' w' h1 h2 h3 h4
    have hne : Nat.beq id j = false := by
     cases hb : Nat.beq id j with
     | false => rfl
     | true =>
      have := Nat.eq_of_beq_eq_true hb
      subst this
      simp at hj
    exact ⟨e, by simp only [List.find?, hne]; exact q1, q2⟩
  cases A with
  | b x => exact plain h hO
  | _ => exact plain h (Obl.o ..)
 | scope c ih =>
  intro ρ A st N X R r a w NP RP XP h hO hs hN hX hR
  cases A with
  | b x => exact kscope (ih x st N X R r a w NP RP XP h hO hs hN hX hR)
  | _ => exact kscope (ih .o st N X R r a w NP RP XP h (Obl.o ..) hs hN hX hR)
 | loop c ih =>
  intro ρ A st N X R r a w NP RP XP h hO hs hN hX hR
  cases A with
  | l T b =>
   unfold ex at h
   simp only at h
   split at h
   ·rename_i st1 x0 hfit
    obtain ⟨e1, hk, hf⟩ := Lt.fit_ok hfit
    obtain ⟨hs1, hx1, hc1⟩ := nilTs_ok (its := T.its) hs
    rw [← e1] at hs1 hx1 hc1
    refine kloop h (fun s a w => Sat G P δ n W0 L0 T0 m0 (T.st G st1 s) a w) (Lt.entry hs1 hk hf) ?_
    intro s a w hI r' hfs ho'
    have hcs : (T.st G st1 s).c = st.c + 1 := by show st1.c + 1 = _; rw [hc1]
    have hlow : ∀ {st' : St G}, Ext (T.st G st1 s).c (T.st G st1 s) st' → Ext st.c st (low st.c st') := by
     intro st' hx
     rw [hcs] at hx
     have h2 := Lt.ext (s := s) hk
     rw [hc1] at h2
     have h3 := hx1.trans (h2.trans (hx.le (Nat.le_succ _)))
     exact ⟨h3.env, h3.blk⟩
    have hsat : ∀ {st' : St G} {a' : Act} {w' : World}, Sat G P δ n W0 L0 T0 m0 st' a' w' → Sat G P δ n W0 L0 T0 m0 (low st.c st') a' w' := fun hs => ⟨hs.ex, hs.df, hs.sz⟩
    refine ih b (T.st G st1 s) _ _ _ r' a w _ RP XP hfs (by rw [hcs]; exact hO) hI (fun st' a' w' h1 h2 h3 h4 => ?_) (fun j st' a' w' h1 h2 h3 h4 => ?_) (fun st' a' w' h1 h2 h3 h4 => ?_)
    ·split at h1
     ·rename_i s' hb
      injection h1 with h1
      rw [← hc1] at hb
      refine ⟨s', h1.symm, Lt.back_ok hk hI h2 ?_ ?_ hb⟩
      ·rw [hcs, ← hc1] at h3; exact h3
      ·rw [h4, hcs, hc1]
     ·cases h1
    ·obtain ⟨o, q1, q2⟩ := map_inr h1
     have := ho' o q2
     subst this
     exact hX j _ a' w' q1 (hsat h2) (hlow h3) rfl
    ·obtain ⟨o, q1, q2⟩ := map_inr h1
     have := ho' o q2
     subst this
     exact hR _ a' w' q1 (hsat h2) (hlow h3) rfl
   ·cases h
  | _ => simp [ex] at h
 | rangeFunc f ps asg c _ _ => intro ρ A st N X R r a w NP RP XP h; simp [ex] at h
 | goto l => intro ρ A st N X R r a w NP RP XP h; simp [ex] at h
 | refuse s => intro ρ A st N X R r a w NP RP XP h; simp [ex] at h
end
end Go.Proofs.YthbonoagbeilkaaGreat.Hay
set_option linter.unusedVariables false
set_option linter.unusedSimpArgs false
namespace Go.Proofs.YthbonoagbeilkaaGreat.Hay
section
variable {G : Sg} {P : Program}
def iniA (G : Sg) : (ps : List Pm) → DenPs G ps → Nat → List (Nat × Nat × EV G) × List (Nat × BC G) × List Nat
 | [], _, _ => ([], [], [])
 | .rd t :: ps, x, i => match iniA G ps x.2 (i + 1) with | (e, L, T) => ((i, 0, .one (.dat t x.1 none)) :: e, L, T)
 | .ap t :: ps, x, i => match iniA G ps x.2 (i + 1) with | (e, L, T) => ((i, 0, .one (.dat (.sl t) x.1 (some T.length))) :: e, L, (t.kd G).sz :: T)
 | .pt t :: ps, x, i => match iniA G ps x.2 (i + 1) with | (e, L, T) => ((i, 0, .one (.blk L.length)) :: e, (0, .dat t x.1) :: L, T)
 | .ow t :: ps, x, i => match iniA G ps x.2 (i + 1) with | (e, L, T) => ((i, 0, .one (.own L.length)) :: e, (0, .arr t none x.1) :: L, T)
 | .f1 a b :: ps, x, i => match iniA G ps x.2 (i + 1) with | (e, L, T) => ((i, 0, .one (.fn1 a b x.1)) :: e, L, T)
 | .f2 a c b :: ps, x, i => match iniA G ps x.2 (i + 1) with | (e, L, T) => ((i, 0, .one (.fn2 a c b x.1)) :: e, L, T)
def iniS (G : Sg) (ps : List Pm) (x : DenPs G ps) : St G := match iniA G ps x 0 with | (e, L, T) => ⟨e, 0, L, T⟩
def nmA : List Pm → List Value → List (Nat × List Value) → List (Nat × Value)
 | .pt _ :: ps, v :: vs, e :: Lp => (e.1, v) :: nmA ps vs Lp
 | .ow _ :: ps, v :: vs, e :: Lp => (e.1, v) :: nmA ps vs Lp
 | .rd _ :: ps, _ :: vs, Lp => nmA ps vs Lp
 | .ap _ :: ps, _ :: vs, Lp => nmA ps vs Lp
 | .f1 _ _ :: ps, _ :: vs, Lp => nmA ps vs Lp
 | .f2 _ _ _ :: ps, _ :: vs, Lp => nmA ps vs Lp
 | _, _, _ => []
def Rm.pm : Rm → Pm
 | .rd t => .rd t
 | .ap t => .ap t
 | .ow t => .ow t
def joinR (G : Sg) (os : List Ty) : (rs : List Rm) → DenPs G (rs.map Rm.pm) → DenTs G os → DenTs G (rs.map Rm.ty ++ os)
 | [], _, o => o
 | .rd t :: rs, y, o => mkT G t (rs.map Rm.ty ++ os) y.1 (joinR G os rs y.2 o)
 | .ap t :: rs, y, o => mkT G (.sl t) (rs.map Rm.ty ++ os) y.1 (joinR G os rs y.2 o)
 | .ow t :: rs, y, o => mkT G (.sl t) (rs.map Rm.ty ++ os) y.1 (joinR G os rs y.2 o)
def BC.dt? : BC G → Option ((t : Ty) × t.den G)
 | .dat t x => some ⟨t, x⟩
 | _ => none
def BC.ar? : BC G → Option ((t : Ty) × List (t.den G) × Option Nat)
 | .arr t n x => some ⟨t, x, n⟩
 | _ => none
theorem BC.dt_eq {B : BC G} {q : (t : Ty) × t.den G} (h : B.dt? = some q) : B = .dat q.1 q.2 := by
 cases B <;> simp [BC.dt?] at h
 subst h; rfl
theorem BC.ar_eq {B : BC G} {q : (t : Ty) × List (t.den G) × Option Nat} (h : B.ar? = some q) : B = .arr q.1 q.2.2 q.2.1 := by
 cases B <;> simp [BC.ar?] at h
 subst h; rfl
def outF (G : Sg) : (ps : List Pm) → List (Nat × BC G) → Option (DenTs G (ps.filterMap Pm.out))
 | [], _ => some ()
 | p :: ps, Bs => match p with
  | .pt t => (match Bs with
   | B :: Bs => (match B.2.dt? with
    | some q => (match castTy G q.1 t q.2, outF G ps Bs with | some x, some y => some (mkT G t (ps.filterMap Pm.out) x y) | _, _ => none)
    | none => none)
   | [] => none)
  | .ow t => (match Bs with
   | B :: Bs => (match B.2.ar? with
    | some q => (match castTy G (.sl q.1) (.sl t) q.2.1, outF G ps Bs with | some x, some y => some (mkT G (.sl t) (ps.filterMap Pm.out) x y) | _, _ => none)
    | none => none)
   | [] => none)
  | .rd _ => outF G ps Bs
  | .ap _ => outF G ps Bs
  | .f1 _ _ => outF G ps Bs
  | .f2 _ _ _ => outF G ps Bs
def cnt (ps : List Pm) : Nat := (ps.filterMap Pm.out).length
def finA (Γ : Tab P G) (ps : List Pm) (rs : List Rm) (res : List Nat) (st : St G) : Option (DenTs G (Outs ps rs)) :=
 match argsA Γ (rs.map Rm.pm) (res.map Operand.tmp) (frzPs (rs.map Rm.pm) (res.map Operand.tmp) st) with
 | some (y, st2, _) => (match Nat.ble (cnt ps) st2.L.length, outF G ps (st2.L.drop (st2.L.length - cnt ps)) with
  | true, some o => some (joinR G (ps.filterMap Pm.out) rs y o)
  | _, _ => none)
 | none => none
noncomputable def exF (n : Nat) (Γ : Tab P G) (D : List (CS P G)) (c : Code) (ps : List Pm) (rs : List Rm) (res : List Nat) (A : An G (DenTs G (Outs ps rs))) (x : DenPs G ps) : Option (DenTs G (Outs ps rs)) :=
 ex n Γ D c A (iniS G ps x) (finA Γ ps rs res) (fun _ _ => none) (finA Γ ps rs res)
end
section
variable {G : Sg} {P : Program} {W0 : Bse} {m : M} {z : Cz} {a : Act} {w : World} {Γ : Tab P G}
theorem ini_ok : ∀ {ps : List Pm} {vs : List Value} {x : DenPs G ps} {Lp : List (Nat × List Value)} {Tp : List (Nat × Value)} {i : Nat}, PRel G P m ps vs x Lp Tp → (∀ j v, vs[j]? = some v → a.tmps.getD (i + j) undef = v) →
  ∃ zt, EnvR G P m ⟨nmA ps vs Lp, zt⟩ (iniA G ps x i).1 a ∧ LR G m (iniA G ps x i).2.1 (nmA ps vs Lp) Lp ∧ TRl (iniA G ps x i).2.2 zt Tp ∧ vs.length = ps.length ∧ (nmA ps vs Lp).length = cnt ps := by
 intro ps
 induction ps with
 | nil =>
  intro vs x Lp Tp i h _
  cases vs <;> cases Lp <;> cases Tp <;> first | exact h.elim | exact ⟨[], fun e he => (by cases he), trivial, trivial, rfl, rfl⟩
 | cons p ps ih =>
  intro vs x Lp Tp i h ha
  cases vs with
  | nil => cases p <;> exact h.elim
  | cons v vs =>
   have hv := ha 0 v rfl
   have ha' : ∀ j u, vs[j]? = some u → a.tmps.getD (i + 1 + j) undef = u := fun j u hu => by
    have := ha (j + 1) u (by simpa using hu)
    rw [show i + 1 + j = i + (j + 1) by omega]; exact this
   cases p with
   | rd t =>
    obtain ⟨h1, h2⟩ := h
    obtain ⟨zt, k1, k2, k3, k4, k5⟩ := ih h2 ha'
    refine ⟨zt, fun e he => ?_, k2, k3, by simp [k4], k5⟩
    rcases List.mem_cons.1 he with rfl | he
    ·rw [Nat.add_zero] at hv
     show RV _ m (a.tmps.getD i undef) _ ∧ True
     rw [hv]; exact ⟨h1, trivial⟩
    ·exact k1 e he
   | ap t =>
    cases Tp with
    | nil => exact h.elim
    | cons e Tp =>
     obtain ⟨h1, rfl, h2⟩ := h
     obtain ⟨zt, k1, k2, k3, k4, k5⟩ := ih h2 ha'
     refine ⟨v :: zt, fun e he => ?_, k2, ⟨rfl, k3⟩, by simp [k4], k5⟩
     rcases List.mem_cons.1 he with rfl | he
     ·rw [Nat.add_zero] at hv
      show RV _ m (a.tmps.getD i undef) _ ∧ Tag _ _ _
      rw [hv]
      refine ⟨h1, ?_⟩
      show fb (v :: zt) _ = some v
      rw [← k3.len.1]; exact fb_top
     ·exact (k1 e he).z (Zle.pushT _ v)
   | pt t =>
    cases Lp with
    | nil => exact h.elim
    | cons e Lp =>
     obtain ⟨h1, h3, h2⟩ := h
     obtain ⟨zt, k1, k2, k3, k4, k5⟩ := ih h2 ha'
     refine ⟨zt, fun q hq => ?_, ⟨rfl, h1, k2⟩, k3, by simp [k4], by simp [nmA, k5, cnt, Pm.out]⟩
     rcases List.mem_cons.1 hq with rfl | hq
     ·rw [Nat.add_zero] at hv
      refine ⟨(e.1, v), ?_, by rw [hv]; exact h3⟩
      show fb ((e.1, v) :: nmA ps vs Lp) _ = _
      rw [← k2.len.1]; exact fb_top
     ·exact (k1 q hq).z (Zle.pushB ⟨nmA ps vs Lp, zt⟩ (e.1, v))
   | ow t =>
    cases Lp with
    | nil => exact h.elim
    | cons e Lp =>
     obtain ⟨h1, h2⟩ := h
     obtain ⟨zt, k1, k2, k3, k4, k5⟩ := ih h2 ha'
     refine ⟨zt, fun q hq => ?_, ⟨rfl, ⟨h1, trivial⟩, k2⟩, k3, by simp [k4], by simp [nmA, k5, cnt, Pm.out]⟩
     rcases List.mem_cons.1 hq with rfl | hq
     ·rw [Nat.add_zero] at hv
      refine ⟨(e.1, v), ?_, by rw [hv]⟩
      show fb ((e.1, v) :: nmA ps vs Lp) _ = _
      rw [← k2.len.1]; exact fb_top
     ·exact (k1 q hq).z (Zle.pushB ⟨nmA ps vs Lp, zt⟩ (e.1, v))
   | f1 b c =>
    obtain ⟨h1, h2⟩ := h
    obtain ⟨zt, k1, k2, k3, k4, k5⟩ := ih h2 ha'
    refine ⟨zt, fun e he => ?_, k2, k3, by simp [k4], k5⟩
    rcases List.mem_cons.1 he with rfl | he
    ·rw [Nat.add_zero] at hv
     show Fn1 P _ _ m (a.tmps.getD i undef) _
     rw [hv]; exact h1
    ·exact k1 e he
   | f2 b c d =>
    obtain ⟨h1, h2⟩ := h
    obtain ⟨zt, k1, k2, k3, k4, k5⟩ := ih h2 ha'
    refine ⟨zt, fun e he => ?_, k2, k3, by simp [k4], k5⟩
    rcases List.mem_cons.1 he with rfl | he
    ·rw [Nat.add_zero] at hv
     show Fn2 P _ _ _ m (a.tmps.getD i undef) _
     rw [hv]; exact h1
    ·exact k1 e he
theorem join_ok {os : List Ty} {o : DenTs G os} : ∀ {rs : List Rm} {us : List Value} {y : DenPs G (rs.map Rm.pm)} {Lr : List (Nat × List Value)} {Tr : List (Nat × Value)}, PRel G P m (rs.map Rm.pm) us y Lr Tr → RRel G m os rs us (joinR G os rs y o) Lr Tr ∧ rest G os rs (joinR G os rs y o) = o := by
 intro rs
 induction rs with
 | nil =>
  intro us y Lr Tr h
  cases us <;> cases Lr <;> cases Tr <;> first | exact h.elim | exact ⟨trivial, rfl⟩
 | cons r rs ih =>
  intro us y Lr Tr h
  cases us with
  | nil => cases r <;> exact h.elim
  | cons u us =>
   cases r with
   | rd t =>
    obtain ⟨h1, h2⟩ := h
    obtain ⟨k1, k2⟩ := ih h2
    have e1 : hdT G t (rs.map Rm.ty ++ os) (joinR G os (.rd t :: rs) y o) = y.1 := hd_mk
    have e2 : tlT G t (rs.map Rm.ty ++ os) (joinR G os (.rd t :: rs) y o) = joinR G os rs y.2 o := tl_mk
    exact ⟨⟨e1.symm ▸ h1, e2.symm ▸ k1⟩, (congrArg (rest G os rs) e2).trans k2⟩
   | ap t =>
    cases Tr with
    | nil => exact h.elim
    | cons e Tr =>
     obtain ⟨h1, h3, h2⟩ := h
     obtain ⟨k1, k2⟩ := ih h2
     have e1 : hdT G (.sl t) (rs.map Rm.ty ++ os) (joinR G os (.ap t :: rs) y o) = y.1 := hd_mk
     have e2 : tlT G (.sl t) (rs.map Rm.ty ++ os) (joinR G os (.ap t :: rs) y o) = joinR G os rs y.2 o := tl_mk
     exact ⟨⟨e1.symm ▸ h1, h3, e2.symm ▸ k1⟩, (congrArg (rest G os rs) e2).trans k2⟩
   | ow t =>
    cases Lr with
    | nil => exact h.elim
    | cons e Lr =>
     obtain ⟨h1, h2⟩ := h
     obtain ⟨k1, k2⟩ := ih h2
     have e1 : hdT G (.sl t) (rs.map Rm.ty ++ os) (joinR G os (.ow t :: rs) y o) = y.1 := hd_mk
     have e2 : tlT G (.sl t) (rs.map Rm.ty ++ os) (joinR G os (.ow t :: rs) y o) = joinR G os rs y.2 o := tl_mk
     exact ⟨⟨e1.symm ▸ h1, e2.symm ▸ k1⟩, (congrArg (rest G os rs) e2).trans k2⟩
theorem outF_ok : ∀ {ps : List Pm} {vs : List Value} {Bs : List (Nat × BC G)} {Lp Lp' : List (Nat × List Value)} {x : DenPs G ps} {o : DenTs G (ps.filterMap Pm.out)} {Tp : List (Nat × Value)} {m0 : M}, PRel G P m0 ps vs x Lp Tp → outF G ps Bs = some o → Bs.length = cnt ps → LR G m Bs (nmA ps vs Lp) Lp' → ORel G m ps vs o Lp Lp' := by
 intro ps
 induction ps with
 | nil =>
  intro vs Bs Lp Lp' x o Tp m0 h ho hl hL
  have : Bs = [] := List.eq_nil_of_length_eq_zero hl
  subst this
  cases vs <;> cases Lp <;> cases Tp <;> cases Lp' <;> first | exact h.elim | exact hL.elim | trivial
 | cons p ps ih =>
  intro vs Bs Lp Lp' x o Tp m0 h ho hl hL
  cases vs with
  | nil => cases p <;> exact h.elim
  | cons v vs =>
   cases p with
   | pt t =>
    cases Lp with
    | nil => exact h.elim
    | cons e Lp =>
     obtain ⟨_, _, h2⟩ := h
     cases Bs with
     | nil => simp [cnt, Pm.out] at hl
     | cons B Bs =>
      cases Lp' with
      | nil => exact hL.elim
      | cons e' Lp' =>
       obtain ⟨q1, q2, q3⟩ := hL
       unfold outF at ho
       dsimp only at ho
       cases hq : B.2.dt? with
       | none => simp [hq] at ho
       | some q =>
        simp only [hq] at ho
        rw [BC.dt_eq hq] at q2
        obtain ⟨t', y⟩ := q
        cases hc : castTy G t' t y with
        | none => simp [hc] at ho
        | some y' =>
         cases ho' : outF G ps Bs with
         | none => simp [hc, ho'] at ho
         | some o' =>
          simp only [hc, ho'] at ho
          obtain ⟨ee, hy⟩ := castTy_some hc
          subst ee; subst hy
          have ho := Option.some.inj ho
          subst ho
          have e1 : hdT G t' (ps.filterMap Pm.out) (mkT G t' (ps.filterMap Pm.out) y o') = y := hd_mk
          have e2 : tlT G t' (ps.filterMap Pm.out) (mkT G t' (ps.filterMap Pm.out) y o') = o' := tl_mk
          exact ⟨q1, e1.symm ▸ q2, e2.symm ▸ ih h2 ho' (by simpa [cnt, Pm.out] using hl) q3⟩
   | ow t =>
    cases Lp with
    | nil => exact h.elim
    | cons e Lp =>
     obtain ⟨_, h2⟩ := h
     cases Bs with
     | nil => simp [cnt, Pm.out] at hl
     | cons B Bs =>
      cases Lp' with
      | nil => exact hL.elim
      | cons e' Lp' =>
       obtain ⟨q1, q2, q3⟩ := hL
       unfold outF at ho
       dsimp only at ho
       cases hq : B.2.ar? with
       | none => simp [hq] at ho
       | some q =>
        simp only [hq] at ho
        rw [BC.ar_eq hq] at q2
        obtain ⟨t', y, nn⟩ := q
        cases hc : castTy G (.sl t') (.sl t) y with
        | none => simp [hc] at ho
        | some y' =>
         cases ho' : outF G ps Bs with
         | none => simp [hc, ho'] at ho
         | some o' =>
          simp only [hc, ho'] at ho
          obtain ⟨ee, hy⟩ := castTy_some hc
          injection ee with ee
          subst ee; subst hy
          have ho := Option.some.inj ho
          subst ho
          have e1 : hdT G (.sl t') (ps.filterMap Pm.out) (mkT G (.sl t') (ps.filterMap Pm.out) y o') = y := hd_mk
          have e2 : tlT G (.sl t') (ps.filterMap Pm.out) (mkT G (.sl t') (ps.filterMap Pm.out) y o') = o' := tl_mk
          refine ⟨q1, e1.symm ▸ ?_, e2.symm ▸ ih h2 ho' (by simpa [cnt, Pm.out] using hl) q3⟩
          rw [q1]; exact q2.1
   | rd t => exact ih h.2 ho hl hL
   | ap t =>
    cases Tp with
    | nil => exact h.elim
    | cons e Tp => exact ih h.2.2 ho hl hL
   | f1 b c => exact ih h.2 ho hl hL
   | f2 b c d => exact ih h.2 ho hl hL
theorem S.between {A B C : List (Nat × List Value)} {TL : List (Nat × Value)} (h : S W0 m w (A ++ (B ++ C)) TL) (k : Nat) (hk : k ≤ B.length) : S W0 m w (A ++ (B.drop k ++ C)) TL := by
 refine h.selL _ (fun i => if i < A.length then i else i + k) (fun i e he => ?_) (fun i j hij => ?_)
 ·by_cases hi : i < A.length
  ·rw [if_pos hi]
   rw [List.getElem?_append_left hi] at he ⊢
   exact he
  ·rw [if_neg hi]
   rw [List.getElem?_append_right (by omega)] at he ⊢
   rw [show B.drop k ++ C = (B ++ C).drop k from (List.drop_append_of_le_length hk).symm, List.getElem?_drop] at he
   rw [show i + k - A.length = k + (i - A.length) by omega]; exact he
 ·split at hij <;> split at hij <;> omega
theorem S.betweenT {A B C : List (Nat × Value)} {L : List (Nat × List Value)} (h : S W0 m w L (A ++ (B ++ C))) : S W0 m w L (A ++ C) := by
 refine h.selT _ (fun i => if i < A.length then i else i + B.length) (fun i e he => ?_) (fun i j hij => ?_)
 ·by_cases hi : i < A.length
  ·rw [if_pos hi]
   rw [List.getElem?_append_left hi] at he ⊢
   exact he
  ·rw [if_neg hi]
   rw [List.getElem?_append_right (by omega)] at he ⊢
   rw [List.getElem?_append_right (by omega), show i + B.length - A.length - B.length = i - A.length by omega]; exact he
 ·split at hij <;> split at hij <;> omega
theorem resL_tmps {l : List (Nat × Value)} {n : Nat} (hE : Env n a l) : ∀ {res : List Nat}, (∀ t ∈ res, lk l t = some (a.tmps.getD t undef)) → ResL P a w (res.map ResultVar.tmp) (res.map fun t => a.tmps.getD t undef)
 | [], _ => .nil
 | t :: res, h => .tmp hE (h t (by simp)) (resL_tmps hE fun u hu => h u (by simp [hu]))
theorem fin_ok {n : Nat} {fn : Func} {ps : List Pm} {rs : List Rm} {res : List Nat} {st : St G} {L : List (Nat × List Value)} {TL : List (Nat × Value)} {vs : List Value} {x : DenPs G ps} {Lp : List (Nat × List Value)} {Tp : List (Nat × Value)} {m0 : M} {r : DenTs G (Outs ps rs)}
  (hres : fn.results.toList = res.map ResultVar.tmp) (hP : PRel G P m0 ps vs x Lp Tp) (hnl : (nmA ps vs Lp).length = cnt ps) (hs : Sat G P [] n W0 ⟨L, nmA ps vs Lp⟩ TL m0 st a w) (h : finA Γ ps rs res st = some r) :
  Fin P fn (fun v w' => ∃ (m' : M) (us : List Value) (Lr Lp' : List (Nat × List Value)) (Tr : List (Nat × Value)), M.le m0 m' ∧ S W0 m' w' (Lr ++ (Lp' ++ L)) (Tr ++ TL) ∧ v = tup us ∧ RRel G m' (ps.filterMap Pm.out) rs us r Lr Tr ∧ ORel G m' ps vs (rest G (ps.filterMap Pm.out) rs r) Lp Lp') a w := by
 obtain ⟨⟨m, z, h0, hr, Lc, Tc, h1, h2, hS, hsf⟩, hdf, hsz⟩ := hs
 unfold finA at h
 obtain ⟨m1, hm1, hF, _, _⟩ := frzPs_ok (G := G) (P := P) (L0 := ⟨L, nmA ps vs Lp⟩) (T0 := TL) (ps := rs.map Rm.pm) (xs := res.map Operand.tmp) (st := st) (m := m) (z := z) ⟨hr, Lc, Tc, h1, h2, hS, hsf⟩
 split at h
 ·rename_i y st2 bk he
  split at h
  ·rename_i o hc ho
   injection h with h
   subst h
   obtain ⟨z', Lr, Tr, hz, ⟨_, Lc2, Tc2, k1, k2, hS2, hsf2⟩, hPR, _⟩ := argsA_ok hF he
   have hlen := k1.len
   have hc := Nat.le_of_ble_eq_true hc
   obtain ⟨pre, hpre⟩ := hsf2
   simp only at hpre
   have hpl : pre.length = st2.L.length - cnt ps := by
    have := congrArg List.length hpre
    rw [List.length_append, hlen.1, hnl] at this; omega
   have hdz : z'.b.drop (st2.L.length - cnt ps) = nmA ps vs Lp := by rw [hpre, ← hpl, List.drop_left]
   have kd := k1.drop (st2.L.length - cnt ps)
   rw [hdz] at kd
   have hO := outF_ok hP ho (by simp; omega) kd
   obtain ⟨j1, j2⟩ := join_ok (os := ps.filterMap Pm.out) (o := o) hPR
   have hus : (res.map Operand.tmp).map a.eval = res.map fun t => a.tmps.getD t undef := by
    simp only [List.map_map, Function.comp_def]; rfl
   obtain ⟨l, hE, hl⟩ := opEnv hdf hsz (res.map Operand.tmp)
   refine Fin.mk hE hres (resL_tmps hE fun t ht => hl (.tmp t) (List.mem_map_of_mem ht)) ⟨m1, _, Lr, Lc2.drop (st2.L.length - cnt ps), Tr, h0.trans hm1, ?_, rfl, ?_, ?_⟩
   ·exact (S.between hS2 _ (by omega)).betweenT
   ·rw [← hus]; exact j1
   ·rw [j2]; exact hO
  ·cases h
 ·cases h
theorem Ctr.of {f : FuncId} {fn : Func} {c : Code} {n : Nat} {ps : List Pm} {rs : List Rm} {res : List Nat} {D : List (CS P G)} {g : DenPs G ps → Option (DenTs G (Outs ps rs))} (A : An G (DenTs G (Outs ps rs)))
  (hmx : P.follows .mixedOrders = true) (hf : P.funcs[f]? = some fn) (hb : fn.body = some c) (hn : fn.ntmps = n) (hle : Nat.ble ps.length n = true) (hres : fn.results.toList = res.map ResultVar.tmp)
  (hO : Obl (cnt ps) n Γ D c A 0 (finA Γ ps rs res) (fun _ _ => none) (finA Γ ps rs res)) (h : ∀ x, exF n Γ D c ps rs res A x = g x) : Ctr G P f ps rs g := by
 intro W0 m w L TL vs x r Lp Tp hS hP hg
 rw [← h x] at hg
 have hlen : vs.length = ps.length := (ini_ok (a := { tmps := vs.toArray, defers := [] }) (i := 0) hP (fun j v hj => by simp [hj])).choose_spec.2.2.2.1
 refine kcall hf hb hn (by rw [hlen]; exact Nat.le_of_ble_eq_true hle) fun a hE => ?_
 have hargs : ∀ j v, vs[j]? = some v → a.tmps.getD (0 + j) undef = v := by
  intro j v hj
  rw [Nat.zero_add]
  refine hE.at_ j v ?_
  have key : ∀ (l : List Value) (k : Nat) (j : Nat) (v : Value), l[j]? = some v → lk ((List.range' k l.length).zip l) (k + j) = some v := by
   intro l
   induction l with
   | nil => intro k j v h; simp at h
   | cons u l ih =>
    intro k j v h
    simp only [List.length_cons, List.range'_succ, List.zip_cons_cons, lk]
    cases j with
    | zero => simp at h; subst h; simp
    | succ j =>
     have hb : Nat.beq k (k + (j + 1)) = false := by
      cases hb : Nat.beq k (k + (j + 1)) with
      | false => rfl
      | true => have := Nat.eq_of_beq_eq_true hb; omega
     simp only [hb]
     have := ih (k + 1) j v (by simpa using h)
     rw [show k + 1 + j = k + (j + 1) by omega] at this
     exact this
  have := key vs 0 j v hj
  rw [List.range_eq_range']
  simpa using this
 obtain ⟨zt, k1, k2, k3, _, k5⟩ := ini_ok (a := a) (i := 0) hP hargs
 have hs : Sat G P [] n W0 ⟨L, nmA ps vs Lp⟩ TL m (iniS G ps x) a w := ⟨⟨m, ⟨nmA ps vs Lp, zt⟩, M.le.refl m, k1, Lp, Tp, k2, k3, hS, ⟨[], rfl⟩⟩, hE.defers, hE.size⟩
 refine ex_sound (np := cnt ps) (L0 := ⟨L, nmA ps vs Lp⟩) (by rw [k5]; exact Nat.le_refl _) hmx c A (iniS G ps x) _ _ _ r a w _ _ _ hg hO hs ?_ ?_ ?_
 ·intro st' a' w' h1 h2 _ _; exact fin_ok hres hP k5 h2 h1
 ·intro j st' a' w' h1; cases h1
 ·intro st' a' w' h1 h2 _ _; exact fin_ok hres hP k5 h2 h1
end
end Go.Proofs.YthbonoagbeilkaaGreat.Hay
namespace Go.Proofs.YthbonoagbeilkaaGreat.Hay
def lookD {β : Nat → Type} : List ((i : Nat) × β i) → (j : Nat) → Option (β j)
 | [], _ => none
 | ⟨i, x⟩ :: l, j => if h : i = j then some (h ▸ x) else lookD l j
def lookD2 {β : Nat → Nat → Type} : List ((i : Nat) × (k : Nat) × β i k) → (j l : Nat) → Option (β j l)
 | [], _, _ => none
 | ⟨i, k, x⟩ :: r, j, l => if h : i = j then (if h' : k = l then some (h ▸ h' ▸ x) else lookD2 r j l) else lookD2 r j l
def sgLook : List (Nat × ((α : Type) × Kd α)) → Nat → (α : Type) × Kd α
 | [], _ => ⟨Bool, kBool⟩
 | (i, p) :: l, j => if Nat.beq i j then p else sgLook l j
def mkSg (l : List (Nat × ((α : Type) × Kd α))) : Sg := ⟨fun i => (sgLook l i).1, fun i => (sgLook l i).2⟩
section
variable {P : Program} {G : Sg}
def tiInt {i : TypeId} {k : IntKind} {zv : Value} (h : P.underlying i = some (.int k)) (hs : ∀ w, (sizeOf i).run P w = .ok 1 w) (ha : ∀ w, (isAgg i).run P w = .ok false w) (hz : ∀ w, (zeroValue i).run P w = .ok zv w) (hv : zv = .int k 0) (h0 : k.wrap 0 = 0) : TI P G i :=
 ⟨.int k, ⟨hs, ha⟩, ⟨h⟩, (0 : Int), zv, hz, fun m => by subst hv; exact ⟨rfl, h0⟩⟩
def tiBool {i : TypeId} {zv : Value} (h : P.underlying i = some .bool) (hs : ∀ w, (sizeOf i).run P w = .ok 1 w) (ha : ∀ w, (isAgg i).run P w = .ok false w) (hz : ∀ w, (zeroValue i).run P w = .ok zv w) (hv : zv = .bool false) : TI P G i :=
 ⟨.bool, ⟨hs, ha⟩, ⟨h⟩, false, zv, hz, fun m => by subst hv; exact rfl⟩
def tiStr {i : TypeId} {zv : Value} (h : P.underlying i = some .string) (hs : ∀ w, (sizeOf i).run P w = .ok 1 w) (ha : ∀ w, (isAgg i).run P w = .ok false w) (hz : ∀ w, (zeroValue i).run P w = .ok zv w) (hv : zv = .string ⟨#[]⟩) : TI P G i :=
 ⟨.str, ⟨hs, ha⟩, ⟨h⟩, ([] : List Int), zv, hz, fun m => by subst hv; exact ⟨rfl, by simp, by simp⟩⟩
def tiSl {i : TypeId} (t : Ty) (B : SlI P G i t) {zv : Value} (hs : ∀ w, (sizeOf i).run P w = .ok 1 w) (ha : ∀ w, (isAgg i).run P w = .ok false w) (hz : ∀ w, (zeroValue i).run P w = .ok zv w) (hv : zv = .slice none 0 0) : TI P G i :=
 ⟨.sl t, ⟨hs, ha⟩, B, ([] : List (t.den G)), zv, hz, fun m => by subst hv; exact ⟨none, 0, 0, rfl, rfl, Nat.le_refl _, by simp, rfl⟩⟩
end
end Go.Proofs.YthbonoagbeilkaaGreat.Hay
namespace Go.Proofs.YthbonoagbeilkaaGreat.Hay
section
variable {G : Sg} {P : Program}
def An.nc : {ρ : Type} → An G ρ → Bool
 | _, .o => true
 | _, .s p q => p.nc && q.nc
 | _, .c _ _ _ _ => false
 | _, .l _ q => q.nc
 | _, .b p => p.nc
 | _, .i p q => p.nc && q.nc
theorem Obl.nc (np n : Nat) (Γ : Tab P G) (D : List (CS P G)) (c : Code) : ∀ {ρ : Type} (A : An G ρ) (d : Nat) (N : St G → Option ρ) (X : Nat → St G → Option ρ) (R : St G → Option ρ), A.nc = true → Obl np n Γ D c A d N X R := by
 induction c with
 | seq x y hx hy =>
  intro ρ A d N X R h
  cases A with
  | s l r =>
   have h : (l.nc && r.nc) = true := h
   rw [Bool.and_eq_true] at h
   exact ⟨hx l d _ X R h.1, hy r d N X R h.2⟩
  | c l T J r => cases h
  | _ => exact trivial
 | cond c x y hx hy =>
  intro ρ A d N X R h
  cases A with
  | i l r =>
   have h : (l.nc && r.nc) = true := h
   rw [Bool.and_eq_true] at h
   exact ⟨hx l d N X R h.1, hy r d N X R h.2⟩
  | _ => exact trivial
 | block id c hc =>
  intro ρ A d N X R h
  cases A with
  | b a => exact hc a d N _ R h
  | _ => exact trivial
 | scope c hc =>
  intro ρ A d N X R h
  cases A with
  | b a => exact hc a d N X R h
  | _ => exact trivial
 | loop c hc =>
  intro ρ A d N X R h
  cases A with
  | l T b => exact hc b (d + 1) _ _ _ h
  | _ => exact trivial
 | _ => intro ρ A d N X R h; exact trivial
theorem Ctr.nc {Γ : Tab P G} {f : FuncId} {fn : Func} {c : Code} {n : Nat} {ps : List Pm} {rs : List Rm} {res : List Nat} {D : List (CS P G)} {g : DenPs G ps → Option (DenTs G (Outs ps rs))} (A : An G (DenTs G (Outs ps rs)))
  (hA : A.nc = true) (hmx : P.follows .mixedOrders = true) (hf : P.funcs[f]? = some fn) (hb : fn.body = some c) (hn : fn.ntmps = n) (hle : Nat.ble ps.length n = true) (hres : fn.results.toList = res.map ResultVar.tmp)
  (h : ∀ x, exF n Γ D c ps rs res A x = g x) : Ctr G P f ps rs g :=
 Ctr.of A hmx hf hb hn hle hres (Obl.nc _ _ _ _ c A 0 _ _ _ hA) h
end
end Go.Proofs.YthbonoagbeilkaaGreat.Hay
namespace Go.Proofs.YthbonoagbeilkaaGreat.Hay
section
variable {P : Program} {G : Sg}
def slI {i e : TypeId} (E : TI P G e) (inf : TypeInfo) (by_ : Nat) (hu : P.underlying i = some (.slice e)) (hs : ∀ w, (sizeOf e).run P w = .ok (E.T.kd G).sz w) (hel : ElOK P e (E.T.kd G).sz by_) (hi : P.info? e = some inf) (hiz : inf.zero = some E.zv) (hsz : inf.size = (E.T.kd G).sz) (hby : inf.bytes = by_) : SlI P G i E.T :=
 ⟨e, by_, E.z, E.zv, inf, hu, hs, hel, E.hz, E.hzR, hi, hiz, hsz, hby⟩
def tiSt {i : TypeId} {zv : Value} (ok : TyOK P i (G.k i)) (hz : ∀ w, (zeroValue i).run P w = .ok zv w) (z : G.α i) (hzR : ∀ m, (G.k i).R m zv.cells.toList z) : TI P G i :=
 ⟨.st i, ok, (), z, zv, hz, hzR⟩
def arI {i e : TypeId} (E : TI P G e) (n : Nat) {zv : Value} (hu : P.underlying i = some (.array n e)) (hs : ∀ w, (sizeOf e).run P w = .ok (E.T.kd G).sz w) (hz : ∀ w, (zeroValue i).run P w = .ok zv w) (hzc : zv.cells = ((List.replicate n E.zv.cells.toList).flatten).toArray) (hn : Nat.ble n maxSz = true) : AI P G i :=
 ⟨n, E.T, e, E.z, zv, E.zv.cells.toList, hu, hs, hz, hzc, E.hzR, hn⟩
end
end Go.Proofs.YthbonoagbeilkaaGreat.Hay
set_option linter.unusedVariables false
set_option linter.unusedSimpArgs false
namespace Go.Proofs.YthbonoagbeilkaaGreat.Hay
section
variable {G : Sg} {P : Program} {W0 : Bse} {m : M} {z : Cz} {a : Act} {w : World} {Γ : Tab P G}
def cellA (Γ : Tab P G) (st : St G) (b t : Nat) : Option (AV G) :=
 match Γ.ty t, av? (st.op (.tmp b)) with
 | some I, some (.blk i) => (match lvOf st.L i with
  | some (.dat c x) => if c = I.T then some (.dat c x none) else none
  | _ => none)
 | _, _ => none
def cellsA (Γ : Tab P G) (n : Nat) : Nat → List ResultVar → St G → Option (List Nat × St G)
 | _, [], st => some ([], st)
 | k, .tmp t :: r, st => (match Nat.blt t n, cellsA Γ n k r st with
  | true, some (ts, st') => some (t :: ts, st')
  | _, _ => none)
 | k, .cell b t :: r, st => (match Nat.blt b n, cellA Γ st b t with
  | true, some v => (match cellsA Γ n (k + 1) r (st.put k (.one v)) with | some (ts, st') => some (k :: ts, st') | none => none)
  | _, _ => none)
def finX (Γ : Tab P G) (n : Nat) (ps : List Pm) (rs : List Rm) (res : List ResultVar) (st : St G) : Option (DenTs G (Outs ps rs)) :=
 match cellsA Γ n n res st with
 | some (ts, st') => finA Γ ps rs ts st'
 | none => none
noncomputable def exX (n : Nat) (Γ : Tab P G) (D : List (CS P G)) (c : Code) (ps : List Pm) (rs : List Rm) (res : List ResultVar) (A : An G (DenTs G (Outs ps rs))) (x : DenPs G ps) : Option (DenTs G (Outs ps rs)) :=
 ex n Γ D c A (iniS G ps x) (finX Γ n ps rs res) (fun _ _ => none) (finX Γ n ps rs res)
theorem getD_push_lt {xs : Array Value} {v : Value} {t : Nat} (h : t ≠ xs.size) : (xs.push v).getD t undef = xs.getD t undef := by
 simp only [Array.getD_eq_getD_getElem?, Array.getElem?_push]
 rw [if_neg h]
theorem getD_push_eq {xs : Array Value} {v : Value} : (xs.push v).getD xs.size undef = v := by
 simp [Array.getD_eq_getD_getElem?, Array.getElem?_push]
theorem cells_ok {n : Nat} {L0 : Rs} {T0 : List (Nat × Value)} {m0 : M} : ∀ {res : List ResultVar} {k : Nat} {st : St G} {a' : Act} {ts : List Nat} {st' : St G}, Sat G P [] k W0 L0 T0 m0 st a' w → n ≤ k → (∀ t, t < n → a'.tmps.getD t undef = a.tmps.getD t undef) → cellsA Γ n k res st = some (ts, st') →
  ∃ (k' : Nat) (a'' : Act), Sat G P [] k' W0 L0 T0 m0 st' a'' w ∧ (∀ t, t < k → a''.tmps.getD t undef = a'.tmps.getD t undef) ∧ ResL P a w res (ts.map fun t => a''.tmps.getD t undef) := by
 intro res
 induction res with
 | nil =>
  intro k st a' ts st' hs hk ha h
  unfold cellsA at h
  obtain ⟨rfl, rfl⟩ := Prod.mk.inj (Option.some.inj h)
  exact ⟨k, a', hs, fun _ _ => rfl, .nil⟩
 | cons r res ih =>
  intro k st a' ts st' hs hk ha h
  cases r with
  | tmp t =>
   unfold cellsA at h
   split at h
   ·rename_i ts0 st0 ht h0
    obtain ⟨rfl, rfl⟩ := Prod.mk.inj (Option.some.inj h)
    have ht : t < n := Nat.le_of_ble_eq_true ht
    obtain ⟨k', a'', h1, h2, h3⟩ := ih hs hk ha h0
    refine ⟨k', a'', h1, h2, .cons ?_ h3⟩
    simp only
    rw [← ha t ht, ← h2 t (Nat.lt_of_lt_of_le ht hk)]
    rfl
   ·cases h
  | cell b t =>
   unfold cellsA at h
   split at h
   ·rename_i v hb hv
    have hb : b < n := Nat.le_of_ble_eq_true hb
    cases hq : cellsA Γ n (k + 1) res (st.put k (.one v)) with
    | none => rw [hq] at h; cases h
    | some q =>
     rw [hq] at h
     obtain ⟨ts0, st0⟩ := q
     obtain ⟨rfl, rfl⟩ := Prod.mk.inj (Option.some.inj h)
     unfold cellA at hv
     split at hv
     ·rename_i I i hI hi
      split at hv
      ·rename_i c x hB
       split at hv
       ·rename_i hc
        injection hv with hv
        subst hv
        subst hc
        obtain ⟨⟨m, z, h0, hr, hM⟩, hdf, hsz⟩ := hs
        obtain ⟨p', hp1, hp2⟩ := av_rel (op_rel hr) hi
        obtain ⟨L, TL, p, cs, j, hS, g1, g2, g3⟩ := hM.get hB
        rw [g1] at hp1
        injection hp1 with hp1
        subst hp1
        have hRV : RV (I.T.kd G) m ((I.T.kd G).val cs) x := RV_of_R g3
        have hs' : Sat G P [] (k + 1) W0 L0 T0 m0 (st.put k (.one (.dat I.T x none))) { a' with tmps := a'.tmps.push ((I.T.kd G).val cs) } w := by
         refine ⟨⟨m, z, h0, ?_, hM⟩, hdf, by simp [hsz]⟩
         intro e he
         rcases List.mem_cons.1 he with rfl | he
         ·simp only
          rw [← hsz, getD_push_eq]
          exact ⟨hRV, trivial⟩
         ·obtain ⟨q1, q2⟩ := mem_rmk he
          have := hr e q1
          simp only
          rw [getD_push_lt (by rw [hsz]; exact q2)]
          exact this
        obtain ⟨k', a'', h1, h2, h3⟩ := ih hs' (by omega) (fun t ht => by
         simp only
         rw [getD_push_lt (by rw [hsz]; omega)]
         exact ha t ht) hq
        refine ⟨k', a'', h1, fun t ht => ?_, .cons ?_ h3⟩
        ·rw [h2 t (by omega)]
         simp only
         rw [getD_push_lt (by rw [hsz]; omega)]
        ·have e1 : a''.tmps.getD k undef = (I.T.kd G).val cs := by
          rw [h2 k (by omega)]
          simp only
          rw [← hsz, getD_push_eq]
         have e2 : a.tmps.getD b undef = .pointer (some ⟨p.1, 0, none⟩) := by
          rw [← ha b hb]; exact hp2
         simp only
         rw [e1, e2]
         have hA : At w p.1 0 cs := by
          have := hS.atL g2 (o := 0) (cs' := cs) (by simp) (by rw [(I.T.kd G).len g3]; exact (I.T.kd G).pos)
          exact this
         simp [asAddr, run_load_val I.ok g3 hA]
       ·cases hv
      ·cases hv
     ·cases hv
   ·cases h
theorem finX_ok {n : Nat} {fn : Func} {ps : List Pm} {rs : List Rm} {res : List ResultVar} {st : St G} {L : List (Nat × List Value)} {TL : List (Nat × Value)} {vs : List Value} {x : DenPs G ps} {Lp : List (Nat × List Value)} {Tp : List (Nat × Value)} {m0 : M} {r : DenTs G (Outs ps rs)}
  (hres : fn.results.toList = res) (hP : PRel G P m0 ps vs x Lp Tp) (hnl : (nmA ps vs Lp).length = cnt ps) (hs0 : Sat G P [] n W0 ⟨L, nmA ps vs Lp⟩ TL m0 st a w) (h : finX Γ n ps rs res st = some r) :
  Fin P fn (fun v w' => ∃ (m' : M) (us : List Value) (Lr Lp' : List (Nat × List Value)) (Tr : List (Nat × Value)), M.le m0 m' ∧ S W0 m' w' (Lr ++ (Lp' ++ L)) (Tr ++ TL) ∧ v = tup us ∧ RRel G m' (ps.filterMap Pm.out) rs us r Lr Tr ∧ ORel G m' ps vs (rest G (ps.filterMap Pm.out) rs r) Lp Lp') a w := by
 unfold finX at h
 split at h
 ·rename_i ts st9 hcells
  obtain ⟨k', a9, hs, _, hRL⟩ := cells_ok (a := a) hs0 (Nat.le_refl n) (fun _ _ => rfl) hcells
  obtain ⟨l0, hE0, _⟩ := opEnv hs0.df hs0.sz []
  obtain ⟨⟨m, z, h0, hr, Lc, Tc, h1, h2, hS, hsf⟩, hdf, hsz⟩ := hs
  unfold finA at h
  obtain ⟨m1, hm1, hF, _, _⟩ := frzPs_ok (G := G) (P := P) (L0 := ⟨L, nmA ps vs Lp⟩) (T0 := TL) (ps := rs.map Rm.pm) (xs := ts.map Operand.tmp) (st := st9) (m := m) (z := z) ⟨hr, Lc, Tc, h1, h2, hS, hsf⟩
  split at h
  ·rename_i y st2 bk he
   split at h
   ·rename_i o hc ho
    injection h with h
    subst h
    obtain ⟨z', Lr, Tr, hz, ⟨_, Lc2, Tc2, k1, k2, hS2, hsf2⟩, hPR, _⟩ := argsA_ok hF he
    have hlen := k1.len
    have hc := Nat.le_of_ble_eq_true hc
    obtain ⟨pre, hpre⟩ := hsf2
    simp only at hpre
    have hpl : pre.length = st2.L.length - cnt ps := by
     have := congrArg List.length hpre
     rw [List.length_append, hlen.1, hnl] at this; omega
    have hdz : z'.b.drop (st2.L.length - cnt ps) = nmA ps vs Lp := by rw [hpre, ← hpl, List.drop_left]
    have kd := k1.drop (st2.L.length - cnt ps)
    rw [hdz] at kd
    have hO := outF_ok hP ho (by simp; omega) kd
    obtain ⟨j1, j2⟩ := join_ok (os := ps.filterMap Pm.out) (o := o) hPR
    have hus : (ts.map Operand.tmp).map a9.eval = ts.map fun t => a9.tmps.getD t undef := by
     simp only [List.map_map, Function.comp_def]; rfl
    refine Fin.mk hE0 hres hRL ⟨m1, _, Lr, Lc2.drop (st2.L.length - cnt ps), Tr, h0.trans hm1, ?_, rfl, ?_, ?_⟩
    ·exact (S.between hS2 _ (by omega)).betweenT
    ·rw [← hus]; exact j1
    ·rw [j2]; exact hO
   ·cases h
  ·cases h
 ·cases h
theorem Ctr.ofX {f : FuncId} {fn : Func} {c : Code} {n : Nat} {ps : List Pm} {rs : List Rm} {res : List ResultVar} {D : List (CS P G)} {g : DenPs G ps → Option (DenTs G (Outs ps rs))} (A : An G (DenTs G (Outs ps rs)))
  (hmx : P.follows .mixedOrders = true) (hf : P.funcs[f]? = some fn) (hb : fn.body = some c) (hn : fn.ntmps = n) (hle : Nat.ble ps.length n = true) (hres : fn.results.toList = res)
  (hO : Obl (cnt ps) n Γ D c A 0 (finX Γ n ps rs res) (fun _ _ => none) (finX Γ n ps rs res)) (h : ∀ x, exX n Γ D c ps rs res A x = g x) : Ctr G P f ps rs g := by
 intro W0 m w L TL vs x r Lp Tp hS hP hg
 rw [← h x] at hg
 have hlen : vs.length = ps.length := (ini_ok (a := { tmps := vs.toArray, defers := [] }) (i := 0) hP (fun j v hj => by simp [hj])).choose_spec.2.2.2.1
 refine kcall hf hb hn (by rw [hlen]; exact Nat.le_of_ble_eq_true hle) fun a hE => ?_
 have hargs : ∀ j v, vs[j]? = some v → a.tmps.getD (0 + j) undef = v := by
  intro j v hj
  rw [Nat.zero_add]
  refine hE.at_ j v ?_
  have key : ∀ (l : List Value) (k : Nat) (j : Nat) (v : Value), l[j]? = some v → lk ((List.range' k l.length).zip l) (k + j) = some v := by
   intro l
   induction l with
   | nil => intro k j v h; simp at h
   | cons u l ih =>
    intro k j v h
    simp only [List.length_cons, List.range'_succ, List.zip_cons_cons, lk]
    cases j with
    | zero => simp at h; subst h; simp
    | succ j =>
     have hb : Nat.beq k (k + (j + 1)) = false := by
      cases hb : Nat.beq k (k + (j + 1)) with
      | false => rfl
      | true => have := Nat.eq_of_beq_eq_true hb; omega
     simp only [hb]
     have := ih (k + 1) j v (by simpa using h)
     rw [show k + 1 + j = k + (j + 1) by omega] at this
     exact this
  have := key vs 0 j v hj
  rw [List.range_eq_range']
  simpa using this
 obtain ⟨zt, k1, k2, k3, _, k5⟩ := ini_ok (a := a) (i := 0) hP hargs
 have hs : Sat G P [] n W0 ⟨L, nmA ps vs Lp⟩ TL m (iniS G ps x) a w := ⟨⟨m, ⟨nmA ps vs Lp, zt⟩, M.le.refl m, k1, Lp, Tp, k2, k3, hS, ⟨[], rfl⟩⟩, hE.defers, hE.size⟩
 refine ex_sound (np := cnt ps) (L0 := ⟨L, nmA ps vs Lp⟩) (by rw [k5]; exact Nat.le_refl _) hmx c A (iniS G ps x) _ _ _ r a w _ _ _ hg hO hs ?_ ?_ ?_
 ·intro st' a' w' h1 h2 _ _; exact finX_ok hres hP k5 h2 h1
 ·intro j st' a' w' h1; cases h1
 ·intro st' a' w' h1 h2 _ _; exact finX_ok hres hP k5 h2 h1
theorem Ctr.nX {Γ : Tab P G} {f : FuncId} {fn : Func} {c : Code} {n : Nat} {ps : List Pm} {rs : List Rm} {res : List ResultVar} {D : List (CS P G)} {g : DenPs G ps → Option (DenTs G (Outs ps rs))} (A : An G (DenTs G (Outs ps rs)))
  (hA : A.nc = true) (hmx : P.follows .mixedOrders = true) (hf : P.funcs[f]? = some fn) (hb : fn.body = some c) (hn : fn.ntmps = n) (hle : Nat.ble ps.length n = true) (hres : fn.results.toList = res)
  (h : ∀ x, exX n Γ D c ps rs res A x = g x) : Ctr G P f ps rs g :=
 Ctr.ofX A hmx hf hb hn hle hres (Obl.nc _ _ _ _ c A 0 _ _ _ hA) h
end
end Go.Proofs.YthbonoagbeilkaaGreat.Hay
set_option linter.unusedVariables false
namespace Go.Proofs.YthbonoagbeilkaaGreat.Hay
section
variable {G : Sg} {P : Program} {m : M} {os : List Ty} {ps : List Pm} {rs : List Rm} {vs us : List Value} {Lp Lp' Lr : List (Nat × List Value)} {Tp Tr : List (Nat × Value)}
theorem PR_nil {x : DenPs G []} (h : PRel G P m [] vs x Lp Tp) : vs = [] ∧ Lp = [] ∧ Tp = [] := by
 cases vs <;> cases Lp <;> cases Tp <;> first | exact ⟨rfl, rfl, rfl⟩ | exact h.elim
theorem PR_rd {t : Ty} {x : DenPs G (.rd t :: ps)} (h : PRel G P m (.rd t :: ps) vs x Lp Tp) : ∃ v vs', vs = v :: vs' ∧ RV (t.kd G) m v x.1 ∧ PRel G P m ps vs' x.2 Lp Tp := by
 cases vs with
 | nil => cases Lp <;> cases Tp <;> exact h.elim
 | cons v vs => exact ⟨v, vs, rfl, h.1, h.2⟩
theorem PR_ap {t : Ty} {x : DenPs G (.ap t :: ps)} (h : PRel G P m (.ap t :: ps) vs x Lp Tp) : ∃ v vs' Tp', vs = v :: vs' ∧ Tp = ((t.kd G).sz, v) :: Tp' ∧ RV (kSl (t.kd G)) m v x.1 ∧ PRel G P m ps vs' x.2 Lp Tp' := by
 cases vs with
 | nil => cases Lp <;> cases Tp <;> exact h.elim
 | cons v vs =>
  cases Tp with
  | nil => cases Lp <;> exact h.elim
  | cons e Tp => obtain ⟨h1, rfl, h2⟩ := h; exact ⟨v, vs, Tp, rfl, rfl, h1, h2⟩
theorem PR_pt {t : Ty} {x : DenPs G (.pt t :: ps)} (h : PRel G P m (.pt t :: ps) vs x Lp Tp) : ∃ b cs vs' Lp', vs = .pointer (some ⟨b, 0, none⟩) :: vs' ∧ Lp = (b, cs) :: Lp' ∧ (t.kd G).R m cs x.1 ∧ PRel G P m ps vs' x.2 Lp' Tp := by
 cases vs with
 | nil => cases Lp <;> cases Tp <;> exact h.elim
 | cons v vs =>
  cases Lp with
  | nil => cases Tp <;> exact h.elim
  | cons e Lp => obtain ⟨h1, rfl, h2⟩ := h; exact ⟨e.1, e.2, vs, Lp, rfl, rfl, h1, h2⟩
theorem RR_nil {x : DenTs G (([] : List Rm).map Rm.ty ++ os)} (h : RRel G m os [] us x Lr Tr) : us = [] ∧ Lr = [] ∧ Tr = [] := by
 cases us <;> cases Lr <;> cases Tr <;> first | exact ⟨rfl, rfl, rfl⟩ | exact h.elim
theorem RR_rd {t : Ty} {x : DenTs G ((Rm.rd t :: rs).map Rm.ty ++ os)} (h : RRel G m os (.rd t :: rs) us x Lr Tr) : ∃ v us', us = v :: us' ∧ RV (t.kd G) m v (hdT G t (rs.map Rm.ty ++ os) x) ∧ RRel G m os rs us' (tlT G t (rs.map Rm.ty ++ os) x) Lr Tr := by
 cases us with
 | nil => cases Lr <;> cases Tr <;> exact h.elim
 | cons v us => exact ⟨v, us, rfl, h.1, h.2⟩
theorem RR_ap {t : Ty} {x : DenTs G ((Rm.ap t :: rs).map Rm.ty ++ os)} (h : RRel G m os (.ap t :: rs) us x Lr Tr) : ∃ v us' Tr', us = v :: us' ∧ Tr = ((t.kd G).sz, v) :: Tr' ∧ RV (kSl (t.kd G)) m v (hdT G (.sl t) (rs.map Rm.ty ++ os) x) ∧ RRel G m os rs us' (tlT G (.sl t) (rs.map Rm.ty ++ os) x) Lr Tr' := by
 cases us with
 | nil => cases Lr <;> cases Tr <;> exact h.elim
 | cons v us =>
  cases Tr with
  | nil => cases Lr <;> exact h.elim
  | cons e Tr => obtain ⟨h1, rfl, h2⟩ := h; exact ⟨v, us, Tr, rfl, rfl, h1, h2⟩
theorem OR_nil {x : DenTs G (([] : List Pm).filterMap Pm.out)} (h : ORel G m [] vs x Lp Lp') : Lp' = [] := by
 cases vs <;> cases Lp <;> cases Lp' <;> first | rfl | exact h.elim
theorem OR_rd {t : Ty} {v : Value} {x : DenTs G ((Pm.rd t :: ps).filterMap Pm.out)} (h : ORel G m (.rd t :: ps) (v :: vs) x Lp Lp') : ORel G m ps vs x Lp Lp' := h
theorem OR_ap {t : Ty} {v : Value} {x : DenTs G ((Pm.ap t :: ps).filterMap Pm.out)} (h : ORel G m (.ap t :: ps) (v :: vs) x Lp Lp') : ORel G m ps vs x Lp Lp' := h
theorem OR_f1 {a b : Ty} {v : Value} {x : DenTs G ((Pm.f1 a b :: ps).filterMap Pm.out)} (h : ORel G m (.f1 a b :: ps) (v :: vs) x Lp Lp') : ORel G m ps vs x Lp Lp' := h
theorem OR_f2 {a c b : Ty} {v : Value} {x : DenTs G ((Pm.f2 a c b :: ps).filterMap Pm.out)} (h : ORel G m (.f2 a c b :: ps) (v :: vs) x Lp Lp') : ORel G m ps vs x Lp Lp' := h
theorem OR_pt {t : Ty} {v : Value} {b : Nat} {cs : List Value} {x : DenTs G ((Pm.pt t :: ps).filterMap Pm.out)} (h : ORel G m (.pt t :: ps) (v :: vs) x ((b, cs) :: Lp) Lp') : ∃ cs' Lp'', Lp' = (b, cs') :: Lp'' ∧ (t.kd G).R m cs' (hdT G t (ps.filterMap Pm.out) x) ∧ ORel G m ps vs (tlT G t (ps.filterMap Pm.out) x) Lp Lp'' := by
 cases Lp' with
 | nil => exact h.elim
 | cons e Lp' => obtain ⟨b', cs'⟩ := e; obtain ⟨h0, h1, h2⟩ := h; simp only at h0; subst h0; exact ⟨cs', Lp', rfl, h1, h2⟩
end
end Go.Proofs.YthbonoagbeilkaaGreat.Hay
