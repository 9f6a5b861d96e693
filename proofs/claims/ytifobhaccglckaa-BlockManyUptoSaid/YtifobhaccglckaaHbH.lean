import Derived.Test.YtifobhaccglckaaHbG
namespace Go.Proofs.Ytifobhaccglckaa.Hay
open Go.RowKit (Below)

inductive ResL (P : Program) (a : Act) (w : World) : List ResultVar → List Value → Prop
  | nil : ResL P a w [] []
  | cons {r : ResultVar} {rs : List ResultVar} {v : Value} {vs : List Value} (h : (match r with | .tmp t => (pure (a.tmps.getD t undef) : Sem Value) | .cell b t => do loadVar t (← asAddr (a.tmps.getD b undef))).run P w = .ok v w) (k : ResL P a w rs vs) : ResL P a w (r :: rs) (v :: vs)
section
variable {δ : List Nat} {ro : Option Nat} {P : Program} {W0 : Bse} {m : M} {L : List (Nat × List Value)} {TL : List (Nat × Value)} {n : Nat} {a : Act} {l : List (Nat × Value)} {w : World}
theorem ResL.tmp {t : Nat} {rs : List ResultVar} {v : Value} {vs : List Value} (hE : EnvD δ n a l) (h : lk l t = some v) (k : ResL P a w rs vs) : ResL P a w (.tmp t :: rs) (v :: vs) :=
  .cons (by simp only; rw [hE.at_ t v h]; rfl) k
theorem ResL.cell {α : Type} {k : Kd α} {b c t i o : Nat} {cs : List Value} {xx : α} {rs : List ResultVar} {vs : List Value} (hE : EnvD δ n a l) (hS : S W0 m w L TL) (hT : TyOK P t k) (h : lk l c = some (.pointer (some ⟨b, o, none⟩))) (hL : L[i]? = some (b, cs)) (hR : k.R m ((cs.drop o).take k.sz) xx) (kk : ResL P a w rs vs) :
    ResL P a w (.cell c t :: rs) (k.val ((cs.drop o).take k.sz) :: vs) :=
  .cons (by
    have hA : At w b o ((cs.drop o).take k.sz) := hS.atL hL (by rw [k.len hR]) (by rw [k.len hR]; exact k.pos)
    simp only; rw [hE.at_ c _ h]
    simp [asAddr, run_load_val hT hR hA]) kk
theorem run_mapM_res (rs : List ResultVar) (vs : List Value) (h : ResL P a w rs vs) : ∀ (f : ResultVar → Sem Value), (∀ r, f r = (match r with | .tmp t => (pure (a.tmps.getD t undef) : Sem Value) | .cell b t => do loadVar t (← asAddr (a.tmps.getD b undef)))) → (rs.mapM f).run P w = .ok vs w := by
  intro f hf
  induction h with
  | nil => simp
  | cons h1 _ ih => rw [← hf] at h1; simp [List.mapM_cons, h1, ih]
theorem Fin.mk {fn : Func} {rs : List ResultVar} {vs : List Value} {R : Value → World → Prop} (hE : Env n a l) (hr : fn.results.toList = rs) (h : ResL P a w rs vs) (hR : R (tup vs) w) : Fin P fn R a w := by
  refine ⟨_, ?_, hE.defers, hR⟩
  unfold results
  rw [Array.mapM_eq_mapM_toList]
  simp only [Sem.run_bind, Sem.run_map]
  rw [hr, run_mapM_res rs vs h _ (fun r => by cases r <;> rfl)]
  simp only [Result.andThen_ok, Sem.run_pure]
  congr 1
  match vs with
  | [] => rfl
  | [v] => rfl
  | v :: u :: r => simp [tup]
theorem RV_int {k : IntKind} {v : Value} {x : Int} (h : RV (kInt k) m v x) : v = .int k x ∧ inR k x := by
  obtain ⟨cs, ⟨rfl, hr⟩, rfl⟩ := h
  exact ⟨rfl, hr⟩
theorem RV_bool {v : Value} {x : Bool} (h : RV kBool m v x) : v = .bool x := by
  obtain ⟨cs, rfl, rfl⟩ := h
  rfl
theorem RV_str {v : Value} {x : List Int} (h : RV kStr m v x) : v = .string (bts x) ∧ (∀ n ∈ x, 0 ≤ n ∧ n < 256) ∧ x.length ≤ maxSz := by
  obtain ⟨cs, ⟨rfl, hr⟩, rfl⟩ := h
  exact ⟨rfl, hr⟩
theorem RV_of_int {k : IntKind} {x : Int} (h : inR k x) : RV (kInt k) m (.int k x) x := ⟨_, ⟨rfl, h⟩, rfl⟩
theorem RV_of_bool {x : Bool} : RV kBool m (.bool x) x := ⟨_, rfl, rfl⟩
theorem RV_of_str {x : List Int} (h : ∀ n ∈ x, 0 ≤ n ∧ n < 256) (h2 : x.length ≤ maxSz) : RV kStr m (.string (bts x)) x := ⟨_, ⟨rfl, h, h2⟩, rfl⟩
theorem RV_nil {α : Type} {k : Kd α} : RV (kSl k) m (.slice none 0 0) [] := RV_of_sl (a := none) (by simp) (by simp) rfl
theorem RV_of_R {α : Type} {k : Kd α} {cs : List Value} {x : α} (h : k.R m cs x) : RV k m (k.val cs) x := ⟨cs, h, rfl⟩
theorem RV_bytes {v : Value} {xs : List Int} (h : RV (kSl (kInt .u8)) m v xs) : ∀ n ∈ xs, 0 ≤ n ∧ n < 256 := by
  obtain ⟨ad, cap, rfl, h3, h4, h5⟩ := RV_sl h
  intro n hn
  obtain ⟨i, hi, rfl⟩ := List.mem_iff_getElem.1 hn
  cases ad with
  | none => simp only at h5; omega
  | some ad =>
    have := (h5.2 i hi).2
    unfold inR IntKind.wrap at this
    simp [IntKind.bits, IntKind.signed] at this
    omega
theorem RV_len {α : Type} {k : Kd α} {v : Value} {xs : List α} (h : RV (kSl k) m v xs) : xs.length ≤ maxSz := by
  obtain ⟨ad, cap, rfl, h3, h4, h5⟩ := RV_sl h
  exact h4

def Sub (l : List (Nat × Value)) : List (Nat × Value) → Prop
  | [] => True
  | (i, v) :: r => lk l i = some v ∧ Sub l r
theorem Sub.all : ∀ {l l' : List (Nat × Value)}, Sub l l' → ∀ e ∈ l', lk l e.1 = some e.2
  | _, [], _, e, h => by simp at h
  | l, (i, v) :: r, h, e, he => by
    rcases List.mem_cons.1 he with rfl | he
    · exact h.1
    · exact Sub.all h.2 e he
def preds (o : Oper) : List Nat := (o.after.toList.filter fun e => Region.binds .any e).map (·.on)
def dstOf (ops : Array Oper) (i : Nat) : Option Nat := (ops[i]?).bind (·.dst)
def edgesOK (os : List Oper) : Bool := os.zipIdx.all fun p => (preds p.1).all fun e => Nat.blt e p.2
theorem edgesOK_at {os : List Oper} (h : edgesOK os = true) {i : Nat} {o : Oper} (hi : os[i]? = some o) : ∀ e ∈ preds o, e < i := by
  intro e he
  have h1 := List.all_eq_true.1 h (o, i) (by rw [List.mem_zipIdx_iff_getElem?]; simp [hi])
  exact Nat.le_of_ble_eq_true (List.all_eq_true.1 h1 e he)
theorem ready_iff {os : List Oper} {listed : Array Bool} {i : Nat} : i ∈ Region.ready .any os.toArray listed ↔ ∃ o, os[i]? = some o ∧ listed.getD i true = false ∧ ∀ e ∈ preds o, listed.getD e false = true := by
  unfold Region.ready
  simp only [List.mem_filter, List.mem_range, List.size_toArray, Bool.and_eq_true, Bool.not_eq_true']
  constructor
  · rintro ⟨h1, h2, h3⟩
    obtain ⟨o, ho⟩ : ∃ o, os[i]? = some o := ⟨os[i], by simp [h1]⟩
    refine ⟨o, ho, h2, fun e he => ?_⟩
    simp only [List.getElem?_toArray, ho, Option.map_some, Option.getD_some] at h3
    rw [Array.all_eq_true_iff_forall_mem] at h3
    unfold preds at he
    simp only [List.mem_map, List.mem_filter, Array.mem_toList_iff] at he
    obtain ⟨ed, ⟨hm, hb⟩, rfl⟩ := he
    have := h3 ed hm
    simpa [hb] using this
  · rintro ⟨o, ho, h2, h3⟩
    refine ⟨(List.getElem?_eq_some_iff.1 ho).1, h2, ?_⟩
    simp only [List.getElem?_toArray, ho, Option.map_some, Option.getD_some]
    rw [Array.all_eq_true_iff_forall_mem]
    intro ed hm
    cases hb : Region.binds .any ed with
    | false => simp
    | true =>
      have := h3 ed.on (by unfold preds; simp only [List.mem_map, List.mem_filter, Array.mem_toList_iff]; exact ⟨ed, ⟨hm, hb⟩, rfl⟩)
      simp [this]
def cov (os : List Oper) : Nat → List Nat → List Nat
  | 0, js => js
  | f + 1, js => js ++ cov os f (js.flatMap fun j => match os[j]? with | some o => preds o | none => [])
def tailOK (os : List Oper) (k : Nat) : Bool :=
  (match os[k]? with | some o => (let c := cov os 12 (preds o); (List.range k).all fun j => c.any fun e => Nat.beq j e) | none => true) &&
  (os.zipIdx.all fun p => Nat.ble p.2 k || (preds p.1).any fun e => Nat.beq (e + 1) p.2)
def upd (s : Nat → Bool) (i : Nat) : Nat → Bool := fun j => if j = i then true else s j
theorem kany {os : List Oper} {id k : Nat} {N Rt : Act → World → Prop} {X : List (Nat × (Act → World → Prop))} (hm : P.follows .mixedOrders = true) (hed : edgesOK os = true) (htl : tailOK os k = true) (J : (Nat → Bool) → Act → World → Prop)
    (h0 : J (fun _ => false) a w.drew)
    (step : ∀ (i : Nat) (o : Oper), os[i]? = some o → i < k → ∀ s a w, J s a w → s i = false → (∀ e ∈ preds o, s e = true) → (∀ (j : Nat) (o' : Oper), os[j]? = some o' → s j = true → ∀ e ∈ preds o', s e = true) →
      if Region.wanted o (yielded os.toArray a.tmps) = true then Step P o a w (fun v w' => J (upd s i) (a.put o.dst v) w') else J (upd s i) (a.put o.dst undef) w)
    (fin : ∀ s a w, J s a w → (∀ j, j < k → j < os.length → s j = true) → wpL ro P os.toArray (mkQ N X Rt) (os.drop k) a w) : K ro P (.region id os.toArray true) N X Rt a w := by
  refine wpIn_region_any hm ?_
  unfold tailOK at htl
  rw [Bool.and_eq_true] at htl
  have hcl : ∀ (s : Nat → Bool), (∀ (j : Nat) (o' : Oper), os[j]? = some o' → s j = true → ∀ e ∈ preds o', s e = true) → ∀ f js, (∀ e ∈ js, s e = true) → ∀ e ∈ cov os f js, s e = true := by
    intro s hc f
    induction f with
    | zero => exact fun js h => h
    | succ f ih =>
      intro js h e he
      rcases List.mem_append.1 he with he | he
      · exact h e he
      · refine ih _ (fun e' he' => ?_) e he
        obtain ⟨j, hj, hj'⟩ := List.mem_flatMap.1 he'
        cases ho : os[j]? with
        | none => simp [ho] at hj'
        | some o' => simp [ho] at hj'; exact hc j o' ho (h j hj) e' hj'
  have same : ∀ (listed : Array Bool), listed.size = os.length → ∀ j, j < os.length → listed.getD j true = listed.getD j false := fun listed hsz j hj => by
    simp [Array.getD, show j < listed.size by omega]
  have get : ∀ (listed : Array Bool) i j q, i < listed.size → (listed.setIfInBounds i true).getD j q = if j = i then true else listed.getD j q := fun listed i j q hi => by
    simp only [Array.getD_eq_getD_getElem?, Array.getElem?_setIfInBounds]
    by_cases e : i = j
    · subst e; simp [hi]
    · simp [e, show ¬ j = i from fun x => e x.symm]
  have closedUpd : ∀ (s : Nat → Bool) i o, os[i]? = some o → (∀ e ∈ preds o, s e = true) → (∀ (j : Nat) (o' : Oper), os[j]? = some o' → s j = true → ∀ e ∈ preds o', s e = true) → (∀ (j : Nat) (o' : Oper), os[j]? = some o' → upd s i j = true → ∀ e ∈ preds o', upd s i e = true) := by
    intro s i o ho hp hc j o' hj hs e he
    unfold upd at *
    by_cases e1 : e = i
    · simp [e1]
    · rw [if_neg e1]
      by_cases e2 : j = i
      · subst e2; rw [ho] at hj; injection hj with hj; subst hj; exact hp e he
      · rw [if_neg e2] at hs; exact hc j o' hj hs e he
  -- the operations behind the others, one by one
  have suffix : ∀ (fuel i : Nat) (listed : Array Bool) (a : Act) (w : World), listed.size = os.length → k ≤ i → i + fuel = os.length → (∀ j, j < i → j < os.length → listed.getD j false = true) → (∀ j, i ≤ j → listed.getD j false = false) →
      wpL ro P os.toArray (mkQ N X Rt) (os.drop i) a w → wpAnyIn (Fr ro) 0 P .any os.toArray (mkQ N X Rt) fuel listed a w := by
    intro fuel
    induction fuel with
    | zero =>
      intro i listed a w hsz hki hlen hall hrest h
      refine ⟨?_, ?_⟩
      · rw [List.eq_nil_iff_forall_not_mem]
        intro j hj
        obtain ⟨o, ho, h1, _⟩ := ready_iff.1 hj
        have hlt := (List.getElem?_eq_some_iff.1 ho).1
        rw [same listed hsz j hlt, hall j (by omega) hlt] at h1
        cases h1
      · rw [List.drop_eq_nil_of_le (by omega)] at h
        exact h
    | succ fuel ih =>
      intro i listed a w hsz hki hlen hall hrest h
      have hi : i < os.length := by omega
      have hr : ∀ j, j ∈ Region.ready .any os.toArray listed → j = i := by
        intro j hj
        obtain ⟨o, ho, h1, h2⟩ := ready_iff.1 hj
        have hlt := (List.getElem?_eq_some_iff.1 ho).1
        rw [same listed hsz j hlt] at h1
        rcases Nat.lt_trichotomy j i with hji | hji | hji
        · rw [hall j hji hlt] at h1; cases h1
        · exact hji
        · exfalso
          have h3 := List.all_eq_true.1 htl.2 (o, j) (by rw [List.mem_zipIdx_iff_getElem?]; simp [ho])
          simp only [Bool.or_eq_true] at h3
          rcases h3 with h3 | h3
          · have := Nat.le_of_ble_eq_true h3; omega
          · obtain ⟨e, he, hb⟩ := List.any_eq_true.1 h3
            have he1 := Nat.eq_of_beq_eq_true hb
            have := h2 e he
            rw [hrest e (by omega)] at this
            cases this
      have hio : os[i]? = some os[i] := by simp [hi]
      have hin : i ∈ Region.ready .any os.toArray listed := ready_iff.2 ⟨os[i], hio, by rw [same listed hsz i hi]; exact hrest i (Nat.le_refl _), fun e he => by
        have := edgesOK_at hed hio e he
        exact hall e this (by omega)⟩
      refine ⟨fun hnil => by rw [hnil] at hin; simp at hin, fun j hj => ?_⟩
      have := hr j hj; subst this
      have hset : (listed.setIfInBounds j true).size = os.length := by simpa using hsz
      rw [List.drop_eq_getElem_cons hi] at h
      unfold wpL wpListIn at h
      unfold wpOpIn
      simp only [List.getElem?_toArray, hio]
      have next : ∀ a w, wpL ro P os.toArray (mkQ N X Rt) (os.drop (j + 1)) a w → wpAnyIn (Fr ro) 0 P .any os.toArray (mkQ N X Rt) fuel (listed.setIfInBounds j true) a w := fun a w hh =>
        ih (j + 1) _ a w hset (by omega) (by omega) (fun q hq hq' => by rw [get _ _ _ _ (by omega)]; split; rfl; exact hall q (by omega) hq') (fun q hq => by rw [get _ _ _ _ (by omega)]; rw [if_neg (by omega)]; exact hrest q (by omega)) hh
      split
      · rename_i hw
        rw [if_pos hw] at h
        exact Oper.wpIn_mono next h
      · rename_i hw
        rw [if_neg hw] at h
        exact ⟨fun _ _ => trivial, next _ _ h.2⟩
  have key : ∀ (fuel : Nat) (listed : Array Bool) (a : Act) (w : World), listed.size = os.length → J (fun j => listed.getD j false) a w →
      (∀ (j : Nat) (o' : Oper), os[j]? = some o' → listed.getD j false = true → ∀ e ∈ preds o', listed.getD e false = true) → (∀ j, k ≤ j → listed.getD j false = false) →
      ((List.range os.length).filter (fun j => !listed.getD j true)).length = fuel →
      wpAnyIn (Fr ro) 0 P .any os.toArray (mkQ N X Rt) fuel listed a w := by
    intro fuel
    induction fuel with
    | zero =>
      intro listed a w hsz hJ hc hk hcount
      have all : ∀ j, j < os.length → listed.getD j false = true := by
        intro j hj
        have h0 := List.eq_nil_of_length_eq_zero hcount
        have := List.eq_nil_iff_forall_not_mem.1 h0 j
        simp only [List.mem_filter, List.mem_range, Bool.not_eq_true', not_and] at this
        have := this hj
        rw [same listed hsz j hj] at this
        simpa using this
      have hkl : os.length ≤ k := by
        rcases Nat.lt_or_ge k os.length with h | h
        · have := all k h; rw [hk k (Nat.le_refl _)] at this; cases this
        · exact h
      have := fin _ a w hJ (fun j _ hj => all j hj)
      rw [List.drop_eq_nil_of_le hkl] at this
      refine ⟨?_, this⟩
      rw [List.eq_nil_iff_forall_not_mem]
      intro j hj
      obtain ⟨o, ho, h1, _⟩ := ready_iff.1 hj
      have hlt := (List.getElem?_eq_some_iff.1 ho).1
      rw [same listed hsz j hlt, all j hlt] at h1
      cases h1
    | succ fuel ih =>
      intro listed a w hsz hJ hc hk hcount
      by_cases hpre : ∀ j, j < k → j < os.length → listed.getD j false = true
      · -- all of the first are done
        have hf := fin _ a w hJ hpre
        have hklt : k < os.length := by
          rcases Nat.lt_or_ge k os.length with h | h
          · exact h
          · exfalso
            have : (List.range os.length).filter (fun j => !listed.getD j true) = [] := by
              rw [List.filter_eq_nil_iff]
              intro j hj
              have hj' : j < os.length := by simpa using hj
              rw [same listed hsz j hj', hpre j (by omega) hj']
              simp
            rw [this] at hcount
            simp at hcount
        have hfu : fuel + 1 = os.length - k := by
          have e1 : (List.range os.length).filter (fun j => !listed.getD j true) = (List.range' k (os.length - k)) := by
            have e2 : List.range os.length = List.range' 0 k ++ List.range' k (os.length - k) := by
              rw [List.range_eq_range']
              have := List.range'_append (s := 0) (m := k) (n := os.length - k) (step := 1)
              simp only [Nat.one_mul, Nat.zero_add] at this
              rw [this]; congr 1; omega
            rw [e2, List.filter_append]
            have e3 : (List.range' 0 k).filter (fun j => !listed.getD j true) = [] := by
              rw [List.filter_eq_nil_iff]
              intro j hj
              have hj' : j < k := by simpa [List.mem_range'] using hj
              rw [same listed hsz j (by omega), hpre j hj' (by omega)]
              simp
            have e4 : (List.range' k (os.length - k)).filter (fun j => !listed.getD j true) = List.range' k (os.length - k) := by
              rw [List.filter_eq_self]
              intro j hj
              have hj' : k ≤ j ∧ j < os.length := by
                have := List.mem_range'.1 hj
                obtain ⟨q, hq, rfl⟩ := this
                omega
              rw [same listed hsz j hj'.2, hk j hj'.1]
              rfl
            rw [e3, e4, List.nil_append]
          rw [e1] at hcount
          simpa using hcount.symm
        exact suffix (fuel + 1) k listed a w hsz (Nat.le_refl _) (by omega) (fun j hj hj' => hpre j hj hj') hk hf
      · have inpre : ∀ i, i ∈ Region.ready .any os.toArray listed → i < k := by
          intro i hi
          obtain ⟨o, ho, h1, h2⟩ := ready_iff.1 hi
          have hlt := (List.getElem?_eq_some_iff.1 ho).1
          rcases Nat.lt_or_ge i k with h | h
          · exact h
          · exfalso
            rcases Nat.lt_or_eq_of_le h with h | h
            · have h3 := List.all_eq_true.1 htl.2 (o, i) (by rw [List.mem_zipIdx_iff_getElem?]; simp [ho])
              simp only [Bool.or_eq_true] at h3
              rcases h3 with h3 | h3
              · have := Nat.le_of_ble_eq_true h3; omega
              · obtain ⟨e, he, hb⟩ := List.any_eq_true.1 h3
                have he1 := Nat.eq_of_beq_eq_true hb
                have := h2 e he
                rw [hk e (by omega)] at this
                cases this
            · subst h
              have h3 := htl.1
              rw [ho] at h3
              simp only at h3
              exact hpre fun j hj hj' => by
                have := List.all_eq_true.1 h3 j (by simpa using hj)
                obtain ⟨e, he, hb⟩ := List.any_eq_true.1 this
                have he1 := Nat.eq_of_beq_eq_true hb
                subst he1
                exact hcl (fun j => listed.getD j false) hc 12 _ h2 j he
        have hne : Region.ready .any os.toArray listed ≠ [] := by
          intro hnil
          apply hpre
          intro j
          induction j using Nat.strongRecOn with
          | _ j ihj =>
            intro hj hj'
            cases hb : listed.getD j false with
            | true => rfl
            | false =>
              exfalso
              have : j ∈ Region.ready .any os.toArray listed := ready_iff.2 ⟨os[j], by simp [hj'], by rw [same listed hsz j hj']; exact hb, fun e he => by
                have := edgesOK_at hed (i := j) (o := os[j]) (by simp [hj']) e he
                exact ihj e this (by omega) (by omega)⟩
              rw [hnil] at this
              simp at this
        refine ⟨fun h => absurd h hne, fun i hi => ?_⟩
        obtain ⟨o, ho, h1, h2⟩ := ready_iff.1 hi
        have hlt := (List.getElem?_eq_some_iff.1 ho).1
        have hik := inpre i hi
        rw [same listed hsz i hlt] at h1
        have hst := step i o ho hik _ a w hJ h1 h2 hc
        have hsize : (listed.setIfInBounds i true).size = os.length := by simpa using hsz
        have hu : (fun j => (listed.setIfInBounds i true).getD j false) = upd (fun j => listed.getD j false) i := by
          funext j
          rw [get _ _ _ _ (by omega)]
          rfl
        have hcount' : ((List.range os.length).filter (fun j => !(listed.setIfInBounds i true).getD j true)).length = fuel := by
          have e1 : (List.range os.length).filter (fun j => !(listed.setIfInBounds i true).getD j true) = ((List.range os.length).filter (fun j => !listed.getD j true)).erase i := by
            rw [List.Nodup.erase_eq_filter ((List.nodup_range).filter _), List.filter_filter]
            apply List.filter_congr
            intro j hj
            rw [get _ _ _ _ (by omega)]
            by_cases e : j = i <;> simp [e]
          have hin : i ∈ (List.range os.length).filter (fun j => !listed.getD j true) := by simp only [List.mem_filter, List.mem_range, Bool.not_eq_true']; exact ⟨hlt, by rw [same listed hsz i hlt]; exact h1⟩
          rw [e1, List.length_erase_of_mem hin, hcount]
          rfl
        have next : ∀ a w, J (upd (fun j => listed.getD j false) i) a w → wpAnyIn (Fr ro) 0 P .any os.toArray (mkQ N X Rt) fuel (listed.setIfInBounds i true) a w := fun a w hh =>
          ih _ a w hsize (by rw [hu]; exact hh) (by
            have := closedUpd _ i o ho h2 hc
            rw [← hu] at this
            exact this) (fun j hj => by rw [get _ _ _ _ (by omega)]; rw [if_neg (by omega)]; exact hk j hj) hcount'
        unfold wpOpIn
        simp only [List.getElem?_toArray, ho]
        split
        · rename_i hw
          rw [if_pos hw] at hst
          exact hst _ _ _ fun v w' hh => next _ _ hh
        · rename_i hw
          rw [if_neg hw] at hst
          exact ⟨fun _ _ => trivial, next _ _ hst⟩
  have hrep : ∀ j q, (Array.replicate os.toArray.size false).getD j q = if j < os.length then false else q := fun j q => by
    simp [Array.getD]
  refine key _ _ a _ (by simp) ?_ (fun j o' ho hj => by rw [hrep] at hj; split at hj <;> cases hj) (fun j hj => by rw [hrep]; split <;> rfl) ?_
  · have : (fun j => (Array.replicate os.toArray.size false).getD j false) = fun _ => false := by
      funext j; rw [hrep]; split <;> rfl
    rw [this]; exact h0
  · rw [List.filter_eq_self.2]
    · simp
    · intro j hj
      rw [hrep, if_pos (by simpa using hj)]
      rfl
end
end Go.Proofs.Ytifobhaccglckaa.Hay
