import Derived.Test.YtifobhaccglckaaHcR
namespace Go.Proofs.Ytifobhaccglckaa.Hay
theorem loop_seq {σ β : Type} {f : σ → Option (σ ⊕ β)} {s : σ} {b : β} (S : Nat → σ) (n : Nat) (h0 : s = S 0) (step : ∀ i, i < n → f (S i) = some (.inl (S (i + 1)))) (fin : f (S n) = some (.inr b)) : loopO f s = some b := by
  have key : ∀ i, i ≤ n → loopO f s = loopO f (S i) := by
    intro i
    induction i with
    | zero => intro _; rw [h0]
    | succ i ih => intro h; rw [ih (by omega), loopO_go (step i (by omega))]
  rw [key n (Nat.le_refl n), loopO_end fin]
theorem loop_all {α β : Type} {f : Int → Option (Int ⊕ β)} (xs : List α) (p : α → Bool) (b0 b1 : β) (step : ∀ (i : Nat) (h : i < xs.length), p xs[i] = true → f (i : Int) = some (.inl ((i + 1 : Nat) : Int)))
    (out : ∀ (i : Nat) (h : i < xs.length), p xs[i] = false → f (i : Int) = some (.inr b0)) (fin : f (xs.length : Int) = some (.inr b1)) : loopO f 0 = some (if xs.all p then b1 else b0) := by
  have key : ∀ k i : Nat, i + k = xs.length → loopO f (i : Int) = some (if (xs.drop i).all p then b1 else b0) := by
    intro k
    induction k with
    | zero =>
      intro i hi
      have : i = xs.length := by omega
      subst this
      rw [loopO_end fin]; simp
    | succ k ih =>
      intro i hi
      have hlt : i < xs.length := by omega
      rw [List.drop_eq_getElem_cons hlt, List.all_cons]
      cases hp : p xs[i] with
      | true => rw [loopO_go (step i hlt hp), ih (i + 1) (by omega)]; simp
      | false => rw [loopO_end (out i hlt hp)]; simp
  have := key xs.length 0 (by omega)
  simpa using this
theorem loop_find {α β : Type} {f : Int → Option (Int ⊕ β)} (xs : List α) (p : α → Bool) (b0 : Nat → β) (b1 : β) (step : ∀ (i : Nat) (h : i < xs.length), p xs[i] = false → f (i : Int) = some (.inl ((i + 1 : Nat) : Int)))
    (out : ∀ (i : Nat) (h : i < xs.length), p xs[i] = true → f (i : Int) = some (.inr (b0 i))) (fin : f (xs.length : Int) = some (.inr b1)) : loopO f 0 = some (if xs.any p then b0 (xs.findIdx p) else b1) := by
  have key : ∀ k i : Nat, i + k = xs.length → loopO f (i : Int) = some (if (xs.drop i).any p then b0 (i + (xs.drop i).findIdx p) else b1) := by
    intro k
    induction k with
    | zero =>
      intro i hi
      have : i = xs.length := by omega
      subst this
      rw [loopO_end fin]; simp
    | succ k ih =>
      intro i hi
      have hlt : i < xs.length := by omega
      rw [List.drop_eq_getElem_cons hlt, List.any_cons, List.findIdx_cons]
      cases hp : p xs[i] with
      | false =>
        rw [loopO_go (step i hlt hp), ih (i + 1) (by omega)]
        simp only [Bool.false_or, cond_false]
        congr 2
        congr 1
        omega
      | true => rw [loopO_end (out i hlt hp)]; simp
  have := key xs.length 0 (by omega)
  simpa using this
theorem succ64 {i : Nat} (h : i < 4611686018427387904) : IntKind.i64.wrap ((i : Int) + 1) = ((i + 1 : Nat) : Int) := by rw [wrap64 (by omega)]; rfl
theorem chk_true {b : Bool} (h : b = true) : chk b = some () := by subst h; rfl

def Byt (l : List Int) : Prop := ∀ c ∈ l, 0 ≤ c ∧ c < 256
theorem Byt.nil : Byt [] := fun c h => by cases h
theorem Byt.cons {c : Int} {l : List Int} (h0 : 0 ≤ c ∧ c < 256) (h : Byt l) : Byt (c :: l) := fun d hd => by
  rcases List.mem_cons.1 hd with rfl | hd
  · exact h0
  · exact h d hd
theorem Byt.head {c : Int} {l : List Int} (h : Byt (c :: l)) : 0 ≤ c ∧ c < 256 := h c (by simp)
theorem Byt.tail {c : Int} {l : List Int} (h : Byt (c :: l)) : Byt l := fun d hd => h d (by simp [hd])
theorem Byt.app {a b : List Int} (h : Byt a) (k : Byt b) : Byt (a ++ b) := fun c hc => by
  rcases List.mem_append.1 hc with hc | hc
  · exact h c hc
  · exact k c hc
theorem Byt.take {a : List Int} (h : Byt a) (n : Nat) : Byt (a.take n) := fun c hc => h c (List.mem_of_mem_take hc)
theorem Byt.drop {a : List Int} (h : Byt a) (n : Nat) : Byt (a.drop n) := fun c hc => h c (List.mem_of_mem_drop hc)
theorem Byt.left {a b : List Int} (h : Byt (a ++ b)) : Byt a := fun c hc => h c (by simp [hc])
theorem Byt.right {a b : List Int} (h : Byt (a ++ b)) : Byt b := fun c hc => h c (by simp [hc])
def i64r (n : Int) : Prop := -9223372036854775808 ≤ n ∧ n ≤ 9223372036854775807
structure VOK (v : AV) : Prop where
  kind : i64r v.fKind
  int : i64r v.fInt
  text : Byt v.fText
abbrev vNull : AV := ⟨0, false, 0, []⟩
abbrev vBool (b : Bool) : AV := ⟨1, b, 0, []⟩
abbrev vInt (n : Int) : AV := ⟨2, false, n, []⟩
abbrev vText (t : List Int) : AV := ⟨3, false, 0, t⟩
def right (v : AV) : Bool :=
  if v.fKind == 0 then decide (v = vNull) else if v.fKind == 1 then decide (v = vBool v.fBool) else if v.fKind == 2 then decide (v = vInt v.fInt) else
  if v.fKind == 3 then decide (v = vText v.fText) && decide ((v.fText.length : Int) ≤ 64) else false
theorem value_Right_eq (v : AV) : value_Right v = some (right v) := by
  obtain ⟨k, b, n, t⟩ := v
  unfold value_Right right value_Null value_Bool value_Int value_Text value_Right_j1
  simp only [Option.bind_some]
  by_cases h0 : k = 0
  · subst h0; rfl
  by_cases h1 : k = 1
  · subst h1; rfl
  by_cases h2 : k = 2
  · subst h2; rfl
  by_cases h3 : k = 3
  · subst h3
    by_cases h : (⟨3, b, n, t⟩ : AV) = vText t
    · simp [h]
    · simp [h]
  have e0 : (k == 0) = false := by simpa using h0
  have e1 : (k == 1) = false := by simpa using h1
  have e2 : (k == 2) = false := by simpa using h2
  have e3 : (k == 3) = false := by simpa using h3
  simp only [e0, e1, e2, e3]; rfl
inductive Rgt : AV → Prop
  | null : Rgt vNull
  | bool (b : Bool) : Rgt (vBool b)
  | int (n : Int) (h : i64r n) : Rgt (vInt n)
  | text (t : List Int) (h : Byt t) (hl : t.length ≤ 64) : Rgt (vText t)
theorem Rgt.of {v : AV} (h : VOK v) (hr : right v = true) : Rgt v := by
  unfold right at hr
  split at hr
  · have := of_decide_eq_true hr; rw [this]; exact .null
  split at hr
  · have := of_decide_eq_true hr; rw [this]; exact .bool _
  split at hr
  · have := of_decide_eq_true hr; rw [this]; exact .int _ h.int
  split at hr
  · simp only [Bool.and_eq_true, decide_eq_true_eq] at hr
    rw [hr.1]; exact .text _ h.text (by omega)
  · cases hr
theorem Rgt.right {v : AV} (h : Rgt v) : right v = true := by
  cases h with
  | null => rfl
  | bool b => cases b <;> rfl
  | int n _ => simp [Go.Proofs.Ytifobhaccglckaa.Hay.right]
  | text t _ hl => simp [Go.Proofs.Ytifobhaccglckaa.Hay.right]; omega
theorem Rgt.ok {v : AV} (h : Rgt v) : VOK v := by
  cases h with
  | null => exact ⟨by simp [i64r], by simp [i64r], Byt.nil⟩
  | bool b => exact ⟨by simp [i64r], by simp [i64r], Byt.nil⟩
  | int n h => exact ⟨by simp [i64r], h, Byt.nil⟩
  | text t h _ => exact ⟨by simp [i64r], by simp [i64r], h⟩
def oneB (v : AV) : List Int :=
  if v.fKind = 1 then [1, if v.fBool then 1 else 0] else if v.fKind = 2 then 2 :: be8 (v.fInt % 18446744073709551616) else if v.fKind = 3 then 3 :: (v.fText.length : Int) :: v.fText else [v.fKind]
theorem oneB_null : oneB vNull = [0] := rfl
theorem oneB_bool (b : Bool) : oneB (vBool b) = [1, if b then 1 else 0] := rfl
theorem oneB_int (n : Int) : oneB (vInt n) = 2 :: be8 (n % 18446744073709551616) := rfl
theorem oneB_text (t : List Int) : oneB (vText t) = 3 :: (t.length : Int) :: t := rfl
theorem oneB_byt {v : AV} (h : Rgt v) : Byt (oneB v) := by
  cases h with
  | null => exact .cons (by decide) .nil
  | bool b => exact .cons (by decide) (.cons (by cases b <;> decide) .nil)
  | int n h => exact .cons (by decide) (be8_bytes _)
  | text t h hl => exact .cons (by decide) (.cons (by show 0 ≤ (t.length : Int) ∧ (t.length : Int) < 256; omega) h)
theorem oneB_len {v : AV} (h : Rgt v) : 1 ≤ (oneB v).length ∧ (oneB v).length ≤ 66 := by
  cases h with
  | null => decide
  | bool b => cases b <;> decide
  | int n h => rw [oneB_int]; simp [be8_length]
  | text t h hl => rw [oneB_text]; simp; omega
theorem rows_eight_eq {p : List Int} (n : Int) (hp : p.length + 8 ≤ 140737488355328) : rows_eight p n = some (p ++ be8 n) := by
  unfold rows_eight
  refine loop_seq (fun i => ((i : Int), (be8 n).take i ++ List.replicate (8 - i) 0)) 8 rfl ?_ ?_
  · intro i hi
    dsimp only
    unfold rows_eight_b1
    have h1 : decide ((i : Int) < 8) = true := by simpa using by omega
    have h2 : IntKind.i64.wrap (8 * (i : Int)) = ((8 * i : Nat) : Int) := by rw [wrap64 (by omega)]; omega
    have h3 : IntKind.i64.wrap (56 - ((8 * i : Nat) : Int)) = ((56 - 8 * i : Nat) : Int) := by rw [wrap64 (by omega)]; omega
    rw [if_pos h1, h2, h3, shr64 (by omega), wrapu8, succ64 (by omega), chk_true (by simp), Option.bind_some]
    have hl : ((be8 n).take i ++ List.replicate (8 - i) (0 : Int)).length = 8 := by simp [be8_length]; omega
    have hj : ix ((be8 n).take i ++ List.replicate (8 - i) (0 : Int)) (i : Int) = some i := by unfold ix; rw [if_pos (by rw [hl]; omega)]; simp
    rw [hj, Option.bind_some, List.getElem?_eq_getElem (by omega), Option.bind_some]
    have : i = 0 ∨ i = 1 ∨ i = 2 ∨ i = 3 ∨ i = 4 ∨ i = 5 ∨ i = 6 ∨ i = 7 := by omega
    rcases this with rfl | rfl | rfl | rfl | rfl | rfl | rfl | rfl <;> simp [be8, List.replicate]
  · unfold rows_eight_b1 rows_eight_j1
    have e : (be8 n).take 8 ++ List.replicate (8 - 8) (0 : Int) = be8 n := by simp [be8]
    dsimp only
    rw [if_neg (by simp)]
    rw [e, app_of (by simp [be8_length]; omega)]; rfl
theorem rows_one_eq {p : List Int} {v : AV} (h : Rgt v) (hp : p.length + 66 ≤ 140737488355328) : rows_one p v = some (p ++ oneB v) := by
  unfold rows_one
  rw [app_of (by simp; omega), Option.bind_some]
  cases h with
  | null => simp [oneB, wrapu8]
  | bool b =>
    cases b
    · simp only [oneB, wrapu8]
      rw [if_pos (by decide), if_neg (by decide), app_of (by simp; omega)]; simp
    · simp only [oneB, wrapu8]
      rw [if_pos (by decide), if_pos (by decide), app_of (by simp; omega)]; simp
  | int n h =>
    simp only [wrapu8, wrapu64, oneB]
    rw [if_neg (by decide), if_pos (by decide), rows_eight_eq _ (by simp; omega)]
    simp
  | text t h hl =>
    simp only [wrapu8, oneB]
    rw [if_neg (by decide), if_neg (by decide), if_pos (by decide), app_of (by simp; omega), Option.bind_some, app_of (by simp; omega)]
    simp
    omega
theorem rows_may_eq (l : List AV) (hl : l.length ≤ 281474976710656) : rows_may l = some (l.all right && decide (l.length ≤ 16)) := by
  have h : rows_may l = some (if l.all right then decide ((l.length : Int) ≤ 16) else false) := by
    unfold rows_may
    refine loop_all l right _ _ (fun i h hp => ?_) (fun i h hp => ?_) ?_
    · unfold rows_may_b1
      rw [if_pos (by simpa using h), idx_of h, Option.bind_some, value_Right_eq, Option.bind_some, hp, if_neg (by decide), succ64 (by omega)]
    · unfold rows_may_b1
      rw [if_pos (by simpa using h), idx_of h, Option.bind_some, value_Right_eq, Option.bind_some, hp]; rfl
    · unfold rows_may_b1 rows_may_j1
      rw [if_neg (by simp)]; rfl
  rw [h]
  cases l.all right <;> simp
  omega
def rowB (l : List AV) : List Int := (l.length : Int) :: l.flatMap oneB
theorem flat_len {l : List AV} (h : ∀ v ∈ l, Rgt v) : (l.flatMap oneB).length ≤ 66 * l.length := by
  induction l with
  | nil => simp
  | cons v r ih =>
    have := (oneB_len (h v (by simp))).2
    have := ih (fun x hx => h x (by simp [hx]))
    rw [List.flatMap_cons, List.length_append, List.length_cons]; omega
theorem take_flat {α : Type} {l : List α} {f : α → List Int} {i : Nat} (h : i < l.length) : (l.take (i + 1)).flatMap f = (l.take i).flatMap f ++ f l[i] := by
  rw [List.take_succ_eq_append_getElem h, List.flatMap_append, List.flatMap_singleton]
theorem rows_Encode_eq {l : List AV} (h : ∀ v ∈ l, Rgt v) (hl : l.length ≤ 16) : rows_Encode l = some (rowB l, 0) := by
  unfold rows_Encode
  rw [rows_may_eq l (by omega), Option.bind_some]
  have ha : l.all right = true := by rw [List.all_eq_true]; exact fun v hv => (h v hv).right
  rw [ha, if_neg (by simpa using hl)]
  refine loop_seq (fun i => ((l.length : Int) :: (l.take i).flatMap oneB, (i : Int))) l.length (by simp [wrapu8]; omega) (fun i hi => ?_) ?_
  · dsimp only
    unfold rows_Encode_b1
    have := flat_len (l := l.take i) fun v hv => h v (List.mem_of_mem_take hv)
    rw [if_pos (by simpa using hi), idx_of hi, Option.bind_some, rows_one_eq (h _ (List.getElem_mem hi)) (by simp at this ⊢; omega), Option.bind_some, succ64 (by omega), take_flat hi]
    rfl
  · unfold rows_Encode_b1 rows_Encode_j1
    rw [if_neg (by simp)]; simp [rowB]
theorem encode_one_eq {v : AV} (h : Rgt v) : encode_one v = some (oneB v) := by
  unfold encode_one
  rw [rows_Encode_eq (l := [v]) (by simpa using h) (by simp), Option.bind_some]
  have : sub (rowB [v]) 1 ((rowB [v]).length : Int) = some (oneB v) := by
    have := sub_of (xs := rowB [v]) (lo := 1) (hi := (rowB [v]).length) (by simp [rowB]) (Nat.le_refl _)
    rw [show ((1 : Nat) : Int) = 1 from rfl] at this
    rw [this]; simp [rowB]
  dsimp only
  rw [this]; rfl
end Go.Proofs.Ytifobhaccglckaa.Hay
