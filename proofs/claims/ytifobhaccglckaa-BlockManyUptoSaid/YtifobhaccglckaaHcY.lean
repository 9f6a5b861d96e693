import Derived.Test.YtifobhaccglckaaHcX
namespace Go.Proofs.Ytifobhaccglckaa.Hay
def place (w : List AV) (v : AV) : Nat := w.findIdx fun x => decide (v = x)
def dictB (l : List AV) : List Int := ((words l).length : Int) :: ((words l).flatMap oneB ++ packed (l.map fun v => (place (words l) v : Int)) (wid ((words l).length - 1)))
theorem Index_eq {w : List AV} {v : AV} (hw : w.length < 1048576) (h : v ∈ w) : slices_Index_Value w v = some (place w v : Int) := by
  unfold slices_Index_Value
  have := loop_find (f := fun s : Int => slices_Index_Value_b1 w v s) w (fun x => decide (v = x)) (fun i => (i : Int)) (-1) (fun i hi hp => ?_) (fun i hi hp => ?_) ?_
  · rw [this]
    have ha : w.any (fun x => decide (v = x)) = true := List.any_eq_true.2 ⟨v, h, by simp⟩
    rw [ha]; rfl
  · unfold slices_Index_Value_b1
    rw [if_pos (by simpa using hi), idx_of hi, Option.bind_some, hp, if_neg (by decide), succ64 (by omega)]
  · unfold slices_Index_Value_b1
    rw [if_pos (by simpa using hi), idx_of hi, Option.bind_some, hp, if_pos rfl]; rfl
  · unfold slices_Index_Value_b1 slices_Index_Value_j1
    rw [if_neg (by simp)]; rfl
theorem place_lt {w : List AV} {v : AV} (h : v ∈ w) : place w v < w.length := List.findIdx_lt_length_of_exists ⟨v, h, by simp⟩
theorem place_at {w : List AV} {v : AV} (h : v ∈ w) : w[place w v]'(place_lt h) = v := by
  have := List.findIdx_getElem (p := fun x => decide (v = x)) (xs := w) (w := place_lt h)
  simp only [decide_eq_true_eq] at this
  exact this.symm
theorem u64_places {l w : List AV} (h : ∀ v ∈ l, v ∈ w) (hw : w.length < 1048576) : U64 (l.map fun v => (place w v : Int)) := fun x hx => by
  obtain ⟨v, hv, rfl⟩ := List.mem_map.1 hx
  have := place_lt (h v hv)
  omega
theorem encode_dict_eq {l : List AV} (h : ∀ v ∈ l, Rgt v) (hl : l.length ≤ 64) (hne : l ≠ []) : encode_dict l = some (dictB l) := by
  obtain ⟨r, hr1, hr2⟩ := sort_compact_eq h (by omega)
  obtain ⟨h3, h4, h5⟩ := words_prop h
  have hwr : ∀ v ∈ words l, Rgt v := fun v hv => h v ((h4 v).1 hv)
  unfold encode_dict slices_Clone_Value_g
  rw [app_of (by simp; omega), Option.bind_some, Option.bind_some, List.nil_append, hr1, Option.bind_some, hr2, Option.bind_some, wrapu8, show ((words l).length : Int) % 256 = (words l).length by omega]
  have hfl := flat_len hwr
  refine loop_seq (fun i => (((words l).length : Int) :: ((words l).take i).flatMap oneB, (i : Int))) (words l).length (by simp) (fun i hi => ?_) ?_
  · dsimp only
    unfold encode_dict_b2
    have h1 := flat_len (l := (words l).take i) fun v hv => hwr v (List.mem_of_mem_take hv)
    have h2 := (oneB_len (hwr _ (List.getElem_mem hi))).2
    simp only [List.length_take] at h1
    rw [if_pos (by simpa using hi), idx_of hi, Option.bind_some, encode_one_eq (hwr _ (List.getElem_mem hi)), Option.bind_some, app_of (by simp only [List.length_cons]; omega), Option.bind_some, succ64 (by omega), take_flat hi]
    rfl
  · dsimp only
    unfold encode_dict_b2
    rw [if_neg (by simp), List.take_length]
    unfold encode_dict_j1
    have : loopO (fun s : ((List Int) × Int) => encode_dict_b1 l (words l) (((words l).length : Int) :: (words l).flatMap oneB) s.1 s.2) ([], 0) = some (dictB l) := by
      refine loop_seq (fun i => ((l.take i).map fun v => (place (words l) v : Int), (i : Int))) l.length (by simp) (fun i hi => ?_) ?_
      · dsimp only
        unfold encode_dict_b1
        have hm := (h4 l[i]).2 (List.getElem_mem hi)
        have hp := place_lt hm
        rw [if_pos (by simpa using hi), idx_of hi, Option.bind_some, Index_eq (by omega) hm, Option.bind_some, wrapu64, app_of (by simp; omega), Option.bind_some, succ64 (by omega), List.take_succ_eq_append_getElem hi]
        have : ((place (words l) l[i] : Nat) : Int) % 18446744073709551616 = (place (words l) l[i] : Nat) := by omega
        rw [this, List.map_append, List.map_cons, List.map_nil]
      · dsimp only
        unfold encode_dict_b1 encode_dict_j2
        rw [if_neg (by simp), List.take_length]
        by_cases h0 : (words l).length = 0
        · have hw0 : words l = [] := List.eq_nil_of_length_eq_zero h0
          have hl0 : l = [] := by
            cases l with
            | nil => rfl
            | cons a t => have := (h4 a).2 (by simp); rw [hw0] at this; cases this
          subst hl0
          exfalso
          exact absurd rfl hne
        have e1 : IntKind.u64.wrap (IntKind.i64.wrap (((words l).length : Int) - 1)) = (((words l).length - 1 : Nat) : Int) := by rw [wrap64 (by omega), wrapu64]; omega
        have hwid : wid ((words l).length - 1) ≤ 64 := wid_le (Nat.lt_of_lt_of_le (show (words l).length - 1 < 64 by omega) (by decide))
        have hpl : (packed (l.map fun v => (place (words l) v : Int)) (wid ((words l).length - 1))).length ≤ 64 * 64 := by
          unfold packed
          rw [packB_len, List.length_map]
          have := Nat.mul_le_mul hl hwid
          omega
        rw [e1, len_eq (by omega), Option.bind_some, packed_eq (u64_places (fun v hv => (h4 v).2 hv) (by omega)) (by simp; omega) hwid, Option.bind_some, app_of (by simp only [List.length_cons]; omega)]
        rfl
    rw [this]; rfl
def minI : List Int → Int
  | [] => 0
  | a :: r => r.foldl (fun m x => if x < m then x else m) a
theorem foldl_min (r : List Int) : ∀ a : Int, r.foldl (fun m x => if x < m then x else m) a ≤ a ∧ (∀ x ∈ r, r.foldl (fun m x => if x < m then x else m) a ≤ x) ∧ (r.foldl (fun m x => if x < m then x else m) a = a ∨ r.foldl (fun m x => if x < m then x else m) a ∈ r) := by
  induction r with
  | nil => intro a; simp
  | cons b r ih =>
    intro a
    simp only [List.foldl_cons]
    obtain ⟨h1, h2, h3⟩ := ih (if b < a then b else a)
    have hb : (if b < a then b else a) ≤ a ∧ (if b < a then b else a) ≤ b ∧ ((if b < a then b else a) = a ∨ (if b < a then b else a) = b) := by split <;> omega
    refine ⟨by omega, fun x hx => ?_, ?_⟩
    · rcases List.mem_cons.1 hx with rfl | hx
      · omega
      · exact h2 x hx
    · rcases h3 with h3 | h3
      · rcases hb.2.2 with h4 | h4
        · left; omega
        · right; rw [h3, h4]; simp
      · right; simp [h3]
theorem minI_le {l : List Int} {x : Int} (h : x ∈ l) : minI l ≤ x := by
  cases l with
  | nil => cases h
  | cons a r =>
    obtain ⟨h1, h2, _⟩ := foldl_min r a
    rcases List.mem_cons.1 h with rfl | h
    · exact h1
    · exact h2 x h
theorem minI_mem {l : List Int} (h : l ≠ []) : minI l ∈ l := by
  cases l with
  | nil => exact absurd rfl h
  | cons a r =>
    obtain ⟨_, _, h3⟩ := foldl_min r a
    rcases h3 with h3 | h3
    · show r.foldl _ a ∈ _; rw [h3]; simp
    · exact List.mem_cons_of_mem _ h3
def widMax (l : List Int) : Nat := l.foldl (fun w x => max w (wid x.toNat)) 0
theorem widMax_take {l : List Int} {i : Nat} (h : i < l.length) : widMax (l.take (i + 1)) = max (widMax (l.take i)) (wid l[i].toNat) := foldl_take h
theorem widMax_prop {l : List Int} (h : U64 l) : widMax l ≤ 64 ∧ ∀ x ∈ l, wid x.toNat ≤ widMax l := by
  have key : ∀ i, i ≤ l.length → widMax (l.take i) ≤ 64 ∧ ∀ x ∈ l.take i, wid x.toNat ≤ widMax (l.take i) := by
    intro i
    induction i with
    | zero => intro _; simp [widMax]
    | succ i ih =>
      intro hi
      obtain ⟨h1, h2⟩ := ih (by omega)
      have hlt : i < l.length := by omega
      have hx := h l[i] (List.getElem_mem hlt)
      have hw : wid l[i].toNat ≤ 64 := wid_le (by have : (2 : Nat) ^ 64 = 18446744073709551616 := by decide
                                                  omega)
      rw [widMax_take hlt]
      refine ⟨by omega, fun x hx => ?_⟩
      rw [List.take_succ_eq_append_getElem hlt] at hx
      rcases List.mem_append.1 hx with hx | hx
      · have := h2 x hx; omega
      · have : x = l[i] := by simpa using hx
        subst this; omega
  have := key l.length (Nat.le_refl _)
  rwa [List.take_length] at this
def aboveL (l : List Int) : List Int := l.map fun x => x - minI l
def smallB (l : List Int) : List Int := be8 (minI l % 18446744073709551616) ++ [(widMax (aboveL l) : Int)] ++ packed (aboveL l) (widMax (aboveL l))
theorem above_u64 {l : List Int} (h : ∀ x ∈ l, i64r x) : U64 (aboveL l) := fun x hx => by
  obtain ⟨y, hy, rfl⟩ := List.mem_map.1 hx
  have h1 := minI_le hy
  have h2 := h y hy
  have h3 := h (minI l) (minI_mem (List.ne_nil_of_mem hy))
  unfold i64r at h2 h3
  omega
theorem above_eq {x m : Int} (hx : i64r x) (hm : i64r m) (h : m ≤ x) : IntKind.u64.wrap ((IntKind.u64.wrap x) - (IntKind.u64.wrap m)) = x - m := by
  rw [wrapu64, wrapu64, wrapu64]; unfold i64r at *; omega
theorem Min_eq {l : List Int} (h0 : 0 < l.length) (hl : l.length ≤ 1048576) : slices_Min_int64 l = some (minI l) := by
  cases l with
  | nil => simp at h0
  | cons a r =>
    unfold slices_Min_int64 slices_Min_int64_j1
    rw [if_neg (by simp; omega), idx_cons0, Option.bind_some]
    refine loop_seq (fun i => ((r.take i).foldl (fun m x => if x < m then x else m) a, ((i + 1 : Nat) : Int))) r.length (by simp) (fun i hi => ?_) ?_
    · dsimp only
      unfold slices_Min_int64_b1
      rw [if_pos (by simpa using hi), idx_of (by simpa using hi), Option.bind_some, succ64 (by simp at hl; omega), foldl_take hi]
      rfl
    · dsimp only
      unfold slices_Min_int64_b1 slices_Min_int64_j2
      rw [if_neg (by simp), List.take_length]; rfl
theorem max_if (a b : Nat) : (if (a : Int) < (b : Int) then (b : Int) else (a : Int)) = ((max a b : Nat) : Int) := by split <;> omega
theorem encode_small_eq {l : List Int} (h : ∀ x ∈ l, i64r x) (h0 : 0 < l.length) (hl : l.length ≤ 64) : encode_small l = some (smallB l) := by
  have hne : l ≠ [] := fun e => by subst e; simp at h0
  have hm := h _ (minI_mem hne)
  have hu := above_u64 h
  obtain ⟨hw, hw2⟩ := widMax_prop hu
  have hal : (aboveL l).length = l.length := by simp [aboveL]
  unfold encode_small
  rw [Min_eq h0 (by omega), Option.bind_some]
  refine loop_seq (fun i => ((aboveL l).take i, ((widMax ((aboveL l).take i) : Nat) : Int), (i : Int))) l.length (by simp [widMax]) (fun i hi => ?_) ?_
  · dsimp only
    unfold encode_small_b1
    have hxi := List.getElem_mem hi
    have hai : (aboveL l)[i]'(by omega) = l[i] - minI l := by simp [aboveL]
    have hlt := hu _ (List.getElem_mem (show i < (aboveL l).length by omega))
    rw [hai] at hlt
    have e2 := len64_eq (n := (l[i] - minI l).toNat) (by omega)
    rw [show (((l[i] - minI l).toNat : Nat) : Int) = l[i] - minI l by omega] at e2
    rw [if_pos (by simpa using hi), idx_of hi, Option.bind_some, above_eq (h _ hxi) hm (minI_le hxi), app_of (by simp; omega), Option.bind_some, e2, Option.bind_some, succ64 (by omega), max_if, widMax_take (by omega), List.take_succ_eq_append_getElem (by omega), hai]
  · dsimp only
    unfold encode_small_b1 encode_small_j1
    have hpl : (packed (aboveL l) (widMax (aboveL l))).length ≤ 64 * 64 := by
      unfold packed
      rw [packB_len, hal]
      have := Nat.mul_le_mul hl hw
      omega
    rw [if_neg (by simp), ← hal, List.take_length, wrapu64, encode_eight_eq, Option.bind_some, wrapu8, app_of (by simp [be8_length]), Option.bind_some, packed_eq hu (by omega) hw, Option.bind_some, app_of (by simp only [List.length_append, be8_length, List.length_singleton]; omega)]
    have : ((widMax (aboveL l) : Nat) : Int) % 256 = (widMax (aboveL l) : Nat) := by omega
    rw [this]; rfl
def plainB (l : List AV) : List Int := l.flatMap oneB
def encK (kind : Int) (l : List AV) : List Int :=
  if kind = 1 then runsB l else if kind = 2 then deltaB (l.map (·.fInt)) else if kind = 3 then dictB l else if kind = 4 then smallB (l.map (·.fInt)) else plainB l
def isInts (l : List AV) : Bool := l.all fun v => v.fKind == 2
def enc (kind : Int) (l : List AV) : List Int × Int :=
  if kind < 0 ∨ 4 < kind then ([], 62) else if 64 < l.length then ([], 61) else if l.all right = false then ([], 60) else
  if (kind = 2 ∨ kind = 4) ∧ isInts l = false then ([], 62) else if l = [] then ([], 0) else (encK kind l, 0)
theorem ints_eq {l : List AV} (hl : l.length ≤ 1048576) : encode_ints l = some (if isInts l then (l.map (·.fInt), true) else ([], false)) := by
  unfold encode_ints isInts
  refine loop_allS (fun i => ((l.take i).map (·.fInt), (i : Int))) l (fun v => v.fKind == 2) _ _ (by simp) (fun i hi hp => ?_) (fun i hi hp => ?_) ?_
  · dsimp only
    unfold encode_ints_b1
    rw [if_pos (by simpa using hi), idx_of hi, Option.bind_some, if_neg (by simpa using hp), app_of (by simp; omega), Option.bind_some, succ64 (by omega), List.take_succ_eq_append_getElem hi, List.map_append, List.map_cons, List.map_nil]
  · dsimp only
    unfold encode_ints_b1
    rw [if_pos (by simpa using hi), idx_of hi, Option.bind_some, if_pos (by simpa using hp)]; rfl
  · dsimp only
    unfold encode_ints_b1 encode_ints_j1
    rw [if_neg (by simp), List.take_length]; rfl
theorem Contains_eq {l : List AV} (hl : l.length ≤ 1048576) : slices_ContainsFunc_Value l encode_Encode_1 = some (!l.all right) := by
  unfold slices_ContainsFunc_Value slices_IndexFunc_Value
  have := loop_find (f := fun s : Int => slices_IndexFunc_Value_b1 l encode_Encode_1 s) l (fun v => !right v) (fun i => (i : Int)) (-1) (fun i hi hp => ?_) (fun i hi hp => ?_) ?_
  · rw [this, Option.bind_some]
    have e : l.any (fun v => !right v) = !l.all right := by simp [List.any_eq_not_all_not]
    rw [e]
    cases l.all right <;> simp
  · unfold slices_IndexFunc_Value_b1 encode_Encode_1
    rw [if_pos (by simpa using hi), idx_of hi, Option.bind_some, value_Right_eq, Option.bind_some, Option.bind_some, hp, if_neg (by decide), succ64 (by omega)]
  · unfold slices_IndexFunc_Value_b1 encode_Encode_1
    rw [if_pos (by simpa using hi), idx_of hi, Option.bind_some, value_Right_eq, Option.bind_some, Option.bind_some, hp, if_pos rfl]; rfl
  · unfold slices_IndexFunc_Value_b1 slices_IndexFunc_Value_j1
    rw [if_neg (by simp)]; rfl
theorem rgt_all {l : List AV} (h : ∀ v ∈ l, VOK v) (hr : l.all right = true) : ∀ v ∈ l, Rgt v := fun v hv => Rgt.of (h v hv) (List.all_eq_true.1 hr v hv)
theorem Encode_eq {l : List AV} (kind : Int) (h : ∀ v ∈ l, VOK v) (hl : l.length ≤ 1048576) : encode_Encode kind l = some (enc kind l) := by
  unfold encode_Encode enc
  have hj : ∀ b, encode_Encode_j1 kind l b = some (if b = true then ([], 62) else if 64 < l.length then ([], 61) else if l.all right = false then ([], 60) else if (kind = 2 ∨ kind = 4) ∧ isInts l = false then ([], 62) else if l = [] then ([], 0) else (encK kind l, 0)) := by
    intro b
    unfold encode_Encode_j1
    cases b
    · simp only [Bool.false_eq_true, if_false]
      by_cases h1 : 64 < l.length
      · rw [if_pos (decide_eq_true (by omega)), if_pos h1]
      rw [if_neg (by simp; omega), if_neg h1, Contains_eq hl, Option.bind_some]
      cases hr : l.all right
      · rfl
      rw [if_neg (by decide), if_neg (by decide), ints_eq hl, Option.bind_some]
      have hR := rgt_all h hr
      have hj2 : ∀ ns : List Int × Bool, (kind = 2 ∨ kind = 4 → ns.1 = l.map (·.fInt)) → encode_Encode_j2 kind l ns false = some (if l = [] then ([], 0) else (encK kind l, 0)) := by
        intro ns hns
        unfold encode_Encode_j2
        rw [if_neg (by decide)]
        by_cases h0 : l = []
        · subst h0; rfl
        have hpos : 0 < l.length := List.length_pos_iff.2 h0
        rw [if_neg (by simpa using h0), if_neg h0]
        unfold encK
        by_cases k1 : kind = 1
        · rw [if_pos (by simpa using k1), encode_runs_eq hR (by omega), if_pos k1]; rfl
        rw [if_neg (by simpa using k1), if_neg k1]
        by_cases k2 : kind = 2
        · rw [if_pos (by simpa using k2), hns (.inl k2), encode_delta_eq (by simpa using hpos) (by simp; omega), if_pos k2]; rfl
        rw [if_neg (by simpa using k2), if_neg k2]
        by_cases k3 : kind = 3
        · rw [if_pos (by simpa using k3), encode_dict_eq hR (by omega) h0, if_pos k3]; rfl
        rw [if_neg (by simpa using k3), if_neg k3]
        by_cases k4 : kind = 4
        · rw [if_pos (by simpa using k4), hns (.inr k4), encode_small_eq (fun x hx => by obtain ⟨v, hv, rfl⟩ := List.mem_map.1 hx; exact (h v hv).int) (by simpa using hpos) (by simp; omega), if_pos k4]; rfl
        rw [if_neg (by simpa using k4), if_neg k4]
        refine loop_seq (fun i => ((l.take i).flatMap oneB, (i : Int))) l.length (by simp) (fun i hi => ?_) ?_
        · dsimp only
          unfold encode_Encode_b1
          have h3 := flat_len (l := l.take i) fun v hv => hR v (List.mem_of_mem_take hv)
          have h2 := (oneB_len (hR _ (List.getElem_mem hi))).2
          simp only [List.length_take] at h3
          rw [if_pos (by simpa using hi), idx_of hi, Option.bind_some, encode_one_eq (hR _ (List.getElem_mem hi)), Option.bind_some, app_of (by omega), Option.bind_some, succ64 (by omega), take_flat hi]
        · dsimp only
          unfold encode_Encode_b1 encode_Encode_j3
          rw [if_neg (by simp), List.take_length]; rfl
      have hj2t : ∀ ns : List Int × Bool, encode_Encode_j2 kind l ns true = some ([], 62) := fun ns => rfl
      cases hi : isInts l
      · simp only [Bool.false_eq_true, if_false, Bool.not_false, if_true, and_true]
        by_cases k2 : kind = 2
        · rw [if_pos (by simpa using k2), if_pos (.inl k2), hj2t]
        by_cases k4 : kind = 4
        · have : (kind == 4) = true := by simpa using k4
          rw [if_neg (by simpa using k2), this, if_pos (.inr k4), hj2t]
        · have : (kind == 4) = false := by simpa using k4
          rw [if_neg (by simpa using k2), this, if_neg (by omega), hj2 _ (by omega)]
      · simp only [if_true, Bool.not_true, Bool.false_eq_true, if_false, Bool.true_eq_false, and_false]
        exact hj2 _ fun _ => rfl
    · rfl
  by_cases h0 : kind < 0
  · rw [if_pos (by simpa using h0), if_pos (.inl h0), hj]; rfl
  rw [if_neg (by simpa using h0), hj]
  by_cases h4 : 4 < kind
  · rw [if_pos (by simpa using h4), if_pos (show kind < 0 ∨ 4 < kind from .inr h4)]
  · rw [if_neg (show ¬ (kind < 0 ∨ 4 < kind) by omega), if_neg (by simpa using h4)]
end Go.Proofs.Ytifobhaccglckaa.Hay
