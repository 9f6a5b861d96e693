import Derived.Test.YtifobhaccglckaaHayZc
/- Plain laws: the statements of layer 6, on plain data. -/
namespace Go.Proofs.Ytifobhaccglckaa.Hay
theorem encK_byt {kind : Int} {l : List Api_Value} (h : ∀ v ∈ l, Rgt v) (hl : l.length ≤ 64) : Byt (encK kind l) := by
  obtain ⟨w1, w2, w3⟩ := words_prop h
  have fl : ∀ {α : Type} (xs : List α) (f : α → List Int), (∀ x ∈ xs, Byt (f x)) → Byt (xs.flatMap f) := fun xs f hf c hc => by
    obtain ⟨x, hx, hc⟩ := List.mem_flatMap.1 hc
    exact hf x hx c hc
  unfold encK
  split
  · obtain ⟨h1, h2, _⟩ := runsL_all (l := l)
    exact fl _ _ fun x hx => .cons (by have := h1 x hx; omega) (oneB_byt (h _ (h1 x hx).2.2))
  split
  · exact Byt.app (be8_bytes _) (fl _ _ fun x _ => short_byt _)
  split
  · exact .cons (by omega) (.app (fl _ _ fun v hv => oneB_byt (h v ((w2 v).1 hv))) (packed_byt _ _))
  split
  · have hi : ∀ x ∈ l.map (·.fInt), i64r x := fun x hx => by
      obtain ⟨v, hv, rfl⟩ := List.mem_map.1 hx
      exact (h v hv).ok.int
    have := (widMax_prop (above_u64 hi)).1
    exact .app (.app (be8_bytes _) (.cons (by omega) .nil)) (packed_byt _ _)
  · exact fl _ _ fun v hv => oneB_byt (h v hv)
theorem enc_byt (kind : Int) {l : List Api_Value} (h : ∀ v ∈ l, VOK v) : Byt (enc kind l).1 := by
  unfold enc
  repeat' split
  all_goals first | exact .nil | skip
  rename_i h2 h3 _ _
  exact encK_byt (rgt_all h (by simpa using h3)) (by omega)
theorem enc_rgt {kind : Int} {l : List Api_Value} {b : List Int} (h : ∀ v ∈ l, VOK v) (he : enc kind l = (b, 0)) : ∀ v ∈ l, Rgt v := rgt_all h (enc_some he).2.2.1
/-- Unlike values have unlike encodings. -/
theorem enc_inj {kind : Int} {l l' : List Api_Value} {b : List Int} (h : ∀ v ∈ l, Rgt v) (h' : ∀ v ∈ l', Rgt v) (hl : l'.length = l.length) (he : enc kind l = (b, 0)) (he' : enc kind l' = (b, 0)) : l' = l := by
  by_cases h0 : l.length = 0
  · rw [List.eq_nil_of_length_eq_zero h0, List.eq_nil_of_length_eq_zero (hl.trans h0)]
  have hb : Byt b := by have := enc_byt kind fun v hv => (h v hv).ok; rw [he] at this; exact this
  have hbl : b.length ≤ 100000 := by have := enc_len kind fun v hv => (h v hv).ok; rw [he] at this; exact this
  obtain ⟨x, _, _, _, hx⟩ := guess_all (b := b) (many := l.length) kind hb (by omega) ⟨by omega, (enc_some he).2.1⟩
  rw [← (hx l h rfl he).1, ← (hx l' h' hl he').1]
theorem dec_enc {kind : Int} {l : List Api_Value} {b : List Int} (h : ∀ v ∈ l, VOK v) (he : enc kind l = (b, 0)) : dec kind b (l.length : Int) = (l, 0) := by
  have hR := enc_rgt h he
  obtain ⟨k1, k2, _⟩ := enc_some he
  unfold dec
  rw [if_neg (show ¬ (kind < 0 ∨ 4 < kind) by omega), if_neg (show ¬ ((l.length : Int) < 0 ∨ 64 < (l.length : Int)) by omega)]
  have hx : ∃ l' : List Api_Value, (∀ v ∈ l', Rgt v) ∧ (l'.length : Int) = (l.length : Int) ∧ enc kind l' = (b, 0) := ⟨l, hR, rfl, he⟩
  rw [dif_pos hx]
  obtain ⟨c1, c2, c3⟩ := hx.choose_spec
  rw [enc_inj hR c1 (by omega) he c3]
/-! the best kind -/
def bstep (l : List Api_Value) (s : Int × Int) (k : Nat) : Int × Int := if (enc (k : Int) l).2 = 0 ∧ (s.2 < 0 ∨ ((enc (k : Int) l).1.length : Int) < s.2) then ((k : Int), ((enc (k : Int) l).1.length : Int)) else s
def bests (l : List Api_Value) (n : Nat) : Int × Int := (List.range n).foldl (bstep l) (0, -1)
/-- P6.3. -/
def best (l : List Api_Value) : Int := (bests l 5).1
theorem bests_succ (l : List Api_Value) (n : Nat) : bests l (n + 1) = bstep l (bests l n) n := by simp [bests, List.range_succ]
theorem bests_prop (l : List Api_Value) (n : Nat) : ((bests l n).2 < 0 ∧ (bests l n).1 = 0 ∧ ∀ k : Nat, k < n → (enc (k : Int) l).2 ≠ 0) ∨ (0 ≤ (bests l n).2 ∧ (∃ k : Nat, k < n ∧ (bests l n).1 = (k : Int)) ∧ (enc (bests l n).1 l).2 = 0 ∧ (bests l n).2 = ((enc (bests l n).1 l).1.length : Int) ∧ ∀ k : Nat, k < n → (enc (k : Int) l).2 = 0 → (bests l n).2 ≤ ((enc (k : Int) l).1.length : Int)) := by
  induction n with
  | zero => left; exact ⟨show ((-1 : Int)) < 0 by decide, rfl, fun k hk => by omega⟩
  | succ n ih =>
    rw [bests_succ]
    generalize bests l n = s at *
    unfold bstep
    by_cases h : (enc (n : Int) l).2 = 0 ∧ (s.2 < 0 ∨ ((enc (n : Int) l).1.length : Int) < s.2)
    · rw [if_pos h]
      right
      refine ⟨by dsimp only; omega, ⟨n, by omega, rfl⟩, h.1, rfl, fun k hk he => ?_⟩
      dsimp only
      rcases ih with ⟨i1, _, i2⟩ | ⟨i1, _, _, i4, i5⟩
      · by_cases e : k = n
        · subst e; omega
        · exact absurd he (i2 k (by omega))
      · by_cases e : k = n
        · subst e; omega
        · have := i5 k (by omega) he
          omega
    · rw [if_neg h]
      rcases ih with ⟨i1, i0, i2⟩ | ⟨i1, ⟨k0, i20, i21⟩, i3, i4, i5⟩
      · left
        refine ⟨i1, i0, fun k hk he => ?_⟩
        by_cases e : k = n
        · subst e; exact h ⟨he, .inl i1⟩
        · exact i2 k (by omega) he
      · right
        refine ⟨i1, ⟨k0, by omega, i21⟩, i3, i4, fun k hk he => ?_⟩
        by_cases e : k = n
        · subst e
          rcases Int.lt_or_le ((enc (k : Int) l).1.length : Int) s.2 with h2 | h2
          · exact absurd ⟨he, .inr h2⟩ h
          · exact h2
        · exact i5 k (by omega) he
theorem Best_eq {l : List Api_Value} (h : ∀ v ∈ l, VOK v) (hl : l.length ≤ 1048576) : encode_Best l = some (best l) := by
  unfold encode_Best
  refine loop_seq (fun i => ((bests l i).1, (bests l i).2, (i : Int))) 5 rfl (fun i hi => ?_) ?_
  · dsimp only
    rw [bests_succ]
    generalize bests l i = s
    unfold encode_Best_b1 encode_Best_j2 encode_Best_j3 bstep
    rw [if_pos (decide_eq_true (by omega)), Encode_eq _ h hl, Option.bind_some, succ64 (by omega)]
    by_cases e : (enc (i : Int) l).2 = 0
    · rw [if_pos (by simpa using e)]
      by_cases e2 : s.2 < 0
      · rw [if_pos (decide_eq_true e2), if_pos rfl, if_pos ⟨e, .inl e2⟩]
      · rw [if_neg (by simpa using e2)]
        by_cases e3 : ((enc (i : Int) l).1.length : Int) < s.2
        · rw [if_pos (decide_eq_true e3), if_pos ⟨e, .inr e3⟩]
        · rw [if_neg (by simpa using e3), if_neg (fun h => by rcases h.2 with h | h <;> contradiction)]
    · rw [if_neg (by simpa using e), if_neg (by decide), if_neg (fun h => e h.1)]
  · rfl
/-! answers that the document fixes -/
theorem alive_ok : hayloftlaw06_alive = some true := by
  have hv : ∀ v ∈ [vInt 5, vInt 5, vInt 5], VOK v := fun v hv => by
    have : v = vInt 5 := by simpa using hv
    subst this; exact (Rgt.int 5 (i64r_small (by decide) (by decide))).ok
  have he : enc 1 [vInt 5, vInt 5, vInt 5] = ([3, 2, 0, 0, 0, 0, 0, 0, 0, 5], 0) := by decide +kernel
  have hbest : best [vInt 5, vInt 5, vInt 5] = 4 := by
    have e0 : (enc 0 [vInt 5, vInt 5, vInt 5]).1.length = 27 ∧ (enc 0 [vInt 5, vInt 5, vInt 5]).2 = 0 := by decide +kernel
    have e1 : (enc 1 [vInt 5, vInt 5, vInt 5]).1.length = 10 ∧ (enc 1 [vInt 5, vInt 5, vInt 5]).2 = 0 := by decide +kernel
    have e2 : (enc 2 [vInt 5, vInt 5, vInt 5]).1.length = 10 ∧ (enc 2 [vInt 5, vInt 5, vInt 5]).2 = 0 := by
      have : enc 2 [vInt 5, vInt 5, vInt 5] = (deltaB [5, 5, 5], 0) := rfl
      have h0 : dstep [5, 5, 5] 0 = [0] := by
        have : dstep [5, 5, 5] 0 = short 0 := rfl
        rw [this, short_lt (by decide)]; rfl
      have h1 : dstep [5, 5, 5] 1 = [0] := by
        have : dstep [5, 5, 5] 1 = short 0 := rfl
        rw [this, short_lt (by decide)]; rfl
      have h2 : deltaB [5, 5, 5] = be8 5 ++ (dstep [5, 5, 5] 0 ++ (dstep [5, 5, 5] 1 ++ [])) := rfl
      rw [this, h2, h0, h1]
      exact ⟨rfl, rfl⟩
    have e3 : (enc 3 [vInt 5, vInt 5, vInt 5]).1.length = 10 ∧ (enc 3 [vInt 5, vInt 5, vInt 5]).2 = 0 := by decide +kernel
    have e4 : (enc 4 [vInt 5, vInt 5, vInt 5]).1.length = 9 ∧ (enc 4 [vInt 5, vInt 5, vInt 5]).2 = 0 := by decide +kernel
    have s1 : bests [vInt 5, vInt 5, vInt 5] 1 = (0, 27) := by
      rw [bests_succ]
      have : bests [vInt 5, vInt 5, vInt 5] 0 = (0, -1) := rfl
      rw [this]; unfold bstep
      rw [show ((0 : Nat) : Int) = 0 from rfl, e0.1, e0.2]; rfl
    have s2 : bests [vInt 5, vInt 5, vInt 5] 2 = (1, 10) := by
      rw [bests_succ, s1]; unfold bstep
      rw [show ((1 : Nat) : Int) = 1 from rfl, e1.1, e1.2]; rfl
    have s3 : bests [vInt 5, vInt 5, vInt 5] 3 = (1, 10) := by
      rw [bests_succ, s2]; unfold bstep
      rw [show ((2 : Nat) : Int) = 2 from rfl, e2.1, e2.2]; rfl
    have s4 : bests [vInt 5, vInt 5, vInt 5] 4 = (1, 10) := by
      rw [bests_succ, s3]; unfold bstep
      rw [show ((3 : Nat) : Int) = 3 from rfl, e3.1, e3.2]; rfl
    unfold best
    rw [bests_succ, s4]; unfold bstep
    rw [show ((4 : Nat) : Int) = 4 from rfl, e4.1, e4.2]; rfl
  have hb : Byt [3, 2, 0, 0, 0, 0, 0, 0, 0, 5] := by have := enc_byt 1 hv; rw [he] at this; exact this
  have hd := dec_enc hv he
  unfold hayloftlaw06_alive hayloftlaw06_alive_j1
  rw [show ([(⟨2, false, 5, []⟩ : Api_Value), (⟨2, false, 5, []⟩ : Api_Value), (⟨2, false, 5, []⟩ : Api_Value)] : List Api_Value) = [vInt 5, vInt 5, vInt 5] from rfl, Encode_eq 1 hv (by simp), he, Option.bind_some]
  dsimp only
  rw [Decode_eq 1 3 hb (by simp)]
  have hd' : dec 1 [3, 2, 0, 0, 0, 0, 0, 0, 0, 5] 3 = ([vInt 5, vInt 5, vInt 5], 0) := hd
  rw [hd', Option.bind_some, Best_eq hv (by simp), hbest, idx_cons0]
  rfl
/-! the laws -/
theorem enc0_ok {l : List Api_Value} : (enc 0 l).2 ≠ 0 → ∀ k : Int, 0 ≤ k ∧ k ≤ 4 → (enc k l).2 ≠ 0 := by
  intro h k hk
  unfold enc at *
  rw [if_neg (show ¬ ((0 : Int) < 0 ∨ 4 < (0 : Int)) by omega)] at h
  rw [if_neg (show ¬ (k < 0 ∨ 4 < k) by omega)]
  split
  · decide
  split
  · decide
  rename_i h1 h2
  rw [if_neg h1, if_neg h2, if_neg (fun h => by omega)] at h
  exfalso; apply h; split <;> rfl
theorem best_le {l : List Api_Value} : (enc (best l) l).2 = (enc 0 l).2 ∧ (enc (best l) l).1.length ≤ (enc 0 l).1.length := by
  unfold best
  rcases bests_prop l 5 with ⟨_, q1, _⟩ | ⟨_, ⟨k, q0, q01⟩, q1, q2, q3⟩
  · rw [q1]; exact ⟨rfl, Nat.le_refl _⟩
  · have e : (enc 0 l).2 = 0 := Classical.byContradiction fun hn => enc0_ok hn (bests l 5).1 (by omega) q1
    have := q3 0 (by omega) e
    rw [show ((0 : Nat) : Int) = 0 from rfl] at this
    exact ⟨by rw [q1, e], by omega⟩
theorem runsL_rep (v : Api_Value) (n : Nat) : runsL (List.replicate (n + 1) v) = [⟨((n + 1 : Nat) : Int), v⟩] := by
  induction n with
  | zero => rfl
  | succ n ih =>
    have : List.replicate (n + 1 + 1) v = List.replicate (n + 1) v ++ [v] := List.replicate_succ'
    rw [this]
    unfold runsL at *
    rw [List.foldl_append, ih]
    simp [addR]
theorem law_Never {l : List Api_Value} (h : ∀ v ∈ l, VOK v) (hl : l.length ≤ 1048576) : hayloftlaw06_EncodeNever l = some true := by
  obtain ⟨b1, b2⟩ := best_le (l := l)
  unfold hayloftlaw06_EncodeNever hayloftlaw06_EncodeNever_j1
  rw [Best_eq h hl, Option.bind_some, Encode_eq _ h hl, Option.bind_some, Encode_eq _ h hl, Option.bind_some, alive_ok, Option.bind_some, if_neg (by decide), if_neg (by simpa using b1), if_neg (by simp; omega)]
  have hj2 : (∀ v ∈ l, l[0]? = some v) → hayloftlaw06_EncodeNever_j2 l = some true := by
    intro hall
    unfold hayloftlaw06_EncodeNever_j2 hayloftlaw06_EncodeNever_j3
    rw [Encode_eq _ h hl, Option.bind_some]
    by_cases e : (enc 1 l).2 = 0
    · rw [if_neg (by simpa using e)]
      by_cases h0 : l.length = 0
      · rw [if_pos (by simpa using h0)]
      · have hpos : 0 < l.length := by omega
        rw [if_neg (by simpa using h0)]
        have hs := sub_of (xs := l) (lo := 0) (hi := 1) (by omega) (by omega)
        rw [show ((0 : Nat) : Int) = 0 from rfl, show ((1 : Nat) : Int) = 1 from rfl, List.drop_zero] at hs
        have ht : l.take 1 = [l[0]] := by rw [List.take_succ_eq_append_getElem hpos]; simp
        have he : enc 1 l = ((enc 1 l).1, 0) := Prod.ext rfl e
        have hR := enc_rgt h he
        have hv := hR _ (List.getElem_mem hpos)
        have hrep : l = List.replicate (l.length - 1 + 1) l[0] := by
          refine List.eq_replicate_iff.2 ⟨by omega, fun x hx => ?_⟩
          have := hall x hx
          rw [List.getElem?_eq_getElem hpos] at this
          exact (Option.some.inj this).symm
        have hencl : (enc 1 l).1 = runsB l := by
          have := enc_is he rfl (by omega); exact this
        have hrl : (enc 1 l).1.length = (oneB l[0]).length + 1 := by
          rw [hencl]
          have : runsL l = [⟨((l.length - 1 + 1 : Nat) : Int), l[0]⟩] := by
            have := runsL_rep l[0] (l.length - 1)
            rwa [← hrep] at this
          unfold runsB; rw [this]; simp
        have h1 : enc 0 [l[0]] = (oneB l[0], 0) := by
          unfold enc
          rw [if_neg (by decide), if_neg (by simp), if_neg (by simp [hv.right]), if_neg (by simp), if_neg (by simp)]
          unfold encK
          rw [if_neg (by decide), if_neg (by decide), if_neg (by decide), if_neg (by decide)]
          simp [plainB]
        have hb := (oneB_len hv).2
        rw [hs, Option.bind_some, ht, Encode_eq 0 (by simpa using hv.ok) (by simp), h1, Option.bind_some, hrl, wrap64 (by dsimp only; omega)]
        simp
    · rw [if_pos (by simpa using e)]; rfl
  have hL : ∃ r, loopO (fun s : Int => hayloftlaw06_EncodeNever_b1 l s) 0 = some r ∧ r = true := by
   refine loopO_inv (I := fun s => ∃ i : Nat, s = (i : Int) ∧ i ≤ l.length ∧ ∀ j, j < i → l[j]? = l[0]?) (μ := fun s => l.length - s.toNat) (Q := fun r => r = true) (fun s hs => ?_) ⟨0, rfl, by omega, fun j hj => by omega⟩
   · obtain ⟨i, rfl, hi, hall⟩ := hs
     unfold hayloftlaw06_EncodeNever_b1
     by_cases hlt : i < l.length
     · have h0 : 0 < l.length := by omega
       have i0 : idx l 0 = some l[0] := idx_of (i := 0) h0
       rw [if_pos (by simpa using hlt), idx_of hlt, Option.bind_some, i0, Option.bind_some]
       by_cases e : l[i] = l[0]
       · left
         rw [if_neg (by simpa using e), succ64 (by omega)]
         refine ⟨_, rfl, ⟨i + 1, rfl, by omega, fun j hj => ?_⟩, by omega⟩
         by_cases hji : j = i
         · subst hji; rw [List.getElem?_eq_getElem hlt, List.getElem?_eq_getElem h0, e]
         · exact hall j (by omega)
       · right
         rw [if_pos (by simpa using e)]
         exact ⟨_, rfl, rfl⟩
     · right
       rw [if_neg (by simp; omega), hj2 fun v hv => by
         obtain ⟨j, hj, rfl⟩ := List.getElem_of_mem hv
         rw [← hall j (by omega), List.getElem?_eq_getElem hj]]
       exact ⟨_, rfl, rfl⟩
  obtain ⟨r, hr1, hr2⟩ := hL
  rw [hr1, hr2]
/-! no encoding begins with another one -/
end Go.Proofs.Ytifobhaccglckaa.Hay
