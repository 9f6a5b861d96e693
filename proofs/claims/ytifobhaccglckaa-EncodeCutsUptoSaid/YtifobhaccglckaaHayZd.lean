import Derived.Test.YtifobhaccglckaaHayZc
/- Plain laws: the statements of layer 6, on plain data. -/
namespace Go.Proofs.Ytifobhaccglckaa.Hay
theorem encK_byt {kind : Int} {l : List Api_Value} (h : ∀ v ∈ l, Rgt v) (hl : l.length ≤ 64) : Byt (encK kind l) := by
  obtain ⟨w1, w2, w3⟩ := words_prop h
  have fl : ∀ {α : Type} (xs : List α) (f : α → List Int), (∀ x ∈ xs, Byt (f x)) → Byt (xs.flatMap f) := fun xs f hf c hc => by
    obtain ⟨x, hx, hc⟩ := List.mem_flatMap.1 hc
    exact hf x hx c hc
  unfold encK
  split
  · obtain ⟨h1, h2, _⟩ := runsL_all (l := l)
    exact fl _ _ fun x hx => .cons (by have := h1 x hx; omega) (oneB_byt (h _ (h1 x hx).2.2))
  split
  · exact Byt.app (be8_bytes _) (fl _ _ fun x _ => short_byt _)
  split
  · exact .cons (by omega) (.app (fl _ _ fun v hv => oneB_byt (h v ((w2 v).1 hv))) (packed_byt _ _))
  split
  · have hi : ∀ x ∈ l.map (·.fInt), i64r x := fun x hx => by
      obtain ⟨v, hv, rfl⟩ := List.mem_map.1 hx
      exact (h v hv).ok.int
    have := (widMax_prop (above_u64 hi)).1
    exact .app (.app (be8_bytes _) (.cons (by omega) .nil)) (packed_byt _ _)
  · exact fl _ _ fun v hv => oneB_byt (h v hv)
theorem enc_byt (kind : Int) {l : List Api_Value} (h : ∀ v ∈ l, VOK v) : Byt (enc kind l).1 := by
  unfold enc
  repeat' split
  all_goals first | exact .nil | skip
  rename_i h2 h3 _ _
  exact encK_byt (rgt_all h (by simpa using h3)) (by omega)
theorem enc_rgt {kind : Int} {l : List Api_Value} {b : List Int} (h : ∀ v ∈ l, VOK v) (he : enc kind l = (b, 0)) : ∀ v ∈ l, Rgt v := rgt_all h (enc_some he).2.2.1
/-- Unlike values have unlike encodings. -/
theorem enc_inj {kind : Int} {l l' : List Api_Value} {b : List Int} (h : ∀ v ∈ l, Rgt v) (h' : ∀ v ∈ l', Rgt v) (hl : l'.length = l.length) (he : enc kind l = (b, 0)) (he' : enc kind l' = (b, 0)) : l' = l := by
  by_cases h0 : l.length = 0
  · rw [List.eq_nil_of_length_eq_zero h0, List.eq_nil_of_length_eq_zero (hl.trans h0)]
  have hb : Byt b := by have := enc_byt kind fun v hv => (h v hv).ok; rw [he] at this; exact this
  have hbl : b.length ≤ 100000 := by have := enc_len kind fun v hv => (h v hv).ok; rw [he] at this; exact this
  obtain ⟨x, _, _, _, hx⟩ := guess_all (b := b) (many := l.length) kind hb (by omega) ⟨by omega, (enc_some he).2.1⟩
  rw [← (hx l h rfl he).1, ← (hx l' h' hl he').1]
theorem dec_enc {kind : Int} {l : List Api_Value} {b : List Int} (h : ∀ v ∈ l, VOK v) (he : enc kind l = (b, 0)) : dec kind b (l.length : Int) = (l, 0) := by
  have hR := enc_rgt h he
  obtain ⟨k1, k2, _⟩ := enc_some he
  unfold dec
  rw [if_neg (show ¬ (kind < 0 ∨ 4 < kind) by omega), if_neg (show ¬ ((l.length : Int) < 0 ∨ 64 < (l.length : Int)) by omega)]
  have hx : ∃ l' : List Api_Value, (∀ v ∈ l', Rgt v) ∧ (l'.length : Int) = (l.length : Int) ∧ enc kind l' = (b, 0) := ⟨l, hR, rfl, he⟩
  rw [dif_pos hx]
  obtain ⟨c1, c2, c3⟩ := hx.choose_spec
  rw [enc_inj hR c1 (by omega) he c3]
/-! the best kind -/
def bstep (l : List Api_Value) (s : Int × Int) (k : Nat) : Int × Int := if (enc (k : Int) l).2 = 0 ∧ (s.2 < 0 ∨ ((enc (k : Int) l).1.length : Int) < s.2) then ((k : Int), ((enc (k : Int) l).1.length : Int)) else s
def bests (l : List Api_Value) (n : Nat) : Int × Int := (List.range n).foldl (bstep l) (0, -1)
/-- P6.3. -/
def best (l : List Api_Value) : Int := (bests l 5).1
theorem bests_succ (l : List Api_Value) (n : Nat) : bests l (n + 1) = bstep l (bests l n) n := by simp [bests, List.range_succ]
theorem Best_eq {l : List Api_Value} (h : ∀ v ∈ l, VOK v) (hl : l.length ≤ 1048576) : encode_Best l = some (best l) := by
  unfold encode_Best
  refine loop_seq (fun i => ((bests l i).1, (bests l i).2, (i : Int))) 5 rfl (fun i hi => ?_) ?_
  · dsimp only
    rw [bests_succ]
    generalize bests l i = s
    unfold encode_Best_b1 encode_Best_j2 encode_Best_j3 bstep
    rw [if_pos (decide_eq_true (by omega)), Encode_eq _ h hl, Option.bind_some, succ64 (by omega)]
    by_cases e : (enc (i : Int) l).2 = 0
    · rw [if_pos (by simpa using e)]
      by_cases e2 : s.2 < 0
      · rw [if_pos (decide_eq_true e2), if_pos rfl, if_pos ⟨e, .inl e2⟩]
      · rw [if_neg (by simpa using e2)]
        by_cases e3 : ((enc (i : Int) l).1.length : Int) < s.2
        · rw [if_pos (decide_eq_true e3), if_pos ⟨e, .inr e3⟩]
        · rw [if_neg (by simpa using e3), if_neg (fun h => by rcases h.2 with h | h <;> contradiction)]
    · rw [if_neg (by simpa using e), if_neg (by decide), if_neg (fun h => e h.1)]
  · rfl
/-! answers that the document fixes -/
theorem alive_ok : hayloftlaw06_alive = some true := by
  have hv : ∀ v ∈ [vInt 5, vInt 5, vInt 5], VOK v := fun v hv => by
    have : v = vInt 5 := by simpa using hv
    subst this; exact (Rgt.int 5 (i64r_small (by decide) (by decide))).ok
  have he : enc 1 [vInt 5, vInt 5, vInt 5] = ([3, 2, 0, 0, 0, 0, 0, 0, 0, 5], 0) := by decide +kernel
  have hbest : best [vInt 5, vInt 5, vInt 5] = 4 := by
    have e0 : (enc 0 [vInt 5, vInt 5, vInt 5]).1.length = 27 ∧ (enc 0 [vInt 5, vInt 5, vInt 5]).2 = 0 := by decide +kernel
    have e1 : (enc 1 [vInt 5, vInt 5, vInt 5]).1.length = 10 ∧ (enc 1 [vInt 5, vInt 5, vInt 5]).2 = 0 := by decide +kernel
    have e2 : (enc 2 [vInt 5, vInt 5, vInt 5]).1.length = 10 ∧ (enc 2 [vInt 5, vInt 5, vInt 5]).2 = 0 := by
      have : enc 2 [vInt 5, vInt 5, vInt 5] = (deltaB [5, 5, 5], 0) := rfl
      have h0 : dstep [5, 5, 5] 0 = [0] := by
        have : dstep [5, 5, 5] 0 = short 0 := rfl
        rw [this, short_lt (by decide)]; rfl
      have h1 : dstep [5, 5, 5] 1 = [0] := by
        have : dstep [5, 5, 5] 1 = short 0 := rfl
        rw [this, short_lt (by decide)]; rfl
      have h2 : deltaB [5, 5, 5] = be8 5 ++ (dstep [5, 5, 5] 0 ++ (dstep [5, 5, 5] 1 ++ [])) := rfl
      rw [this, h2, h0, h1]
      exact ⟨rfl, rfl⟩
    have e3 : (enc 3 [vInt 5, vInt 5, vInt 5]).1.length = 10 ∧ (enc 3 [vInt 5, vInt 5, vInt 5]).2 = 0 := by decide +kernel
    have e4 : (enc 4 [vInt 5, vInt 5, vInt 5]).1.length = 9 ∧ (enc 4 [vInt 5, vInt 5, vInt 5]).2 = 0 := by decide +kernel
    have s1 : bests [vInt 5, vInt 5, vInt 5] 1 = (0, 27) := by
      rw [bests_succ]
      have : bests [vInt 5, vInt 5, vInt 5] 0 = (0, -1) := rfl
      rw [this]; unfold bstep
      rw [show ((0 : Nat) : Int) = 0 from rfl, e0.1, e0.2]; rfl
    have s2 : bests [vInt 5, vInt 5, vInt 5] 2 = (1, 10) := by
      rw [bests_succ, s1]; unfold bstep
      rw [show ((1 : Nat) : Int) = 1 from rfl, e1.1, e1.2]; rfl
    have s3 : bests [vInt 5, vInt 5, vInt 5] 3 = (1, 10) := by
      rw [bests_succ, s2]; unfold bstep
      rw [show ((2 : Nat) : Int) = 2 from rfl, e2.1, e2.2]; rfl
    have s4 : bests [vInt 5, vInt 5, vInt 5] 4 = (1, 10) := by
      rw [bests_succ, s3]; unfold bstep
      rw [show ((3 : Nat) : Int) = 3 from rfl, e3.1, e3.2]; rfl
    unfold best
    rw [bests_succ, s4]; unfold bstep
    rw [show ((4 : Nat) : Int) = 4 from rfl, e4.1, e4.2]; rfl
  have hb : Byt [3, 2, 0, 0, 0, 0, 0, 0, 0, 5] := by have := enc_byt 1 hv; rw [he] at this; exact this
  have hd := dec_enc hv he
  unfold hayloftlaw06_alive hayloftlaw06_alive_j1
  rw [show ([(⟨2, false, 5, []⟩ : Api_Value), (⟨2, false, 5, []⟩ : Api_Value), (⟨2, false, 5, []⟩ : Api_Value)] : List Api_Value) = [vInt 5, vInt 5, vInt 5] from rfl, Encode_eq 1 hv (by simp), he, Option.bind_some]
  dsimp only
  rw [Decode_eq 1 3 hb (by simp)]
  have hd' : dec 1 [3, 2, 0, 0, 0, 0, 0, 0, 0, 5] 3 = ([vInt 5, vInt 5, vInt 5], 0) := hd
  rw [hd', Option.bind_some, Best_eq hv (by simp), hbest, idx_cons0]
  rfl
/-! the laws -/
/-! no encoding begins with another one -/
theorem plain_pre : ∀ {l l' : List Api_Value} {r : List Int}, (∀ v ∈ l, Rgt v) → (∀ v ∈ l', Rgt v) → l.length = l'.length → plainB l ++ r = plainB l' → l = l' ∧ r = []
  | [], [], r, _, _, _, h => ⟨rfl, by simpa [plainB] using h⟩
  | [], _ :: _, _, _, _, h, _ => by simp at h
  | _ :: _, [], _, _, _, h, _ => by simp at h
  | a :: l, b :: l', r, h, h', hl, he => by
    have e1 : plainB (a :: l) ++ r = oneB a ++ (plainB l ++ r) := by simp [plainB]
    have e2 : plainB (b :: l') = oneB b ++ plainB l' := by simp [plainB]
    rw [e1, e2] at he
    have p1 := parse_one (h a (by simp)) (plainB l ++ r)
    rw [he, parse_one (h' b (by simp))] at p1
    obtain ⟨rfl, _⟩ := Prod.mk.inj (Option.some.inj p1)
    obtain ⟨rfl, q⟩ := plain_pre (fun v hv => h v (by simp [hv])) (fun v hv => h' v (by simp [hv])) (by simpa using hl) (List.append_cancel_left he)
    exact ⟨rfl, q⟩
theorem runs_pre : ∀ {rs rs' : List Encode_Run} {r : List Int}, (∀ x ∈ rs, 1 ≤ x.fMany ∧ Rgt x.fValue) → (∀ x ∈ rs', 1 ≤ x.fMany ∧ Rgt x.fValue) → (expand rs).length = (expand rs').length → runsD rs ++ r = runsD rs' → r = []
  | [], [], r, _, _, _, h => by simpa [runsD] using h
  | [], b :: t, r, _, h', hl, _ => by
    have := (h' b (by simp)).1
    simp [expand] at hl
    omega
  | a :: t, [], r, _, _, _, h => by simp [runsD] at h
  | a :: t, b :: t', r, h, h', hl, he => by
    have ha := h a (by simp)
    have hb := h' b (by simp)
    have e1 : runsD (a :: t) ++ r = a.fMany :: (oneB a.fValue ++ (runsD t ++ r)) := by simp [runsD]
    have e2 : runsD (b :: t') = b.fMany :: (oneB b.fValue ++ runsD t') := by simp [runsD]
    rw [e1, e2] at he
    obtain ⟨he1, he2⟩ := List.cons.inj he
    have p1 := parse_one ha.2 (runsD t ++ r)
    rw [he2, parse_one hb.2] at p1
    obtain ⟨hv, _⟩ := Prod.mk.inj (Option.some.inj p1)
    rw [hv] at he2
    refine runs_pre (fun x hx => h x (by simp [hx])) (fun x hx => h' x (by simp [hx])) ?_ (List.append_cancel_left he2)
    simp only [expand, List.flatMap_cons, List.length_append, List.length_replicate] at hl ⊢
    omega
theorem short_pre (f g : Nat → Nat) (hf : ∀ i, f i < 18446744073709551616) (hg : ∀ i, g i < 18446744073709551616) : ∀ (ks : List Nat) (r : List Int), ks.flatMap (fun i => short (f i)) ++ r = ks.flatMap (fun i => short (g i)) → r = []
  | [], r, h => by simpa using h
  | k :: ks, r, h => by
    rw [List.flatMap_cons, List.flatMap_cons, List.append_assoc] at h
    have p1 := short_one (hf k) (ks.flatMap (fun i => short (f i)) ++ r)
    rw [h, short_one (hg k)] at p1
    have := (Encode_reader.mk.inj (Prod.mk.inj (Option.some.inj p1)).2).1
    exact short_pre f g hf hg ks r this.symm
theorem pre_free {kind : Int} {l l' : List Api_Value} {b r : List Int} (h : ∀ v ∈ l, Rgt v) (h' : ∀ v ∈ l', Rgt v) (hl : l'.length = l.length) (he : enc kind l = (b, 0)) (he' : enc kind l' = (b ++ r, 0)) : r = [] := by
  by_cases h0 : l.length = 0
  · have e1 := List.eq_nil_of_length_eq_zero h0
    have e2 := List.eq_nil_of_length_eq_zero (hl.trans h0)
    subst e1; subst e2
    rw [he] at he'
    have := (Prod.mk.inj he').1
    simpa using this
  have c1 : b = encK kind l := enc_is he rfl (by omega)
  have c2 : b ++ r = encK kind l' := enc_is he' rfl (by omega)
  have hk := (enc_some he).1
  rw [c1] at c2
  unfold encK at c2
  split at c2
  · obtain ⟨q1, q2, q3⟩ := runsL_all (l := l)
    obtain ⟨q4, q5, q6⟩ := runsL_all (l := l')
    exact runs_pre (rs := runsL l) (rs' := runsL l') (fun x hx => ⟨(q1 x hx).1, h _ (q1 x hx).2.2⟩) (fun x hx => ⟨(q4 x hx).1, h' _ (q4 x hx).2.2⟩) (by rw [q3, q6, hl]) c2
  split at c2
  · unfold deltaB at c2
    simp only [List.length_map, List.append_assoc] at c2
    have e8 := congrArg (List.take 8) c2
    rw [List.take_left' (be8_length _), List.take_left' (be8_length _)] at e8
    rw [e8] at c2
    have c3 := List.append_cancel_left c2
    rw [hl] at c3
    exact short_pre _ _ (fun i => zig_lt (wrap_r _)) (fun i => zig_lt (wrap_r _)) _ _ c3
  split at c2
  · obtain ⟨w1, w2, w3⟩ := words_prop h
    obtain ⟨w4, w5, w6⟩ := words_prop h'
    unfold dictB at c2
    rw [List.cons_append, List.append_assoc] at c2
    obtain ⟨c3, c4⟩ := List.cons.inj c2
    have hwl : (words l).length = (words l').length := by omega
    -- the words are the same
    have key : ∀ (a a' : List Api_Value) (x y : List Int), (∀ v ∈ a, Rgt v) → (∀ v ∈ a', Rgt v) → a.length = a'.length → a.flatMap oneB ++ x = a'.flatMap oneB ++ y → a = a' ∧ x = y := by
      intro a
      induction a with
      | nil => intro a' x y _ _ hl he; cases a' with
        | nil => exact ⟨rfl, by simpa using he⟩
        | cons _ _ => simp at hl
      | cons v a ih => intro a' x y ha ha' hl he; cases a' with
        | nil => simp at hl
        | cons v' a' =>
          rw [List.flatMap_cons, List.flatMap_cons, List.append_assoc, List.append_assoc] at he
          have p1 := parse_one (ha v (by simp)) (a.flatMap oneB ++ x)
          rw [he, parse_one (ha' v' (by simp))] at p1
          obtain ⟨rfl, _⟩ := Prod.mk.inj (Option.some.inj p1)
          obtain ⟨rfl, q⟩ := ih a' x y (fun v hv => ha v (by simp [hv])) (fun v hv => ha' v (by simp [hv])) (by simpa using hl) (List.append_cancel_left he)
          exact ⟨rfl, q⟩
    obtain ⟨e1, e2⟩ := key _ _ _ _ (fun v hv => h v ((w2 v).1 hv)) (fun v hv => h' v ((w5 v).1 hv)) hwl c4
    have := congrArg List.length e2
    simp only [List.length_append, packed_len, List.length_map, hwl, hl] at this
    exact List.eq_nil_of_length_eq_zero (by omega)
  split at c2
  · unfold smallB at c2
    simp only [List.append_assoc, List.cons_append, List.nil_append] at c2
    have e8 := congrArg (List.take 8) c2
    rw [List.take_left' (be8_length _), List.take_left' (be8_length _)] at e8
    rw [e8] at c2
    obtain ⟨c3, c4⟩ := List.cons.inj (List.append_cancel_left c2)
    have hw : widMax (aboveL (l.map (·.fInt))) = widMax (aboveL (l'.map (·.fInt))) := by omega
    have := congrArg List.length c4
    have h1 : (aboveL (l.map (·.fInt))).length = l.length := by simp [aboveL]
    have h2 : (aboveL (l'.map (·.fInt))).length = l.length := by simp [aboveL, hl]
    simp only [List.length_append, packed_len, h1, h2, hw] at this
    exact List.eq_nil_of_length_eq_zero (by omega)
  · exact (plain_pre h h' hl.symm c2).2
theorem law_Cuts {l : List Api_Value} (kind cut : Int) (h : ∀ v ∈ l, VOK v) (hl : l.length ≤ 1048576) : hayloftlaw06_EncodeCuts kind l cut = some true := by
  have jt : ∀ x, hayloftlaw06_EncodeCuts_j1 kind l cut x true = some true := fun x => by
    unfold hayloftlaw06_EncodeCuts_j1
    rw [if_pos rfl, alive_ok]; rfl
  unfold hayloftlaw06_EncodeCuts
  rw [Encode_eq kind h hl, Option.bind_some]
  by_cases e : (enc kind l).2 = 0
  · rw [if_neg (by simpa using e)]
    by_cases c0 : cut < 0
    · rw [if_pos (by simpa using c0), jt]
    by_cases c1 : ((enc kind l).1.length : Int) ≤ cut
    · rw [if_neg (by simpa using c0), decide_eq_true c1, jt]
    rw [if_neg (by simpa using c0), decide_eq_false c1]
    unfold hayloftlaw06_EncodeCuts_j1 hayloftlaw06_EncodeCuts_j2
    have he : enc kind l = ((enc kind l).1, 0) := Prod.ext rfl e
    have hR := enc_rgt h he
    have hby := enc_byt kind h
    have hbl := enc_len kind h
    obtain ⟨k1, k2, _⟩ := enc_some he
    obtain ⟨n, rfl⟩ := Int.eq_ofNat_of_zero_le (show 0 ≤ cut by omega)
    have hs := sub_of (xs := (enc kind l).1) (lo := 0) (hi := n) (by omega) (by omega)
    rw [show ((0 : Nat) : Int) = 0 from rfl, List.drop_zero] at hs
    -- neither is an encoding
    have d1 : dec kind ((enc kind l).1.take n) (l.length : Int) = ([], 60) := by
      unfold dec
      rw [if_neg (show ¬ (kind < 0 ∨ 4 < kind) by omega), if_neg (show ¬ ((l.length : Int) < 0 ∨ 64 < (l.length : Int)) by omega), dif_neg]
      rintro ⟨l', g1, g2, g3⟩
      have := pre_free (r := (enc kind l).1.drop n) g1 hR (by omega) g3 (by rw [List.take_append_drop]; exact he)
      have := List.drop_eq_nil_iff.1 this
      omega
    have d2 : dec kind ((enc kind l).1 ++ [IntKind.u8.wrap (n : Int)]) (l.length : Int) = ([], 60) := by
      unfold dec
      rw [if_neg (show ¬ (kind < 0 ∨ 4 < kind) by omega), if_neg (show ¬ ((l.length : Int) < 0 ∨ 64 < (l.length : Int)) by omega), dif_neg]
      rintro ⟨l', g1, g2, g3⟩
      have := pre_free (r := [IntKind.u8.wrap (n : Int)]) hR g1 (by omega) he g3
      cases this
    have hb2 : Byt ((enc kind l).1 ++ [IntKind.u8.wrap (n : Int)]) := .app hby (.cons (by rw [wrapu8]; omega) .nil)
    rw [if_neg (by decide), hs, Option.bind_some, Decode_eq _ _ (hby.take n) (by simp; omega), d1, Option.bind_some, app_of (by simp; omega), Option.bind_some, List.nil_append, app_of (by simp; omega), Option.bind_some, Decode_eq _ _ hb2 (by simp; omega), d2, Option.bind_some, alive_ok]
    rfl
  · rw [if_pos (by simpa using e), jt]
end Go.Proofs.Ytifobhaccglckaa.Hay
