import Derived.Test.YtifobhaccglckaaHayZc
/- Plain laws: the statements of layer 6, on plain data. -/
namespace Go.Proofs.Ytifobhaccglckaa.Hay
theorem encK_byt {kind : Int} {l : List Api_Value} (h : ∀ v ∈ l, Rgt v) (hl : l.length ≤ 64) : Byt (encK kind l) := by
  obtain ⟨w1, w2, w3⟩ := words_prop h
  have fl : ∀ {α : Type} (xs : List α) (f : α → List Int), (∀ x ∈ xs, Byt (f x)) → Byt (xs.flatMap f) := fun xs f hf c hc => by
    obtain ⟨x, hx, hc⟩ := List.mem_flatMap.1 hc
    exact hf x hx c hc
  unfold encK
  split
  · obtain ⟨h1, h2, _⟩ := runsL_all (l := l)
    exact fl _ _ fun x hx => .cons (by have := h1 x hx; omega) (oneB_byt (h _ (h1 x hx).2.2))
  split
  · exact Byt.app (be8_bytes _) (fl _ _ fun x _ => short_byt _)
  split
  · exact .cons (by omega) (.app (fl _ _ fun v hv => oneB_byt (h v ((w2 v).1 hv))) (packed_byt _ _))
  split
  · have hi : ∀ x ∈ l.map (·.fInt), i64r x := fun x hx => by
      obtain ⟨v, hv, rfl⟩ := List.mem_map.1 hx
      exact (h v hv).ok.int
    have := (widMax_prop (above_u64 hi)).1
    exact .app (.app (be8_bytes _) (.cons (by omega) .nil)) (packed_byt _ _)
  · exact fl _ _ fun v hv => oneB_byt (h v hv)
theorem enc_byt (kind : Int) {l : List Api_Value} (h : ∀ v ∈ l, VOK v) : Byt (enc kind l).1 := by
  unfold enc
  repeat' split
  all_goals first | exact .nil | skip
  rename_i h2 h3 _ _
  exact encK_byt (rgt_all h (by simpa using h3)) (by omega)
theorem enc_rgt {kind : Int} {l : List Api_Value} {b : List Int} (h : ∀ v ∈ l, VOK v) (he : enc kind l = (b, 0)) : ∀ v ∈ l, Rgt v := rgt_all h (enc_some he).2.2.1
/-- Unlike values have unlike encodings. -/
theorem enc_inj {kind : Int} {l l' : List Api_Value} {b : List Int} (h : ∀ v ∈ l, Rgt v) (h' : ∀ v ∈ l', Rgt v) (hl : l'.length = l.length) (he : enc kind l = (b, 0)) (he' : enc kind l' = (b, 0)) : l' = l := by
  by_cases h0 : l.length = 0
  · rw [List.eq_nil_of_length_eq_zero h0, List.eq_nil_of_length_eq_zero (hl.trans h0)]
  have hb : Byt b := by have := enc_byt kind fun v hv => (h v hv).ok; rw [he] at this; exact this
  have hbl : b.length ≤ 100000 := by have := enc_len kind fun v hv => (h v hv).ok; rw [he] at this; exact this
  obtain ⟨x, _, _, _, hx⟩ := guess_all (b := b) (many := l.length) kind hb (by omega) ⟨by omega, (enc_some he).2.1⟩
  rw [← (hx l h rfl he).1, ← (hx l' h' hl he').1]
theorem dec_enc {kind : Int} {l : List Api_Value} {b : List Int} (h : ∀ v ∈ l, VOK v) (he : enc kind l = (b, 0)) : dec kind b (l.length : Int) = (l, 0) := by
  have hR := enc_rgt h he
  obtain ⟨k1, k2, _⟩ := enc_some he
  unfold dec
  rw [if_neg (show ¬ (kind < 0 ∨ 4 < kind) by omega), if_neg (show ¬ ((l.length : Int) < 0 ∨ 64 < (l.length : Int)) by omega)]
  have hx : ∃ l' : List Api_Value, (∀ v ∈ l', Rgt v) ∧ (l'.length : Int) = (l.length : Int) ∧ enc kind l' = (b, 0) := ⟨l, hR, rfl, he⟩
  rw [dif_pos hx]
  obtain ⟨c1, c2, c3⟩ := hx.choose_spec
  rw [enc_inj hR c1 (by omega) he c3]
/-! the best kind -/
def bstep (l : List Api_Value) (s : Int × Int) (k : Nat) : Int × Int := if (enc (k : Int) l).2 = 0 ∧ (s.2 < 0 ∨ ((enc (k : Int) l).1.length : Int) < s.2) then ((k : Int), ((enc (k : Int) l).1.length : Int)) else s
def bests (l : List Api_Value) (n : Nat) : Int × Int := (List.range n).foldl (bstep l) (0, -1)
/-- P6.3. -/
def best (l : List Api_Value) : Int := (bests l 5).1
theorem bests_succ (l : List Api_Value) (n : Nat) : bests l (n + 1) = bstep l (bests l n) n := by simp [bests, List.range_succ]
theorem Best_eq {l : List Api_Value} (h : ∀ v ∈ l, VOK v) (hl : l.length ≤ 1048576) : encode_Best l = some (best l) := by
  unfold encode_Best
  refine loop_seq (fun i => ((bests l i).1, (bests l i).2, (i : Int))) 5 rfl (fun i hi => ?_) ?_
  · dsimp only
    rw [bests_succ]
    generalize bests l i = s
    unfold encode_Best_b1 encode_Best_j2 encode_Best_j3 bstep
    rw [if_pos (decide_eq_true (by omega)), Encode_eq _ h hl, Option.bind_some, succ64 (by omega)]
    by_cases e : (enc (i : Int) l).2 = 0
    · rw [if_pos (by simpa using e)]
      by_cases e2 : s.2 < 0
      · rw [if_pos (decide_eq_true e2), if_pos rfl, if_pos ⟨e, .inl e2⟩]
      · rw [if_neg (by simpa using e2)]
        by_cases e3 : ((enc (i : Int) l).1.length : Int) < s.2
        · rw [if_pos (decide_eq_true e3), if_pos ⟨e, .inr e3⟩]
        · rw [if_neg (by simpa using e3), if_neg (fun h => by rcases h.2 with h | h <;> contradiction)]
    · rw [if_neg (by simpa using e), if_neg (by decide), if_neg (fun h => e h.1)]
  · rfl
/-! answers that the document fixes -/
theorem alive_ok : hayloftlaw06_alive = some true := by
  have hv : ∀ v ∈ [vInt 5, vInt 5, vInt 5], VOK v := fun v hv => by
    have : v = vInt 5 := by simpa using hv
    subst this; exact (Rgt.int 5 (i64r_small (by decide) (by decide))).ok
  have he : enc 1 [vInt 5, vInt 5, vInt 5] = ([3, 2, 0, 0, 0, 0, 0, 0, 0, 5], 0) := by decide +kernel
  have hbest : best [vInt 5, vInt 5, vInt 5] = 4 := by
    have e0 : (enc 0 [vInt 5, vInt 5, vInt 5]).1.length = 27 ∧ (enc 0 [vInt 5, vInt 5, vInt 5]).2 = 0 := by decide +kernel
    have e1 : (enc 1 [vInt 5, vInt 5, vInt 5]).1.length = 10 ∧ (enc 1 [vInt 5, vInt 5, vInt 5]).2 = 0 := by decide +kernel
    have e2 : (enc 2 [vInt 5, vInt 5, vInt 5]).1.length = 10 ∧ (enc 2 [vInt 5, vInt 5, vInt 5]).2 = 0 := by
      have : enc 2 [vInt 5, vInt 5, vInt 5] = (deltaB [5, 5, 5], 0) := rfl
      have h0 : dstep [5, 5, 5] 0 = [0] := by
        have : dstep [5, 5, 5] 0 = short 0 := rfl
        rw [this, short_lt (by decide)]; rfl
      have h1 : dstep [5, 5, 5] 1 = [0] := by
        have : dstep [5, 5, 5] 1 = short 0 := rfl
        rw [this, short_lt (by decide)]; rfl
      have h2 : deltaB [5, 5, 5] = be8 5 ++ (dstep [5, 5, 5] 0 ++ (dstep [5, 5, 5] 1 ++ [])) := rfl
      rw [this, h2, h0, h1]
      exact ⟨rfl, rfl⟩
    have e3 : (enc 3 [vInt 5, vInt 5, vInt 5]).1.length = 10 ∧ (enc 3 [vInt 5, vInt 5, vInt 5]).2 = 0 := by decide +kernel
    have e4 : (enc 4 [vInt 5, vInt 5, vInt 5]).1.length = 9 ∧ (enc 4 [vInt 5, vInt 5, vInt 5]).2 = 0 := by decide +kernel
    have s1 : bests [vInt 5, vInt 5, vInt 5] 1 = (0, 27) := by
      rw [bests_succ]
      have : bests [vInt 5, vInt 5, vInt 5] 0 = (0, -1) := rfl
      rw [this]; unfold bstep
      rw [show ((0 : Nat) : Int) = 0 from rfl, e0.1, e0.2]; rfl
    have s2 : bests [vInt 5, vInt 5, vInt 5] 2 = (1, 10) := by
      rw [bests_succ, s1]; unfold bstep
      rw [show ((1 : Nat) : Int) = 1 from rfl, e1.1, e1.2]; rfl
    have s3 : bests [vInt 5, vInt 5, vInt 5] 3 = (1, 10) := by
      rw [bests_succ, s2]; unfold bstep
      rw [show ((2 : Nat) : Int) = 2 from rfl, e2.1, e2.2]; rfl
    have s4 : bests [vInt 5, vInt 5, vInt 5] 4 = (1, 10) := by
      rw [bests_succ, s3]; unfold bstep
      rw [show ((3 : Nat) : Int) = 3 from rfl, e3.1, e3.2]; rfl
    unfold best
    rw [bests_succ, s4]; unfold bstep
    rw [show ((4 : Nat) : Int) = 4 from rfl, e4.1, e4.2]; rfl
  have hb : Byt [3, 2, 0, 0, 0, 0, 0, 0, 0, 5] := by have := enc_byt 1 hv; rw [he] at this; exact this
  have hd := dec_enc hv he
  unfold hayloftlaw06_alive hayloftlaw06_alive_j1
  rw [show ([(⟨2, false, 5, []⟩ : Api_Value), (⟨2, false, 5, []⟩ : Api_Value), (⟨2, false, 5, []⟩ : Api_Value)] : List Api_Value) = [vInt 5, vInt 5, vInt 5] from rfl, Encode_eq 1 hv (by simp), he, Option.bind_some]
  dsimp only
  rw [Decode_eq 1 3 hb (by simp)]
  have hd' : dec 1 [3, 2, 0, 0, 0, 0, 0, 0, 0, 5] 3 = ([vInt 5, vInt 5, vInt 5], 0) := hd
  rw [hd', Option.bind_some, Best_eq hv (by simp), hbest, idx_cons0]
  rfl
/-! the laws -/
theorem law_Runs {l : List Api_Value} (hl : l.length ≤ 1048576) : hayloftlaw06_EncodeRuns l = some true := by
  obtain ⟨q1, q2, q3⟩ := runsL_all (l := l)
  unfold hayloftlaw06_EncodeRuns hayloftlaw06_EncodeRuns_j1
  rw [Runs_eq l hl, Option.bind_some, ref_Runs_eq l hl, Option.bind_some, alive_ok, Option.bind_some, if_neg (by decide), if_neg (by simp)]
  have hex : ∀ i, (expand ((runsL l).take i)).length ≤ l.length := fun i => by
    have := expand_split (runsL l) i
    rw [q3] at this
    have := congrArg List.length this
    simp only [List.length_append] at this
    omega
  refine loop_seq (fun i => (((expand ((runsL l).take i)).length : Int), (i : Int))) (runsL l).length (by simp [expand]) (fun i hi => ?_) ?_
  · dsimp only
    have hm := q1 _ (List.getElem_mem hi)
    have hg : ((runsL l).map toRef)[i]'(by simpa using hi) = toRef (runsL l)[i] := by simp
    unfold hayloftlaw06_EncodeRuns_b1 hayloftlaw06_EncodeRuns_j4
    rw [if_pos (by simpa using hi), idx_of hi, Option.bind_some, idx_of (by simpa using hi), Option.bind_some, hg, if_neg (by simp [toRef]), Option.bind_some, Option.bind_some, if_neg (by simp [toRef]), Option.bind_some, if_neg (by simp; omega)]
    have hel := expand_len_take hi
    have hel2 := congrArg List.length hel
    simp only [List.length_append, List.length_replicate] at hel2
    have hsp := expand_split (runsL l) (i + 1)
    rw [q3, hel] at hsp
    have h1 := hex (i + 1)
    refine loop_seq (fun k => (((expand ((runsL l).take i)).length + k : Int), (k : Int))) (runsL l)[i].fMany.toNat (by simp) (fun k hk => ?_) ?_
    · dsimp only
      have hat : (expand ((runsL l).take i)).length + k < l.length := by omega
      have hv : l[(expand ((runsL l).take i)).length + k] = (runsL l)[i].fValue := by
        have : l[(expand ((runsL l).take i)).length + k]? = some (runsL l)[i].fValue := by
          have hq := congrArg (fun z : List Api_Value => z[(expand ((runsL l).take i)).length + k]?) hsp
          rw [hq, List.append_assoc, List.getElem?_append_right (by omega), List.getElem?_append_left (by simp; omega), List.getElem?_replicate, if_pos (by omega)]
        rw [List.getElem?_eq_getElem hat] at this
        exact Option.some.inj this
      have e : ((expand ((runsL l).take i)).length : Int) + (k : Int) = (((expand ((runsL l).take i)).length + k : Nat) : Int) := by omega
      unfold hayloftlaw06_EncodeRuns_b2 hayloftlaw06_EncodeRuns_j5
      rw [e, idx_of hi, Option.bind_some, if_pos (decide_eq_true (by omega)), if_neg (by simp; omega), idx_of hat, Option.bind_some, Option.bind_some, if_neg (by simp [hv]), succ64 (by omega), succ64 (by omega)]
      congr 3
    · dsimp only
      unfold hayloftlaw06_EncodeRuns_b2 hayloftlaw06_EncodeRuns_j3
      rw [idx_of hi, Option.bind_some, if_neg (by simp; omega), succ64 (by omega), hel2]
      simp
  · dsimp only
    unfold hayloftlaw06_EncodeRuns_b1 hayloftlaw06_EncodeRuns_j2
    rw [if_neg (by simp), List.take_length, q3]; simp
/-! no encoding begins with another one -/
end Go.Proofs.Ytifobhaccglckaa.Hay
