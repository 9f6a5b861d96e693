import Derived.Test.YtifobhaccglckaaHdA
namespace Go.Proofs.Ytifobhaccglckaa.Hay
theorem encK_len2 {kind : Int} {l : List AV} (h : ∀ v ∈ l, Rgt v) (hl : l.length ≤ 64) : (encK kind l).length ≤ 60000 := by
  obtain ⟨w1, w2, w3⟩ := words_prop h
  unfold encK
  split
  · obtain ⟨h1, h2, _⟩ := runsL_all (l := l)
    have := flat_le (runsL l) (fun r => r.fMany :: oneB r.fValue) 67 fun x hx => by
      have := (oneB_len (h _ (h1 x hx).2.2)).2
      simp; omega
    unfold runsB; omega
  split
  · have := flat_le (List.range ((l.map (·.fInt)).length - 1)) (dstep (l.map (·.fInt))) 10 fun x _ => short_len10 (zig_lt (wrap_r _))
    unfold deltaB
    simp only [List.length_append, be8_length, List.length_range, List.length_map] at *
    omega
  split
  · have h1 := flat_len (l := words l) fun v hv => h v ((w2 v).1 hv)
    have hwid : wid ((words l).length - 1) ≤ 64 := wid_le (Nat.lt_of_lt_of_le (show (words l).length - 1 < 64 by omega) (by decide))
    have := Nat.mul_le_mul hl hwid
    unfold dictB
    simp only [List.length_cons, List.length_append, packed_len, List.length_map]
    omega
  split
  · by_cases hi : ∀ x ∈ l.map (·.fInt), i64r x
    · have hu := above_u64 hi
      have := Nat.mul_le_mul hl (widMax_prop hu).1
      have hal : (aboveL (l.map (·.fInt))).length = l.length := by simp [aboveL]
      unfold smallB
      simp only [List.length_append, be8_length, List.length_singleton, packed_len, hal]
      omega
    · exfalso
      apply hi
      intro x hx
      obtain ⟨v, hv, rfl⟩ := List.mem_map.1 hx
      exact (h v hv).ok.int
  · have := flat_len h
    unfold plainB; omega
theorem enc_len2 {kind : Int} {l : List AV} {b : List Int} (h : ∀ v ∈ l, VOK v) (he : enc kind l = (b, 0)) : b.length ≤ 60000 := by
  obtain ⟨_, h2, _, _, h4⟩ := enc_some he
  rcases h4 with ⟨_, rfl⟩ | ⟨_, rfl⟩
  · simp
  · exact encK_len2 (enc_rgt h he) h2
def be2 (n : Nat) : List Int := [((n / 256 : Nat) : Int), ((n % 256 : Nat) : Int)]
def bodyB (k m z : Int) (v w : AV) (d : List Int) : List Int := k :: m :: z :: (oneB v ++ (oneB w ++ (be2 d.length ++ d)))
def kindOf (kind : Int) (l : List AV) : Int := if kind = -1 then best l else kind
def blkOf (k : Int) (l : List AV) : List Int := bodyB k (l.length : Int) (nulls l : Int) (minV l) (maxV l) (enc k l).1
noncomputable def wr (kind : Int) (l : List AV) : List Int × Int :=
  if l = [] then ([], 70) else if (enc (kindOf kind l) l).2 ≠ 0 then ([], (enc (kindOf kind l) l).2) else (sealB (blkOf (kindOf kind l) l), 0)
theorem bodyB_byt {k m z : Int} {v w : AV} {d : List Int} (hk : 0 ≤ k ∧ k ≤ 4) (hm : 1 ≤ m ∧ m ≤ 64) (hz : 0 ≤ z ∧ z ≤ m) (hv : Rgt v) (hw : Rgt w) (hd : Byt d) (hl : d.length < 65536) : Byt (bodyB k m z v w d) := by
  unfold bodyB be2
  refine .cons (by omega) (.cons (by omega) (.cons (by omega) (.app (oneB_byt hv) (.app (oneB_byt hw) (.app (.cons (by omega) (.cons (by omega) .nil)) hd)))))
theorem bodyB_len {k m z : Int} {v w : AV} {d : List Int} : (bodyB k m z v w d).length = 5 + (oneB v).length + (oneB w).length + d.length := by
  unfold bodyB be2; simp; omega
theorem Write_eq {l : List AV} (kind : Int) (h : ∀ v ∈ l, VOK v) (hl : l.length ≤ 1048576) : block_Write kind l = some (wr kind l) := by
  have key : ∀ k, l ≠ [] → block_Write_j1 l k = some (if (enc k l).2 ≠ 0 then ([], (enc k l).2) else (sealB (blkOf k l), 0)) := by
    intro k hne
    unfold block_Write_j1
    rw [Encode_eq k h hl, Option.bind_some]
    by_cases he : (enc k l).2 = 0
    · have he' : enc k l = ((enc k l).1, 0) := Prod.ext rfl he
      obtain ⟨hk, h64, _⟩ := enc_some he'
      have hR := enc_rgt h he'
      have hmin := hR _ (minV_mem hne)
      have hmax := hR _ (maxV_mem hne)
      have hdl := enc_len2 h he'
      have hdb := enc_byt k h
      have hn := nulls_le l
      have h0 : 0 < l.length := List.length_pos_iff.2 hne
      have l1 := (oneB_len hmin).2
      have l2 := (oneB_len hmax).2
      rw [if_neg (by simpa using he), if_neg (by simpa using he), head_eq k hne hl, Option.bind_some]
      have e8 := shrI (x := ((enc k l).1.length : Int)) (k := 8) (by omega)
      rw [show ((8 : Nat) : Int) = 8 from rfl] at e8
      simp only [headB]
      rw [one_eq hmin, Option.bind_some, app_of (by simp; omega), Option.bind_some, one_eq hmax, Option.bind_some, app_of (by simp; omega), Option.bind_some, app_of (by simp; omega), Option.bind_some, app_of (by simp; omega), Option.bind_some]
      have e : ([IntKind.u8.wrap k, IntKind.u8.wrap (l.length : Int), IntKind.u8.wrap (nulls l : Int)] ++ oneB (minV l) ++ oneB (maxV l) ++ [IntKind.u8.wrap (iShr .i64 ((enc k l).1.length : Int) 8), IntKind.u8.wrap ((enc k l).1.length : Int)] ++ (enc k l).1) = blkOf k l := by
        unfold blkOf bodyB be2
        rw [wrapu8, wrapu8, wrapu8, wrapu8, wrapu8, e8]
        have a1 : k % 256 = k := by omega
        have a2 : (l.length : Int) % 256 = (l.length : Int) := by omega
        have a3 : (nulls l : Int) % 256 = (nulls l : Int) := by omega
        have a4 : ((enc k l).1.length : Int) / 2 ^ 8 % 256 = (((enc k l).1.length / 256 : Nat) : Int) := by omega
        have a5 : ((enc k l).1.length : Int) % 256 = (((enc k l).1.length % 256 : Nat) : Int) := by omega
        rw [a1, a2, a3, a4, a5]
        simp
      have s2 : (blkOf k l).length ≤ 1000000000000 := by unfold blkOf; rw [bodyB_len]; omega
      rw [e, sealed_eq s2, Option.bind_some]
    · rw [if_pos (by simpa using he), if_pos he]
  unfold block_Write wr
  by_cases hne : l = []
  · subst hne; rfl
  · have h0 : 0 < l.length := List.length_pos_iff.2 hne
    rw [if_neg (by simp; omega), if_neg hne]
    unfold kindOf
    by_cases hk : kind = -1
    · rw [if_pos (by simpa using hk), if_pos hk, Best_eq h hl, Option.bind_some, key _ hne]
    · rw [if_neg (by simpa using hk), if_neg hk, key _ hne]
theorem front_eq {b : List Int} (hb : Byt b) (hl : b.length < 140737488355328) : block_front b = some (match parse b with | some (v, n) => (v, b.drop n, true) | none => (vNull, [], false)) := by
  unfold block_front
  have step : ∀ k, 1 ≤ k → k ≤ b.length → k ≤ 66 → block_front_b1 b (k : Int) = match parse (b.take k) with | some (v, n) => (if n = k then some (.inr (v, b.drop k, true)) else some (.inl ((k + 1 : Nat) : Int))) | none => some (.inl ((k + 1 : Nat) : Int)) := by
    intro k h1 h2 h3
    have hs := sub_of (xs := b) (lo := 0) (hi := k) (by omega) h2
    rw [show ((0 : Nat) : Int) = 0 from rfl] at hs
    unfold block_front_b1 block_front_j2
    rw [if_pos (by simpa using by omega), if_pos (by simp; omega), hs, Option.bind_some, app_of (by simp; omega), Option.bind_some, List.drop_zero, List.singleton_append, rows_Decode_one (hb.take _), Option.bind_some, sub_from h2, succ64 (by omega)]
    have hlen : (b.take k).length = k := by simp; omega
    cases hp : parse (b.take k) with
    | none => rfl
    | some x =>
      obtain ⟨v, n⟩ := x
      simp only [hlen]
      by_cases e : n = k
      · rw [if_pos e, if_pos e]; rfl
      · rw [if_neg e, if_neg e]; rfl
  cases hp : parse b with
  | some x =>
    obtain ⟨v, n⟩ := x
    have hn := parse_bd hb hp
    refine loop_seq (fun i => ((i + 1 : Nat) : Int)) (n - 1) rfl (fun i hi => ?_) ?_
    · rw [step (i + 1) (by omega) (by omega) (by omega)]
      cases hq : parse (b.take (i + 1)) with
      | none => rfl
      | some y =>
        obtain ⟨v', n'⟩ := y
        obtain ⟨h1, h2⟩ := parse_take hb hq
        rw [hp] at h1
        simp only [Option.some.injEq, Prod.mk.injEq] at h1
        omega
    · have e : n - 1 + 1 = n := by omega
      rw [e, step n (by omega) (by omega) (by omega), parse_take_ge hb hp (Nat.le_refl _)]
      simp
  | none =>
    refine loop_seq (fun i => ((i + 1 : Nat) : Int)) (min b.length 66) rfl (fun i hi => ?_) ?_
    · rw [step (i + 1) (by omega) (by omega) (by omega)]
      cases hq : parse (b.take (i + 1)) with
      | none => rfl
      | some y =>
        obtain ⟨v', n'⟩ := y
        obtain ⟨h1, h2⟩ := parse_take hb hq
        rw [hp] at h1; cases h1
    · have e0 : block_front_j2 b ((min b.length 66 + 1 : Nat) : Int) false = some (.inr (vNull, [], false)) := rfl
      unfold block_front_b1
      split
      · have : decide (((min b.length 66 + 1 : Nat) : Int) ≤ 66) = false := by
          rename_i h; simp at h ⊢; omega
        rw [this, e0]
      · exact e0
theorem orI {a b : Nat} (ha : a < 65536) (hb : b < 65536) : bOr .i64 (a : Int) (b : Int) = ((a ||| b : Nat) : Int) := by
  unfold bOr
  have h1 : (BitVec.ofInt IntKind.i64.bits (a : Int)).toNat = a := by
    show (BitVec.ofInt 64 (a : Int)).toNat = a
    rw [BitVec.toNat_ofInt]; omega
  have h2 : (BitVec.ofInt IntKind.i64.bits (b : Int)).toNat = b := by
    show (BitVec.ofInt 64 (b : Int)).toNat = b
    rw [BitVec.toNat_ofInt]; omega
  rw [BitVec.toNat_or, h1, h2]
  have : a ||| b < 2 ^ 16 := Nat.or_lt_two_pow (by simpa using ha) (by simpa using hb)
  have e : (2 : Nat) ^ 16 = 65536 := by decide
  rw [wrap64 (by omega)]
theorem two_bytes {x y : Int} (hx : 0 ≤ x ∧ x < 256) (hy : 0 ≤ y ∧ y < 256) : bOr .i64 (iShl .i64 (IntKind.i64.wrap x) 8) (IntKind.i64.wrap y) = ((x.toNat * 256 + y.toNat : Nat) : Int) := by
  rw [byte64 hx, byte64 hy]
  obtain ⟨a, rfl⟩ := Int.eq_ofNat_of_zero_le hx.1
  obtain ⟨b, rfl⟩ := Int.eq_ofNat_of_zero_le hy.1
  have e : iShl .i64 (a : Int) 8 = ((2 ^ 8 * a : Nat) : Int) := by
    unfold iShl
    have : (2 : Int) ^ (min (8 : Int).toNat IntKind.i64.bits) = 256 := by decide
    rw [this, wrap64 (by omega)]; omega
  rw [e, orI (by omega) (by omega), ← Nat.two_pow_add_eq_or_of_lt (by omega)]
  simp only [Int.toNat_natCast]
  omega
structure Blk (b : List Int) (k m z : Int) (v w : AV) (d r : List Int) : Prop where
  eq : b = bodyB k m z v w d ++ r
  hk : 0 ≤ k ∧ k ≤ 4
  hm : 1 ≤ m ∧ m ≤ 64
  hz : 0 ≤ z ∧ z ≤ m
  hv : Rgt v
  hw : Rgt w
  hd : d.length < 65536
  hr : 4 ≤ r.length
def infoB (k m z : Int) (v w : AV) (d : List Int) : Block_Info := ⟨k, m, v, w, z, ((bodyB k m z v w d).length + 4 : Nat)⟩
theorem Blk.parts {b : List Int} {k m z k' m' z' : Int} {v w : AV} {d r : List Int} (h : Blk (k :: m :: z :: b) k' m' z' v w d r) : k = k' ∧ m = m' ∧ z = z' ∧ parse b = some (v, (oneB v).length) ∧ parse (b.drop (oneB v).length) = some (w, (oneB w).length) ∧ (b.drop (oneB v).length).drop (oneB w).length = be2 d.length ++ (d ++ r) := by
  have := h.eq
  unfold bodyB at this
  simp only [List.cons_append, List.cons.injEq, List.append_assoc] at this
  obtain ⟨h1, h2, h3, h4⟩ := this
  refine ⟨h1, h2, h3, ?_, ?_, ?_⟩
  · rw [h4, parse_one h.hv]
  · rw [h4, List.drop_left, parse_one h.hw]
  · rw [h4, List.drop_left, List.drop_left]
theorem Blk.one {b : List Int} {k m z k' m' z' : Int} {v w v' w' : AV} {d r d' r' : List Int} (h : Blk b k m z v w d r) (h' : Blk b k' m' z' v' w' d' r') : k = k' ∧ m = m' ∧ z = z' ∧ v = v' ∧ w = w' ∧ d = d' ∧ r = r' := by
  have e := h.eq
  unfold bodyB at e
  simp only [List.cons_append] at e
  rw [e] at h h'
  obtain ⟨a1, a2, a3, a4, a5, a6⟩ := h.parts
  obtain ⟨b1, b2, b3, b4, b5, b6⟩ := h'.parts
  rw [a4] at b4
  simp only [Option.some.injEq, Prod.mk.injEq] at b4
  obtain ⟨rfl, _⟩ := b4
  rw [a5] at b5
  simp only [Option.some.injEq, Prod.mk.injEq] at b5
  obtain ⟨rfl, _⟩ := b5
  rw [a6] at b6
  unfold be2 at b6
  simp only [List.cons_append, List.nil_append, List.cons.injEq] at b6
  have hlen : d.length = d'.length := by omega
  obtain ⟨c1, c2⟩ := List.append_inj b6.2.2 hlen
  exact ⟨b1, b2, b3, rfl, rfl, c1, c2⟩
end Go.Proofs.Ytifobhaccglckaa.Hay
