import Derived.Test.YtifobhaccglckaaHdC
namespace Go.Proofs.Ytifobhaccglckaa.Hay
theorem Head_blk {b : List Int} (hb : Byt b) (hl : b.length ≤ 1000000000000) {k m z : Int} {v w : AV} {d r : List Int} (h : Blk b k m z v w d r) : block_Head b = some (infoB k m z v w d, 0) := by
  unfold block_Head
  rw [read_blk hb hl h, Option.bind_some]; rfl
noncomputable def readB (k m z : Int) (v w : AV) (d r : List Int) : List AV × Int × Int :=
  if r.take 4 = be4 (sumB (bodyB k m z v w d)) then
    if (dec k d m).2 ≠ 0 then ([], 0, 70)
    else if (nulls (dec k d m).1 : Int) = z ∧ minV (dec k d m).1 = v ∧ maxV (dec k d m).1 = w then ((dec k d m).1, ((bodyB k m z v w d).length + 4 : Nat), 0) else ([], 0, 70)
  else ([], 0, 71)
theorem Read_blk {b : List Int} (hb : Byt b) (hl : b.length ≤ 1000000000000) {k m z : Int} {v w : AV} {d r : List Int} (h : Blk b k m z v w d r) : block_Read b = some (readB k m z v w d r) := by
  unfold block_Read
  rw [read_blk hb hl h, Option.bind_some]
  have hbe := h.eq
  have hr := h.hr
  have hd := h.hd
  have hbody : Byt (bodyB k m z v w d) := by rw [hbe] at hb; exact hb.left
  have hdb : Byt d := by
    have := hbody
    unfold bodyB at this
    exact this.tail.tail.tail.right.right.right
  have hbl : b.length = (bodyB k m z v w d).length + r.length := by rw [hbe, List.length_append]
  obtain ⟨n, hn⟩ : ∃ n, n = (bodyB k m z v w d).length := ⟨_, rfl⟩
  have t1 : b.take n = bodyB k m z v w d := by rw [hbe, hn, List.take_left]
  have t2 : b.take (n + 4) = bodyB k m z v w d ++ r.take 4 := by
    rw [hbe, hn, List.take_append, List.take_of_length_le (Nat.le_add_right _ _), Nat.add_sub_cancel_left]
  have s1 := sub_of (xs := b) (lo := 0) (hi := n) (by omega) (by omega)
  have s2 := sub_of (xs := b) (lo := 0) (hi := n + 4) (by omega) (by omega)
  rw [show ((0 : Nat) : Int) = 0 from rfl, List.drop_zero] at s1 s2
  have hw : IntKind.i64.wrap (((n + 4 : Nat) : Int) - 4) = (n : Int) := by rw [wrap64 (by omega)]; omega
  unfold infoB
  simp only [← hn, Bool.not_true, Bool.false_eq_true, if_false]
  rw [hw, s1, Option.bind_some]
  unfold slices_Clone_byte
  rw [t1, app_of (by simp; omega), Option.bind_some, List.nil_append, Option.bind_some, sealed_eq (by omega), Option.bind_some, s2, Option.bind_some, t2, bytes_eq (by unfold sealB; simp [be4_len]; omega), Option.bind_some]
  unfold readB sealB
  by_cases c1 : r.take 4 = be4 (sumB (bodyB k m z v w d))
  · rw [if_pos c1, c1, decide_eq_true rfl]
    simp only [Bool.not_true, Bool.false_eq_true, if_false]
    rw [Decode_eq _ _ hdb (by omega), Option.bind_some]
    by_cases c2 : (dec k d m).2 = 0
    · rw [if_neg (by simpa using c2), if_neg (by simpa using c2)]
      rcases dec_cases k d m with ⟨l, e, g1, g2, g3⟩ | ⟨e, g1, g2⟩
      · rw [e]
        simp only
        have hm := h.hm
        have hne : l ≠ [] := fun e => by rw [e] at g2; simp at g2; omega
        rw [head_eq k hne (by omega), Option.bind_some]
        simp only [headB]
        by_cases a1 : (nulls l : Int) = z <;> by_cases a2 : minV l = v <;> by_cases a3 : maxV l = w <;> simp [block_Read_j1, a1, a2, a3, hn]
      · rw [g1] at c2; exact absurd c2 g2
    · rw [if_pos (by simpa using c2), if_pos c2]
  · have c1' : ¬ (bodyB k m z v w d ++ be4 (sumB (bodyB k m z v w d)) = bodyB k m z v w d ++ r.take 4) := fun h => c1 (List.append_cancel_left h).symm
    rw [if_neg c1, decide_eq_false c1']
    rfl
theorem wr_blk {l : List AV} {kind : Int} (h : ∀ v ∈ l, VOK v) (hw : (wr kind l).2 = 0) : ∃ k, l ≠ [] ∧ (∀ v ∈ l, Rgt v) ∧ enc k l = ((enc k l).1, 0) ∧ k = kindOf kind l ∧ wr kind l = (sealB (blkOf k l), 0) ∧ ∀ t, Blk (sealB (blkOf k l) ++ t) k (l.length : Int) (nulls l : Int) (minV l) (maxV l) (enc k l).1 (be4 (sumB (blkOf k l)) ++ t) := by
  unfold wr at hw
  by_cases hne : l = []
  · rw [if_pos hne] at hw; cases hw
  rw [if_neg hne] at hw
  by_cases he : (enc (kindOf kind l) l).2 = 0
  · have he' : enc (kindOf kind l) l = ((enc (kindOf kind l) l).1, 0) := Prod.ext rfl he
    obtain ⟨hk, h64, _⟩ := enc_some he'
    have hR := enc_rgt h he'
    have hn := nulls_le l
    have h0 : 0 < l.length := List.length_pos_iff.2 hne
    have hdl := enc_len2 h he'
    refine ⟨kindOf kind l, hne, hR, he', rfl, by unfold wr; rw [if_neg hne, if_neg (by simpa using he)], fun t => ⟨by unfold sealB blkOf; simp, hk, by omega, by omega, hR _ (minV_mem hne), hR _ (maxV_mem hne), by omega, by simp [be4_len]⟩⟩
  · rw [if_pos (by simpa using he)] at hw; exact absurd hw he
theorem wr_byt {l : List AV} {kind : Int} (h : ∀ v ∈ l, VOK v) (hw : (wr kind l).2 = 0) : Byt (wr kind l).1 ∧ (wr kind l).1.length ≤ 100000 := by
  obtain ⟨k, hne, hR, he, _, hw, hB⟩ := wr_blk h hw
  obtain ⟨hk, h64, _⟩ := enc_some he
  have hn := nulls_le l
  have h0 : 0 < l.length := List.length_pos_iff.2 hne
  have hdl := enc_len2 h he
  have hmin := hR _ (minV_mem hne)
  have hmax := hR _ (maxV_mem hne)
  have l1 := (oneB_len hmin).2
  have l2 := (oneB_len hmax).2
  rw [hw]
  unfold sealB
  refine ⟨.app (bodyB_byt hk ⟨by omega, by omega⟩ ⟨by omega, by omega⟩ hmin hmax (enc_byt k h) (by omega)) (be4_byt _), ?_⟩
  simp only [List.length_append, be4_len]
  unfold blkOf
  rw [bodyB_len]; omega
theorem read_wr {l : List AV} {kind : Int} (h : ∀ v ∈ l, VOK v) (hw : (wr kind l).2 = 0) {t : List Int} (ht : Byt t) (hl : t.length ≤ 900000000000) : block_Read ((wr kind l).1 ++ t) = some (l, ((wr kind l).1.length : Int), 0) := by
  obtain ⟨hby, hle⟩ := wr_byt h hw
  obtain ⟨k, hne, hR, he, _, hw, hB⟩ := wr_blk h hw
  rw [hw] at hby hle ⊢
  simp only at hby hle ⊢
  rw [Read_blk (hby.app ht) (by simp only [List.length_append]; omega) (hB t)]
  have hd := dec_enc h he
  unfold readB
  rw [hd, if_pos (by rw [List.take_left' (be4_len _)]; rfl), if_neg (by simp), if_pos ⟨rfl, rfl, rfl⟩]
  have : (sealB (blkOf k l)).length = (blkOf k l).length + 4 := by unfold sealB; simp [be4_len]
  rw [this]; rfl
theorem blk_alive : hayloftlaw07_alive = some true := by
  have hv : ∀ v ∈ [vBool true], VOK v := fun v hv => by
    have : v = vBool true := by simpa using hv
    subst this; exact (Rgt.bool true).ok
  have he : enc 0 [vBool true] = ([1, 1], 0) := by decide +kernel
  have hw : wr 0 [vBool true] = (sealB (blkOf 0 [vBool true]), 0) := by
    unfold wr kindOf
    rw [if_neg (by simp), if_neg (show ¬ ((0 : Int) = -1) by decide), he]
    rfl
  have hw0 : (wr 0 [vBool true]).2 = 0 := by rw [hw]
  obtain ⟨hby, hle⟩ := wr_byt hv hw0
  have hr := read_wr hv hw0 .nil (by simp)
  obtain ⟨k, _, _, _, hk, hw', hB⟩ := wr_blk hv hw0
  have hk0 : k = 0 := by rw [hk]; rfl
  subst hk0
  have hB := hB []
  rw [List.append_nil] at hr hB
  rw [hw] at hr hby hle
  simp only at hr hby hle
  have hlen : (sealB (blkOf 0 [vBool true])).length = 15 := by
    unfold sealB blkOf
    rw [he, List.length_append, be4_len, bodyB_len]
    rfl
  unfold hayloftlaw07_alive hayloftlaw07_alive_j1
  rw [show ([(⟨1, true, 0, []⟩ : AV)] : List AV) = [vBool true] from rfl, Write_eq 0 hv (by simp), hw, Option.bind_some]
  simp only
  rw [Head_blk hby (by omega) hB, Option.bind_some, hr, Option.bind_some, hlen]
  rfl
end Go.Proofs.Ytifobhaccglckaa.Hay
