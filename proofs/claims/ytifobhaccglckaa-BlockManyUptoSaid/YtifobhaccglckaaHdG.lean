import Derived.Test.YtifobhaccglckaaHdF
namespace Go.Proofs.Ytifobhaccglckaa.Hay
def enumV : Int → List AV → List (Int × AV)
  | _, [] => []
  | n, v :: l => (n, v) :: enumV (n + 1) l
theorem enumV_app : ∀ (n : Int) (a b : List AV), enumV n (a ++ b) = enumV n a ++ enumV (n + a.length) b
  | n, [], b => by simp [enumV]
  | n, v :: a, b => by
    simp only [List.cons_append, enumV, enumV_app (n + 1) a b, List.length_cons]
    rw [show n + 1 + (a.length : Int) = n + ((a.length + 1 : Nat) : Int) by omega]
theorem enumV_take {n : Int} {l : List AV} {i : Nat} (h : i < l.length) : enumV n (l.take (i + 1)) = enumV n (l.take i) ++ [(n + i, l[i])] := by
  rw [List.take_succ_eq_append_getElem h, enumV_app]
  simp [enumV]; omega
def Seg (x : List Int × List AV) : Prop := ∃ kind, (∀ v ∈ x.2, VOK v) ∧ wr kind x.2 = (x.1, 0)
theorem Seg.read {x : List Int × List AV} (h : Seg x) {t : List Int} (ht : Byt t) (hl : t.length ≤ 900000000000) : block_Read (x.1 ++ t) = some (x.2, (x.1.length : Int), 0) := by
  obtain ⟨kind, hv, hw⟩ := h
  have := read_wr hv (by rw [hw]) ht hl
  rw [hw] at this
  exact this
theorem Seg.byt {x : List Int × List AV} (h : Seg x) : Byt x.1 ∧ x.1.length ≤ 100000 ∧ 0 < x.1.length ∧ x.2.length ≤ 64 := by
  obtain ⟨kind, hv, hw⟩ := h
  have h2 : (wr kind x.2).2 = 0 := by rw [hw]
  obtain ⟨h3, h4⟩ := wr_byt hv h2
  obtain ⟨k, _, _, he, _, hw', _⟩ := wr_blk hv h2
  rw [hw] at h3 h4 hw'
  refine ⟨h3, h4, ?_, (enc_some he).2.1⟩
  have : x.1 = sealB (blkOf k x.2) := congrArg Prod.fst hw'
  rw [this]; unfold sealB; simp [be4_len]
theorem segs_byt : ∀ {ss : List (List Int × List AV)}, (∀ x ∈ ss, Seg x) → Byt (ss.flatMap (·.1))
  | [], _ => .nil
  | x :: ss, h => by
    rw [List.flatMap_cons]
    exact .app (h x (by simp)).byt.1 (segs_byt fun y hy => h y (by simp [hy]))
theorem all_segs : ∀ (ss : List (List Int × List AV)) (n : Nat) (acc : List (Int × AV)), (∀ x ∈ ss, Seg x) → (ss.flatMap (·.1)).length ≤ 900000000000 → n + (ss.flatMap (·.2)).length ≤ 1000000000000 →
    loopO (fun s : Int × List Int × List (Int × AV) => block_All_1_b1 (fun (s : List (Int × AV)) x => some (s ++ [x], true)) s.1 s.2.1 s.2.2) ((n : Int), ss.flatMap (·.1), acc) = some (acc ++ enumV n (ss.flatMap (·.2)))
  | [], n, acc, _, _, _ => by
    refine loopO_end ?_
    unfold block_All_1_b1
    simp [enumV]
  | (b, l) :: ss, n, acc, h, hl, hn => by
    have hs := h (b, l) (by simp)
    obtain ⟨y1, y2, y3, y4⟩ := hs.byt
    have hs' : ∀ x ∈ ss, Seg x := fun x hx => h x (by simp [hx])
    simp only [List.flatMap_cons, List.length_append] at hl hn ⊢
    simp only at y1 y2 y3 y4
    have ih := all_segs ss (n + l.length) (acc ++ enumV n l) hs' (by omega) (by omega)
    rw [loopO_go (s' := (((n + l.length : Nat) : Int), ss.flatMap (·.1), acc ++ enumV n l)), ih, enumV_app, List.append_assoc]
    · rw [show ((n + l.length : Nat) : Int) = (n : Int) + (l.length : Int) by omega]
    · unfold block_All_1_b1
      have hr := hs.read (segs_byt hs') (by omega)
      simp only at hr
      rw [if_pos (by simp; omega), hr, Option.bind_some, if_neg (by simp)]
      refine loop_seq (fun i => (((n + i : Nat) : Int), (i : Int), acc ++ enumV n (l.take i))) l.length (by simp [enumV]) (fun i hi => ?_) ?_
      · dsimp only
        unfold block_All_1_b2
        rw [if_pos (by simpa using hi), idx_of hi, Option.bind_some, Option.bind_some, if_neg (by simp), succ64 (i := n + i) (by omega), succ64 (i := i) (by omega), enumV_take hi]
        rw [show ((n + i : Nat) : Int) = (n : Int) + (i : Int) by omega]
        simp
        omega
      · dsimp only
        unfold block_All_1_b2 block_All_1_j1
        have e := sub_from (xs := b ++ ss.flatMap (·.1)) (k := b.length) (by simp)
        rw [if_neg (by simp), e, Option.bind_some, List.drop_left, List.take_length]
        rfl
theorem All_segs {ss : List (List Int × List AV)} (h : ∀ x ∈ ss, Seg x) (hl : (ss.flatMap (·.1)).length ≤ 900000000000) (hn : (ss.flatMap (·.2)).length ≤ 1000000000000) : block_All (ss.flatMap (·.1)) = some (enumV 0 (ss.flatMap (·.2))) := by
  unfold block_All slices_Clone_byte block_All_1_list block_All_1
  rw [app_of (by simp only [List.length_nil]; omega), Option.bind_some, List.nil_append, Option.bind_some]
  have := all_segs ss 0 [] h hl (by omega)
  rw [List.nil_append] at this
  rw [show ((0 : Nat) : Int) = 0 from rfl] at this
  rw [this]; rfl
theorem many_fold (want : List AV) (hw : want.length ≤ 1000000000000) : ∀ (l : List AV) (i : Nat) (c : Bool), want.drop i = l → i ≤ want.length → foldY (fun (s : (Int × Bool)) (x : (Int × AV)) => hayloftlaw07_BlockMany_b1 want s.1 s.2 x) ((i : Int), c) (enumV i l) = some (((want.length : Int), c), true)
  | [], i, c, hd, hi => by
    have : want.length ≤ i := by simpa using hd
    have : i = want.length := by omega
    subst this; rfl
  | v :: l, i, c, hd, hi => by
    have hlt : i < want.length := by
      apply Classical.byContradiction; intro hc
      rw [List.drop_eq_nil_of_le (by omega)] at hd; cases hd
    have hv : want[i] = v := by
      have := congrArg (·[0]?) hd
      simpa [hlt] using this
    have hd' : want.drop (i + 1) = l := by rw [← List.drop_drop, hd]; rfl
    have e : hayloftlaw07_BlockMany_b1 want (i : Int) c ((i : Int), v) = some ((((i + 1 : Nat) : Int), c), true) := by
      unfold hayloftlaw07_BlockMany_b1 hayloftlaw07_BlockMany_j3
      rw [if_neg (by simp), if_neg (by simpa using hlt), idx_of hlt, Option.bind_some, hv, succ64 (by omega)]
      simp
    simp only [enumV, foldY]
    rw [e, Option.bind_some, if_pos rfl]
    exact many_fold want hw l (i + 1) c hd' (by omega)
theorem many_end {ss : List (List Int × List AV)} (h : ∀ x ∈ ss, Seg x) (hl : (ss.flatMap (·.1)).length ≤ 900000000000) (hn : (ss.flatMap (·.2)).length ≤ 1000000000000) : hayloftlaw07_BlockMany_j1 (ss.flatMap (·.1)) (ss.flatMap (·.2)) = some true := by
  unfold hayloftlaw07_BlockMany_j1 hayloftlaw07_BlockMany_j2 hayloftlaw07_BlockMany_j4
  rw [All_segs h hl hn, Option.bind_some, blk_alive, Option.bind_some, if_neg (by decide)]
  have := many_fold (ss.flatMap (·.2)) hn _ 0 false rfl (by omega)
  rw [List.drop_zero, show ((0 : Nat) : Int) = 0 from rfl] at this
  rw [this, Option.bind_some, if_pos rfl, Option.bind_some, if_pos rfl]
  simp
theorem flat_bd {α β : Type} (f : α → List β) (k : Nat) : ∀ (l : List α), (∀ x ∈ l, (f x).length ≤ k) → (l.flatMap f).length ≤ k * l.length
  | [], _ => by simp
  | x :: l, h => by
    have := flat_bd f k l fun y hy => h y (by simp [hy])
    have := h x (by simp)
    simp only [List.flatMap_cons, List.length_append, List.length_cons, Nat.mul_succ]
    omega
theorem law_BMany {l : List (List AV)} (kinds : List Int) (h : ∀ x ∈ l, ∀ v ∈ x, VOK v) (hl : l.length ≤ 1048576) (hx : ∀ x ∈ l, x.length ≤ 1048576) : hayloftlaw07_BlockMany l kinds = some true := by
  unfold hayloftlaw07_BlockMany
  have key : ∀ (k i : Nat) (ss : List (List Int × List AV)), i + k = l.length → (∀ x ∈ ss, Seg x) → ss.length ≤ i →
      loopO (fun s : ((List Int) × Int × (List AV)) => hayloftlaw07_BlockMany_b2 l kinds s.1 s.2.1 s.2.2) (ss.flatMap (·.1), (i : Int), ss.flatMap (·.2)) = some true := by
    intro k
    induction k with
    | zero =>
      intro i ss hi hs hle
      have b1 := flat_bd (·.1) 100000 ss fun x hx => (hs x hx).byt.2.1
      have b2 := flat_bd (·.2) 64 ss fun x hx => (hs x hx).byt.2.2.2
      refine loopO_end ?_
      unfold hayloftlaw07_BlockMany_b2
      dsimp only
      rw [if_neg (by simp; omega), many_end hs (by omega) (by omega)]
      rfl
    | succ k ih =>
      intro i ss hi hs hle
      have b1 := flat_bd (·.1) 100000 ss fun x hx => (hs x hx).byt.2.1
      have b2 := flat_bd (·.2) 64 ss fun x hx => (hs x hx).byt.2.2.2
      have hlt : i < l.length := by omega
      have hv := h l[i] (List.getElem_mem hlt)
      have hxl := hx l[i] (List.getElem_mem hlt)
      have step : ∀ kind, ∃ ss' : List (List Int × List AV), (∀ x ∈ ss', Seg x) ∧ ss'.length ≤ i + 1 ∧ hayloftlaw07_BlockMany_j6 l (ss.flatMap (·.1)) (i : Int) (ss.flatMap (·.2)) kind = some (.inl (ss'.flatMap (·.1), ((i + 1 : Nat) : Int), ss'.flatMap (·.2))) := by
        intro kind
        unfold hayloftlaw07_BlockMany_j6 hayloftlaw07_BlockMany_j5
        rw [idx_of hlt, Option.bind_some, Write_eq kind hv hxl, Option.bind_some]
        by_cases e : (wr kind l[i]).2 = 0
        · have hseg : Seg ((wr kind l[i]).1, l[i]) := ⟨kind, hv, Prod.ext rfl e⟩
          obtain ⟨y1, y2, y3, y4⟩ := hseg.byt
          simp only at y1 y2 y3 y4
          refine ⟨ss ++ [((wr kind l[i]).1, l[i])], fun x hx => ?_, by simp; omega, ?_⟩
          · rcases List.mem_append.1 hx with hx | hx
            · exact hs x hx
            · rw [List.mem_singleton.1 hx]; exact hseg
          · rw [if_neg (by simpa using e), app_of (by omega), Option.bind_some, Option.bind_some, app_of (by omega), Option.bind_some, succ64 (by omega)]
            simp
        · exact ⟨ss, hs, by omega, by rw [if_pos (by simpa using e), succ64 (by omega)]⟩
      have hb : ∃ ss' : List (List Int × List AV), (∀ x ∈ ss', Seg x) ∧ ss'.length ≤ i + 1 ∧ hayloftlaw07_BlockMany_b2 l kinds (ss.flatMap (·.1)) (i : Int) (ss.flatMap (·.2)) = some (.inl (ss'.flatMap (·.1), ((i + 1 : Nat) : Int), ss'.flatMap (·.2))) := by
        unfold hayloftlaw07_BlockMany_b2
        rw [if_pos (by simpa using hlt)]
        by_cases hk : i < kinds.length
        · rw [if_pos (by simpa using hk), idx_of hk, Option.bind_some]; exact step _
        · rw [if_neg (by simpa using hk)]; exact step _
      obtain ⟨ss', h1, h2, h3⟩ := hb
      rw [loopO_go h3]
      exact ih (i + 1) ss' (by omega) h1 h2
  exact key l.length 0 [] (by omega) (by simp) (by simp)
end Go.Proofs.Ytifobhaccglckaa.Hay
