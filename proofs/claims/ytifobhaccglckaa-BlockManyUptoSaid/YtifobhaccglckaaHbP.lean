import Derived.Test.YtifobhaccglckaaHbN
import Derived.Deep.Slices
namespace Go.Proofs.Ytifobhaccglckaa.Hay

def m0 (w : World) : M := fun b => match w.heap[b]? with | some (.cells c _ _) => some c.toList | _ => none
theorem S_start (w : World) : S ⟨w, fun _ => none⟩ (m0 w) w [] [] := by
  refine ⟨⟨Bel.refl _ _, fun k o h => by cases h⟩, fun b l hb => ?_, fun i e he => by simp at he, fun i j e e' he => by simp at he, fun i e he => by simp at he, fun i j e e' he => by simp at he⟩
  unfold m0 at hb
  split at hb
  · rename_i c t fr hc
    injection hb with hb
    exact ⟨c, t, fr, [], hc, by simp [hb]⟩
  · cases hb
structure Bulk (H : Type) where
  b : DataW H → Nat
  ba : List (DataW H) → Nat
  str : ∀ s, b (.lit (.string s)) = s.length + 1
  one : ∀ d, 1 ≤ b d
  slice : ∀ e s, b (.slice e s) = ba e + ba s + 1
  agg : ∀ l, b (.agg l) = ba l + 1
  nil : ba [] = 0
  cons : ∀ d r, ba (d :: r) = b d + ba r
def Rd (P : Program) (t : TypeId) {α : Type} (k : Kd α) (sz : α → Nat) : Prop :=
  ∀ {H : Type} (enc : TypeId × Value → H) (B : Bulk H) (w : World) (fuel : Nat) (cs : List Value) (d : DataW H) (ps : List MemPlace), DataW.trod enc P w 0 (fun _ => true) true fuel t cs = some (d, ps) → B.b d ≤ 1099511627776 → ∃ x, k.R (m0 w) cs x ∧ sz x ≤ B.b d
section
variable {P : Program} {t e : TypeId} {α β : Type} {k : Kd α} {sz : α → Nat}
theorem Rd_int {kk : IntKind} (hu : P.underlying t = some (.int kk)) : Rd P t (kInt kk) (fun _ => 1) := by
  intro H enc B w fuel cs d ps h hb
  cases fuel with
  | zero => simp [DataW.trod] at h
  | succ fuel =>
    unfold DataW.trod at h
    rw [hu] at h
    match cs, h with
    | [.int k' n], h =>
      simp only at h
      split at h
      · rename_i hk
        obtain ⟨rfl, hwf⟩ := hk
        injection h with h; injection h with h1 h2
        refine ⟨n, ⟨rfl, ?_⟩, B.one _⟩
        rw [inR_bd]
        simpa [Lit.wf] using hwf
      · cases h
theorem Rd_bool (hu : P.underlying t = some .bool) : Rd P t kBool (fun _ => 1) := by
  intro H enc B w fuel cs d ps h hb
  cases fuel with
  | zero => simp [DataW.trod] at h
  | succ fuel =>
    unfold DataW.trod at h
    rw [hu] at h
    match cs, h with
    | [.bool b], h => exact ⟨b, rfl, B.one _⟩
theorem Rd_str (hu : P.underlying t = some .string) : Rd P t kStr (fun s => s.length + 1) := by
  intro H enc B w fuel cs d ps h hb
  cases fuel with
  | zero => simp [DataW.trod] at h
  | succ fuel =>
    unfold DataW.trod at h
    rw [hu] at h
    match cs, h with
    | [.string s], h =>
      simp only at h
      split at h
      · injection h with h; injection h with h1 h2
        subst h1
        rw [B.str] at hb ⊢
        refine ⟨s.data.toList.map fun c => (c.toNat : Int), ⟨?_, ?_, ?_⟩, by simp⟩
        · congr 2
          unfold bts
          cases s with | mk data =>
          congr 1
          apply Array.ext'
          have hc : ∀ c : UInt8, UInt8.ofNat ((c.toNat : Int)).toNat = c := fun c => by simp
          simp only [List.map_map]
          conv => lhs; rw [← List.map_id data.toList]
          exact List.map_congr_left fun c _ => (hc c).symm
        · intro n hn
          obtain ⟨c, _, rfl⟩ := List.mem_map.1 hn
          have := c.toNat_lt
          omega
        · simp at hb ⊢; unfold maxSz; omega
      · cases h
theorem mapM_some_get {α β : Type} (f : α → Option β) : ∀ (l : List α) (r : List β), l.mapM f = some r → l.length = r.length ∧ ∀ i (h : i < l.length) (h' : i < r.length), f l[i] = some r[i]
  | [], r, h => by simp at h; subst h; exact ⟨rfl, fun i h => by simp at h⟩
  | a :: l, r, h => by
    simp only [List.mapM_cons, Option.bind_eq_bind, Option.pure_def] at h
    cases hx : f a with
    | none => simp [hx] at h
    | some y =>
      cases hr : l.mapM f with
      | none => simp [hx, hr] at h
      | some s =>
        simp [hx, hr] at h
        subst h
        obtain ⟨h1, h2⟩ := mapM_some_get f l s hr
        refine ⟨by simp [h1], fun i hi hi' => ?_⟩
        cases i with
        | zero => simpa using hx
        | succ i => simpa using h2 i (by simpa using hi) (by simpa using hi')
theorem addb (a : Addr) (i : Nat) : (a.add i).block = a.block := by
  unfold Addr.add; split <;> rfl
theorem addo (a : Addr) (i : Nat) : (a.add i).off = a.off + i := by
  unfold Addr.add; split <;> simp_all
theorem cells_row {w : World} {a : Addr} {n : Nat} {cs : List Value} (h : w.cells? 0 a n = some cs) (hn : 0 < n) : a.spot = none ∧ (m0 w).row a.block a.off n = cs := by
  unfold World.cells? at h
  rw [if_pos (Nat.zero_le _)] at h
  obtain ⟨h1, h2⟩ := mapM_some_get _ _ _ h
  simp only [List.length_range] at h1
  have h3 := h2 0 (by simpa using hn) (by omega)
  simp only [List.getElem_range] at h3
  obtain ⟨b, o, sp⟩ := a
  simp only [show (⟨b, o, sp⟩ : Addr).add 0 = ⟨b, o, sp⟩ from rfl, World.cell?] at h3
  cases hb : w.heap[b]? with
  | none => rw [hb] at h3; simp at h3
  | some ob =>
    rw [hb] at h3
    cases ob <;> try (simp at h3; done)
    rename_i c t fr
    simp only at h3
    have hsp : sp = none := by
      cases sp with
      | none => rfl
      | some s => simp at h3
    refine ⟨hsp, ?_⟩
    subst hsp
    have hm : m0 w b = some c.toList := by simp [m0, hb]
    unfold M.row
    rw [hm]
    apply List.ext_getElem?
    intro j
    rw [List.getElem?_take, List.getElem?_drop]
    by_cases hj : j < n
    · have h4 := h2 j (by simpa using hj) (by omega)
      simp only [List.getElem_range, add_eq, World.cell?, hb] at h4
      rw [if_pos hj, List.getElem?_eq_getElem (show j < cs.length by omega), ← h4]
      simp
    · rw [if_neg hj, List.getElem?_eq_none (by omega)]
theorem Rd_slice (hu : P.underlying t = some (.slice e)) (he : P.cellsOf e = k.sz) (hr : Rd P e k sz) : Rd P t (kSl k) (fun xs => (xs.map sz).sum + 1) := by
  intro H enc B w fuel cs d ps h hb
  have hp := k.pos
  rcases Go.Deep.open_slice hu h with ⟨rfl, hx⟩ | ⟨a, len, cap, mm, n, D, Pl, rfl, _, hl, hm, hmm, hx, hall⟩
  · injection hx with h1 h2; subst h1
    exact ⟨[], ⟨none, 0, 0, rfl, rfl, Nat.le_refl _, by simp, rfl⟩, by simpa using B.one _⟩
  · injection hx with h1 h2; subst h1
    simp only [if_true] at hmm
    subst hmm
    rw [B.slice] at hb
    have sums : ∀ (q : Nat) (o : Nat), (∀ j, j < q → B.b (D (o + j)) ≤ 1099511627776) → o + q ≤ mm → ∃ xs : List α, xs.length = q ∧ (∀ j (hj : j < xs.length), k.R (m0 w) ((m0 w).row a.block (a.off + (o + j) * k.sz) k.sz) xs[j]) ∧ (xs.map sz).sum ≤ B.ba ((List.range q).map fun j => D (o + j)) := by
      intro q
      induction q with
      | zero => intro o _ _; exact ⟨[], rfl, fun j hj => by simp at hj, by simp⟩
      | succ q ih =>
        intro o hbd hoq
        obtain ⟨xs, hx1, hx2, hx3⟩ := ih (o + 1) (fun j hj => by have := hbd (j + 1) (by omega); rwa [show o + (j + 1) = o + 1 + j by omega] at this) (by omega)
        obtain ⟨cs', hc1, hc2⟩ := hall o (by omega)
        rw [he] at hc1
        obtain ⟨_, hrow⟩ := cells_row hc1 hp
        obtain ⟨x, hxR, hxs⟩ := hr enc B w n cs' _ _ hc2 (by have := hbd 0 (by omega); simpa using this)
        refine ⟨x :: xs, by simp [hx1], fun j hj => ?_, ?_⟩
        · cases j with
          | zero =>
            simp only [List.getElem_cons_zero, Nat.add_zero]
            rw [addb, addo] at hrow
            rw [hrow]; exact hxR
          | succ j =>
            have := hx2 j (by simpa using hj)
            simp only [List.getElem_cons_succ]
            rw [show o + (j + 1) = o + 1 + j by omega]
            exact this
        · simp only [List.range_succ_eq_map, List.map_cons, B.cons, List.map_map, List.sum_cons, Nat.add_zero]
          have e1 : (List.range q).map ((fun j => D (o + j)) ∘ Nat.succ) = (List.range q).map fun j => D (o + 1 + j) := List.map_congr_left fun j _ => by simp only [Function.comp]; congr 1; omega
          rw [e1]
          omega
    have bound : ∀ (q : Nat) (f : Nat → DataW H) (j : Nat), j < q → B.b (f j) ≤ B.ba ((List.range q).map f) := by
      intro q
      induction q with
      | zero => intro f j hj; omega
      | succ q ih =>
        intro f j hj
        rw [List.range_succ_eq_map, List.map_cons, B.cons, List.map_map]
        cases j with
        | zero => omega
        | succ j => have := ih (f ∘ Nat.succ) j (by omega); simp only [Function.comp] at this; have h9 : B.b (f (j + 1)) ≤ B.ba (List.map (f ∘ Nat.succ) (List.range q)) := this; omega
    have hbd : ∀ j, j < len → B.b (D (0 + j)) ≤ 1099511627776 := fun j hj => by
      have := bound len D j hj
      rw [Nat.zero_add]
      have h0 : B.ba ((List.range len).map D) ≤ 1099511627776 := by omega
      omega
    obtain ⟨xs, hx1, hx2, hx3⟩ := sums len 0 hbd (by omega)
    have hlen : xs.length ≤ B.ba ((List.range len).map D) := by
      have : ∀ (q : Nat) (f : Nat → DataW H), q ≤ B.ba ((List.range q).map f) := by
        intro q
        induction q with
        | zero => intro f; omega
        | succ q ih =>
          intro f
          rw [List.range_succ_eq_map, List.map_cons, B.cons, List.map_map]
          have := ih (f ∘ Nat.succ)
          have h1 := B.one (f 0)
          omega
      rw [hx1]; exact this len D
    refine ⟨xs, ⟨some a, len, mm, rfl, hx1.symm, hl, by unfold maxSz; omega, fun hc => ?_, fun j hj => ?_⟩, ?_⟩
    · obtain ⟨cs', hc1, _⟩ := hall 0 hc
      rw [he] at hc1
      have := (cells_row hc1 hp).1
      have h0 : a.add (0 * k.sz) = a := by unfold Addr.add; rw [if_pos (by simp)]
      rwa [h0] at this
    · have := hx2 j hj
      rwa [Nat.zero_add] at this
    · rw [B.slice]
      have e1 : (List.range len).map (fun j => D (0 + j)) = (List.range len).map D := List.map_congr_left fun j _ => by rw [Nat.zero_add]
      rw [e1] at hx3
      show (xs.map sz).sum + 1 ≤ _
      omega
def RdF (P : Program) (fs : List Field) (off : Nat) {α : Type} (k : Kd α) (sz : α → Nat) : Prop :=
  ∀ {H : Type} (enc : TypeId × Value → H) (B : Bulk H) (w : World) (fuel : Nat) (cs : List Value) (ds : List (DataW H × List MemPlace)),
    fs.mapM (fun f => DataW.trod enc P w 0 (fun _ => true) true fuel f.type ((cs.drop f.offset).take (P.cellsOf f.type))) = some ds → cs.length = off + k.sz → B.ba (ds.map (·.1)) ≤ 1099511627776 → ∃ x, k.R (m0 w) (cs.drop off) x ∧ sz x ≤ B.ba (ds.map (·.1))
theorem RdF_one {f : Field} {off : Nat} (hr : Rd P f.type k sz) (ho : f.offset = off) (hc : P.cellsOf f.type = k.sz) : RdF P [f] off k sz := by
  intro H enc B w fuel cs ds h hl hb
  simp only [List.mapM_cons, List.mapM_nil, Option.bind_eq_bind, Option.pure_def] at h
  cases hx : DataW.trod enc P w 0 (fun _ => true) true fuel f.type ((cs.drop f.offset).take (P.cellsOf f.type)) with
  | none => rw [hx] at h; simp at h
  | some d =>
    rw [hx] at h; simp at h; subst h
    obtain ⟨d, ps⟩ := d
    simp only [List.map_cons, List.map_nil, B.cons, B.nil, Nat.add_zero] at hb ⊢
    obtain ⟨x, hxR, hxs⟩ := hr enc B w fuel _ d ps hx hb
    rw [ho, hc, List.take_of_length_le (by simp; omega)] at hxR
    exact ⟨x, hxR, hxs⟩
theorem RdF_cons {γ : Type} {k' : Kd γ} {sz' : γ → Nat} {f : Field} {fs : List Field} {off : Nat} (hr : Rd P f.type k sz) (ho : f.offset = off) (hc : P.cellsOf f.type = k.sz) (hs : RdF P fs (off + k.sz) k' sz') : RdF P (f :: fs) off (kPair k k') (fun x => sz x.1 + sz' x.2) := by
  intro H enc B w fuel cs ds h hl hb
  have hl' : cs.length = off + k.sz + k'.sz := by rw [hl]; show off + (k.sz + k'.sz) = _; omega
  simp only [List.mapM_cons, Option.bind_eq_bind, Option.pure_def] at h
  cases hx : DataW.trod enc P w 0 (fun _ => true) true fuel f.type ((cs.drop f.offset).take (P.cellsOf f.type)) with
  | none => rw [hx] at h; simp at h
  | some d =>
    rw [hx] at h
    simp only [Option.bind_some] at h
    cases hy : fs.mapM (fun f => DataW.trod enc P w 0 (fun _ => true) true fuel f.type ((cs.drop f.offset).take (P.cellsOf f.type))) with
    | none => rw [hy] at h; simp at h
    | some es =>
      rw [hy] at h; simp at h; subst h
      obtain ⟨d, ps⟩ := d
      simp only [List.map_cons, B.cons] at hb ⊢
      obtain ⟨x, hxR, hxs⟩ := hr enc B w fuel _ d ps hx (by omega)
      obtain ⟨y, hyR, hys⟩ := hs enc B w fuel cs es hy hl' (by omega)
      rw [ho, hc] at hxR
      refine ⟨(x, y), ⟨hxR, ?_⟩, ?_⟩
      · show k'.R (m0 w) ((cs.drop off).drop k.sz) y
        rw [List.drop_drop]; exact hyR
      · show sz x + sz' y ≤ _
        omega
theorem Rd_struct {γ : Type} {fs : Array Field} {g : γ → α} {gi : α → γ} (hu : P.underlying t = some (.struct fs)) (hc : P.cellsOf t = k.sz) (hs : RdF P fs.toList 0 k sz) (hg : ∀ x, g (gi x) = x) : Rd P t (kMap g k) (fun y => sz (g y) + 1) := by
  intro H enc B w fuel cs d ps h hb
  cases fuel with
  | zero => simp [DataW.trod] at h
  | succ fuel =>
    unfold DataW.trod at h
    rw [hu] at h
    simp only at h
    split at h
    · rename_i hl
      cases hx : fs.toList.mapM (fun f => DataW.trod enc P w 0 (fun _ => true) true fuel f.type ((cs.drop f.offset).take (P.cellsOf f.type))) with
      | none => rw [hx] at h; simp at h
      | some ds =>
        rw [hx] at h; simp at h
        obtain ⟨rfl, _⟩ := h
        rw [B.agg] at hb ⊢
        obtain ⟨x, hxR, hxs⟩ := hs enc B w fuel cs ds hx (by rw [hl, hc]; omega) (by omega)
        refine ⟨gi x, ?_, ?_⟩
        · show k.R (m0 w) cs (g (gi x))
          rw [hg]; simpa using hxR
        · show sz (g (gi x)) + 1 ≤ _
          rw [hg]; omega
    · cases h
end
end Go.Proofs.Ytifobhaccglckaa.Hay
