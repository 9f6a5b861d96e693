import Derived.Test.YtifobhaccglckaaHbD
import Derived.Laws.Append
namespace Go.Proofs.Ytifobhaccglckaa.Hay
open Go.RowKit (Below)

def Rl {α : Type} (d : Kd α) (m : M) (cs : List Value) (xs : List α) : Prop := cs.length = xs.length * d.sz ∧ ∀ i (h : i < xs.length), d.R m ((cs.drop (i * d.sz)).take d.sz) xs[i]
section
variable {δ : List Nat} {ro : Option Nat} {α : Type} {d : Kd α} {m m' : M} {cs ds : List Value} {xs ys : List α}
theorem Rl.mono (h : Rl d m cs xs) (hm : M.le m m') : Rl d m' cs xs := ⟨h.1, fun i hi => d.mono hm (h.2 i hi)⟩
theorem Rl.nil : Rl d m [] [] := ⟨by simp, fun i h => by simp at h⟩
theorem Rl.single {x : α} (h : d.R m cs x) : Rl d m cs [x] := ⟨by simp [d.len h], fun i hi => by
  have : i = 0 := by simp at hi; omega
  subst this
  simp only [Nat.zero_mul, List.drop_zero, List.getElem_cons_zero]
  rw [List.take_of_length_le (by rw [d.len h]; exact Nat.le_refl _)]
  exact h⟩
theorem Rl.app (h : Rl d m cs xs) (k : Rl d m ds ys) : Rl d m (cs ++ ds) (xs ++ ys) := by
  refine ⟨by simp [h.1, k.1, Nat.add_mul], fun i hi => ?_⟩
  have hp := d.pos
  by_cases h1 : i < xs.length
  · rw [List.getElem_append_left h1]
    have h2 : i * d.sz + d.sz ≤ xs.length * d.sz := by
      have := Nat.mul_le_mul_right d.sz (show i + 1 ≤ xs.length by omega)
      rw [Nat.add_mul] at this; omega
    rw [List.drop_append_of_le_length (by rw [h.1]; omega), List.take_append_of_le_length (by simp [h.1]; omega)]
    exact h.2 i h1
  · rw [List.getElem_append_right (by omega)]
    have h2 : xs.length * d.sz ≤ i * d.sz := Nat.mul_le_mul_right _ (by omega)
    have h3 : i * d.sz - xs.length * d.sz = (i - xs.length) * d.sz := by rw [Nat.sub_mul]
    rw [List.drop_append, List.drop_eq_nil_of_le (by rw [h.1]; exact h2), List.nil_append, h.1, h3]
    exact k.2 _ (by simp at hi; omega)
theorem Rl.one (h : Rl d m cs xs) : ∀ c ∈ cs, c.oneCell' = true := by
  intro c hc
  obtain ⟨j, hj, rfl⟩ := List.mem_iff_getElem.1 hc
  have hp := d.pos
  have hi : j / d.sz < xs.length := by
    rw [Nat.div_lt_iff_lt_mul hp, ← h.1]; exact hj
  have hR := h.2 _ hi
  refine d.one hR _ ?_
  have e1 := Nat.div_add_mod j d.sz
  have e2 := Nat.mod_lt j hp
  rw [Nat.mul_comm] at e1
  rw [List.mem_iff_getElem?]
  refine ⟨j % d.sz, ?_⟩
  rw [List.getElem?_take, if_pos e2, List.getElem?_drop, e1, List.getElem?_eq_getElem hj]
theorem RV_sl {v : Value} (h : RV (kSl d) m v xs) : ∃ a cap, v = .slice a xs.length cap ∧ xs.length ≤ cap ∧ xs.length ≤ maxSz ∧ (match a with | none => cap = 0 | some ad => (0 < cap → ad.spot = none) ∧ ∀ i (h : i < xs.length), d.R m (m.row ad.block (ad.off + i * d.sz) d.sz) xs[i]) := by
  obtain ⟨cs, ⟨a, len, cap, h1, h2, h3, h4, h5⟩, rfl⟩ := h
  subst h1; subst h2
  exact ⟨a, cap, rfl, h3, h4, h5⟩
theorem RV_of_sl {a : Option Addr} {cap : Nat} (h1 : xs.length ≤ cap) (h2 : xs.length ≤ maxSz) (h3 : match a with | none => cap = 0 | some ad => (0 < cap → ad.spot = none) ∧ ∀ i (h : i < xs.length), d.R m (m.row ad.block (ad.off + i * d.sz) d.sz) xs[i]) : RV (kSl d) m (.slice a xs.length cap) xs :=
  ⟨[_], ⟨a, _, cap, rfl, rfl, h1, h2, h3⟩, rfl⟩
theorem Rl_of_row {b o : Nat} (h : ∀ i (h : i < xs.length), d.R m (m.row b (o + i * d.sz) d.sz) xs[i]) : Rl d m (m.row b o (xs.length * d.sz)) xs := by
  have hp := d.pos
  have hlen : (m.row b o (xs.length * d.sz)).length = xs.length * d.sz := by
    rcases Nat.eq_zero_or_pos xs.length with h0 | h0
    · unfold M.row; cases m b <;> simp [h0]
    · have h1 := d.len (h (xs.length - 1) (by omega))
      unfold M.row at h1 ⊢
      cases hm : m b with
      | none => simp [hm] at h1; omega
      | some l =>
        simp [hm] at h1 ⊢
        have e : (xs.length - 1) * d.sz + d.sz = xs.length * d.sz := by
          rw [← Nat.succ_mul]; congr 1; omega
        omega
  refine ⟨hlen, fun i hi => ?_⟩
  have h2 : i * d.sz + d.sz ≤ xs.length * d.sz := by
    have := Nat.mul_le_mul_right d.sz (show i + 1 ≤ xs.length by omega)
    rw [Nat.add_mul] at this; omega
  rw [row_sub h2]
  exact h i hi
theorem row_of_Rl {b o : Nat} {l : List Value} (hm : m b = some l) (h : Rl d m cs xs) (hl : (l.drop o).take cs.length = cs) : ∀ i (h : i < xs.length), d.R m (m.row b (o + i * d.sz) d.sz) xs[i] := by
  intro i hi
  have h2 : i * d.sz + d.sz ≤ xs.length * d.sz := by
    have := Nat.mul_le_mul_right d.sz (show i + 1 ≤ xs.length by omega)
    rw [Nat.add_mul] at this; omega
  have := h.2 i hi
  rw [← hl, List.drop_take, List.drop_drop, List.take_take, Nat.min_eq_left (by rw [h.1]; omega)] at this
  unfold M.row
  rw [hm]
  exact this
end

def idx {α : Type} (xs : List α) (i : Int) : Option α := if 0 ≤ i then xs[i.toNat]? else none
theorem idx_some {α : Type} {xs : List α} {i : Int} {x : α} (h : idx xs i = some x) : 0 ≤ i ∧ ∃ hi : i.toNat < xs.length, xs[i.toNat] = x := by
  unfold idx at h
  split at h
  · rename_i h0
    exact ⟨h0, List.getElem?_eq_some_iff.1 h⟩
  · cases h
def sub {α : Type} (xs : List α) (lo hi : Int) : Option (List α) := if 0 ≤ lo ∧ lo ≤ hi ∧ hi ≤ (xs.length : Int) then some ((xs.take hi.toNat).drop lo.toNat) else none
theorem sub_some {α : Type} {xs ys : List α} {lo hi : Int} (h : sub xs lo hi = some ys) : 0 ≤ lo ∧ lo ≤ hi ∧ hi ≤ (xs.length : Int) ∧ ys = (xs.take hi.toNat).drop lo.toNat := by
  unfold sub at h
  split at h
  · rename_i h0
    injection h with h
    exact ⟨h0.1, h0.2.1, h0.2.2, h.symm⟩
  · cases h
def app {α : Type} (N : Nat) (xs ys : List α) : Option (List α) := if xs.length + ys.length ≤ N then some (xs ++ ys) else none
theorem app_some {α : Type} {N : Nat} {xs ys zs : List α} (h : app N xs ys = some zs) : xs.length + ys.length ≤ N ∧ zs = xs ++ ys := by
  unfold app at h
  split at h
  · rename_i h0
    injection h with h
    exact ⟨h0, h.symm⟩
  · cases h

section
variable {δ : List Nat} {ro : Option Nat} {P : Program} {W0 : Bse} {m : M} {L : List (Nat × List Value)} {TL : List (Nat × Value)} {n : Nat} {a : Act} {l : List (Nat × Value)} {w : World} {ty t e : TypeId} {pos : String} {aft : Array Edge} {g : Option (Nat × Bool)} {x y : Operand} {d : Nat} {α : Type} {k : Kd α}
theorem r_lenSl {ts : Array TypeId} {xs : List α} {v : Value} (hE : EnvD δ n a l) (hx : evl l x = some v) (ht : ts[0]? = some t) (hu : P.underlying t = some (.slice e)) (hv : RV (kSl k) m v xs) :
    Run1 P ⟨some d, .call ⟨.builtin .len, #[x], ts⟩, ty, pos, aft, g⟩ a w (.int .i64 (xs.length : Int)) w := by
  obtain ⟨ad, cap, rfl, _⟩ := RV_sl hv
  simp [Run1, execOp, resolve, invoke, builtin, hE.eval hx, Builtin.len_, ht, run_underlying hu, goInt]
theorem bts_size (s : List Int) : (bts s).size = s.length := by
  show ((s.map _).toArray).size = _
  simp
theorem r_lenStr {ts : Array TypeId} {s : List Int} (hE : EnvD δ n a l) (hx : evl l x = some (.string (bts s))) (ht : ts[0]? = some t) (hu : P.underlying t = some .string) :
    Run1 P ⟨some d, .call ⟨.builtin .len, #[x], ts⟩, ty, pos, aft, g⟩ a w (.int .i64 (s.length : Int)) w := by
  simp [Run1, execOp, resolve, invoke, builtin, hE.eval hx, Builtin.len_, ht, run_underlying hu, goInt, bts_size]
theorem st_index {kk : IntKind} {i : Int} {xs : List α} {xx : α} {v : Value} (hE : EnvD δ n a l) (hx : evl l x = some v) (hy : evl l y = some (.int kk i)) (hu : P.underlying t = some (.slice e)) (hs : ∀ w, (sizeOf e).run P w = .ok k.sz w) (hv : RV (kSl k) m v xs) (hi : idx xs i = some xx) :
    Step P ⟨some d, .indexAddr t x y, ty, pos, aft, g⟩ a w (fun v w' => w = w' ∧ PR k m v xx) := by
  obtain ⟨h0, h1, h2⟩ := idx_some hi
  obtain ⟨ad, cap, rfl, h3, h4, h5⟩ := RV_sl hv
  cases ad with
  | none => simp only at h5; omega
  | some ad =>
    obtain ⟨b, o, sp⟩ := ad
    obtain ⟨hsp, hR⟩ := h5
    replace hsp := hsp (by omega)
    simp only at hsp; subst hsp
    have hlt : i < (xs.length : Int) := by omega
    have hr : Run1 P ⟨some d, .indexAddr t x y, ty, pos, aft, g⟩ a w (.pointer (some ⟨b, o + i.toNat * k.sz, none⟩)) w := by
      simp [Run1, execOp, hE.eval hx, hE.eval hy, Instr.indexAt, asIntOf, run_underlying hu, h0, hlt, hs, add_eq]
    refine hr.step ⟨rfl, b, _, rfl, ?_⟩
    rw [← h2]
    exact hR _ h1
theorem sl_sub {v : Value} {xs ys : List α} {lo hi : Int} (hv : RV (kSl k) m v xs) (hs : sub xs lo hi = some ys) :
    ∃ a cap, v = .slice a xs.length cap ∧ hi ≤ cap ∧ RV (kSl k) m (.slice (if cap = lo.toNat then a else a.map (·.add (lo.toNat * k.sz))) (hi.toNat - lo.toNat) (cap - lo.toNat)) ys := by
  obtain ⟨h0, h1, h2, rfl⟩ := sub_some hs
  obtain ⟨ad, cap, rfl, h3, h4, h5⟩ := RV_sl hv
  have hl : ((xs.take hi.toNat).drop lo.toNat).length = hi.toNat - lo.toNat := by simp; omega
  refine ⟨ad, cap, rfl, by omega, ?_⟩
  rw [← hl]
  refine RV_of_sl (by omega) (by omega) ?_
  by_cases hc : cap = lo.toNat
  · rw [if_pos hc]
    cases ad with
    | none => simp only at h5 ⊢; omega
    | some ad => exact ⟨fun h => h5.1 (by omega), fun i hi' => by rw [hl] at hi'; omega⟩
  · rw [if_neg hc]
    cases ad with
    | none => simp only at h5 ⊢; simp; omega
    | some ad =>
      obtain ⟨b, o, sp⟩ := ad
      obtain ⟨hsp, hR⟩ := h5
      replace hsp := hsp (by omega)
      simp only at hsp; subst hsp
      simp only [Option.map_some, add_eq]
      refine ⟨fun _ => trivial, fun i hi' => ?_⟩
      rw [hl] at hi'
      have := hR (lo.toNat + i) (by omega)
      rw [Nat.add_mul, ← Nat.add_assoc] at this
      simpa using this
theorem sliceAt_run {a : Option Addr} {len cap : Nat} {lo hi : Option Value} {lo' hi' : Nat} (hu : P.underlying t = some (.slice e)) (hs : ∀ w, (sizeOf e).run P w = .ok k.sz w)
    (hlo : match lo with | some (.int _ i) => i = lo' | none => lo' = 0 | _ => False) (hhi : match hi with | some (.int _ i) => i = hi' | none => hi' = len | _ => False) (h1 : lo' ≤ hi') (h2 : hi' ≤ cap) :
    (Instr.sliceAt t (.slice a len cap) lo hi none).run P w = .ok (.slice (if cap = lo' then a else a.map (·.add (lo' * k.sz))) (hi' - lo') (cap - lo')) w := by
  have key : (Instr.sliceBounds true len cap lo hi none).run P w = .ok (lo', hi', cap) w := by
    unfold Instr.sliceBounds
    have b1 : ∀ (kk : IntKind) (code : BoundsCode), (Instr.sliceBound (.int kk (hi' : Int)) cap code).run P w = .ok hi' w := fun kk code => by
      simp [Instr.sliceBound, asIntOf, h2]
    have b2 : ∀ (kk : IntKind) (code : BoundsCode), (Instr.sliceBound (.int kk (lo' : Int)) hi' code).run P w = .ok lo' w := fun kk code => by
      simp [Instr.sliceBound, asIntOf, h1]
    rcases hi with _ | hv
    · simp only at hhi; subst hhi
      rcases lo with _ | lv
      · simp only at hlo; subst hlo; simp
      · cases lv <;> try exact hlo.elim
        simp only at hlo; subst hlo
        simp [b2]
    · cases hv <;> try exact hhi.elim
      simp only at hhi; subst hhi
      rcases lo with _ | lv
      · simp only at hlo; subst hlo; simp [b1]
      · cases lv <;> try exact hlo.elim
        simp only at hlo; subst hlo
        simp [b1, b2]
  simp [Instr.sliceAt, run_underlying hu, Instr.slice, key, hs]
theorem st_slice {v : Value} {xs ys : List α} {xl xh : Option Operand} {lo hi : Int} (hE : EnvD δ n a l) (hx : evl l x = some v) (hu : P.underlying t = some (.slice e)) (hs : ∀ w, (sizeOf e).run P w = .ok k.sz w) (hv : RV (kSl k) m v xs)
    (hl : match xl with | some o => ∃ kk, evl l o = some (.int kk lo) | none => lo = 0) (hh : match xh with | some o => ∃ kk, evl l o = some (.int kk hi) | none => hi = (xs.length : Int)) (hsub : sub xs lo hi = some ys) :
    Step P ⟨some d, .slice t x xl xh none, ty, pos, aft, g⟩ a w (fun v w' => w = w' ∧ RV (kSl k) m v ys) := by
  obtain ⟨h0, h1, h2, _⟩ := sub_some hsub
  obtain ⟨ad, cap, rfl, h3, h4⟩ := sl_sub hv hsub
  have hr : Run1 P ⟨some d, .slice t x xl xh none, ty, pos, aft, g⟩ a w (.slice (if cap = lo.toNat then ad else ad.map (·.add (lo.toNat * k.sz))) (hi.toNat - lo.toNat) (cap - lo.toNat)) w := by
    have := sliceAt_run (w := w) (a := ad) (len := xs.length) (cap := cap) (lo := xl.map a.eval) (hi := xh.map a.eval) (lo' := lo.toNat) (hi' := hi.toNat) hu hs
      (by cases xl with
          | none => simp at hl ⊢; omega
          | some o => obtain ⟨kk, hk⟩ := hl; simp only [Option.map_some, hE.eval hk]; omega)
      (by cases xh with
          | none => simp at hh ⊢; omega
          | some o => obtain ⟨kk, hk⟩ := hh; simp only [Option.map_some, hE.eval hk]; omega) (by omega) (by omega)
    simp [Run1, execOp, hE.eval hx, this]
  exact hr.step ⟨rfl, h4⟩
end
end Go.Proofs.Ytifobhaccglckaa.Hay
