import Derived.Test.YtifobhaccglckaaHbJ
namespace Go.Proofs.Ytifobhaccglckaa.Hay
open Go.RowKit (Below)

section
variable {δ : List Nat} {ro : Option Nat} {α : Type} {k : Kd α} {m m' : M} {b b' : Nat} {cs cs' : List Value} {v : Value} {xs ys : List α}
theorem GS.arr_len {a : Option Addr} {n c : Nat} (h : GS k m b cs (.slice a n c) xs) : xs.length = n := by
  obtain ⟨a', c', hv, _⟩ := h.val
  injection hv with _ h _; exact h.symm
theorem GS.len_eq (h : GS k m b cs v xs) (h' : GS k m' b' cs' v ys) : ys.length = xs.length := by
  obtain ⟨a1, c1, h1, _⟩ := h.val
  obtain ⟨a2, c2, h2, _⟩ := h'.val
  rw [h1] at h2; injection h2 with _ h _; exact h.symm
theorem Rl.take (h : Rl k m cs xs) (q : Nat) : Rl k m (cs.take (q * k.sz)) (xs.take q) := by
  refine ⟨?_, fun i hi => ?_⟩
  · rw [List.length_take, List.length_take, h.1]
    rcases Nat.le_total q xs.length with h1 | h1
    · have := Nat.mul_le_mul_right k.sz h1
      rw [Nat.min_eq_left this, Nat.min_eq_left h1]
    · have := Nat.mul_le_mul_right k.sz h1
      rw [Nat.min_eq_right this, Nat.min_eq_right h1]
  · have hi' : i < q ∧ i < xs.length := by simp at hi; omega
    have h1 := mul_le_of (sz := k.sz) hi'.1
    rw [List.getElem_take, List.drop_take, List.take_take, Nat.min_eq_left (by omega)]
    exact h.2 i hi'.2
theorem Rl.drop (h : Rl k m cs xs) (q : Nat) : Rl k m (cs.drop (q * k.sz)) (xs.drop q) := by
  refine ⟨by rw [List.length_drop, List.length_drop, h.1, Nat.sub_mul], fun i hi => ?_⟩
  have hi' : q + i < xs.length := by simp at hi; omega
  rw [List.getElem_drop, List.drop_drop, ← Nat.add_mul]
  exact h.2 _ hi'
def spl (xs : List α) (q : Nat) (ys : List α) : List α := xs.take q ++ ys ++ xs.drop (q + ys.length)
theorem GS.splice {news : List Value} (h : GS k m b cs v xs) {q : Nat} (hq : q + ys.length ≤ xs.length) (hv : Rl k m news ys) :
    GS k m b (cs.take (q * k.sz) ++ news ++ cs.drop (q * k.sz + news.length)) v (spl xs q ys) := by
  have hsl : (spl xs q ys).length = xs.length := by unfold spl; simp; omega
  obtain ⟨h0, ⟨rfl, rfl, ad, rfl, ha⟩ | ⟨cap, rfl, h2, h3, h4⟩⟩ := h
  · simp at hq
    obtain ⟨rfl, rfl⟩ := hq
    have hn : news = [] := List.eq_nil_of_length_eq_zero (by rw [hv.1]; simp)
    subst hn
    exact ⟨by simp [spl], .inl ⟨by simp [spl], by simp, ad, rfl, ha⟩⟩
  · have hnl := hv.1
    have e1 : (q + ys.length) * k.sz ≤ xs.length * k.sz := Nat.mul_le_mul_right _ hq
    have e2 : xs.length * k.sz ≤ cap * k.sz := Nat.mul_le_mul_right _ h2
    rw [Nat.add_mul] at e1
    refine ⟨by rw [hsl]; exact h0, .inr ⟨cap, by rw [hsl], by rw [hsl]; exact h2, by simp; omega, ?_⟩⟩
    rw [hsl]
    have a1 := h4.take q
    rw [List.take_take, Nat.min_eq_left (by omega)] at a1
    have a2 := h4.drop (q + ys.length)
    rw [List.drop_take, Nat.add_mul, ← hnl] at a2
    have := (a1.app hv).app a2
    unfold spl
    have e4 : (cs.take (q * k.sz) ++ news).length = q * k.sz + news.length := by simp; omega
    rw [List.take_append, List.take_of_length_le (by rw [e4]; omega), e4]
    exact this
theorem Rl.rep {c : List Value} {z : α} (h : k.R m c z) : ∀ n, Rl k m (List.replicate n c).flatten (List.replicate n z)
  | 0 => Rl.nil
  | n + 1 => by
    rw [List.replicate_succ, List.flatten_cons, List.replicate_succ]
    exact Rl.app (Rl.single h) (Rl.rep h n)
theorem GS.zero {c : List Value} {z : α} (h : ∀ m, k.R m c z) {n : Nat} (hn : Nat.ble n maxSz = true) : GS k m b (List.replicate n c).flatten (.slice (some ⟨b, 0, none⟩) n n) (List.replicate n z) := by
  have := GS.of_Rl (b := b) (Rl.rep (h m) n) (by rw [List.length_replicate]; exact Nat.le_of_ble_eq_true hn)
  rwa [List.length_replicate] at this
end
def VS (b sz : Nat) (v : Value) (q n : Nat) : Prop := ∃ ad c, v = .slice ad n c ∧ (0 < n → ad = some ⟨b, q * sz, none⟩)
def vw {α : Type} (xs : List α) (lo hi : Int) : Option (Nat × Nat) := if 0 ≤ lo ∧ lo ≤ hi ∧ hi ≤ (xs.length : Int) then some (lo.toNat, hi.toNat - lo.toNat) else none
theorem vw_some {α : Type} {xs : List α} {lo hi : Int} {q : Nat × Nat} (h : vw xs lo hi = some q) : 0 ≤ lo ∧ lo ≤ hi ∧ hi ≤ (xs.length : Int) ∧ q.1 = lo.toNat ∧ q.2 = hi.toNat - lo.toNat := by
  unfold vw at h
  split at h
  · rename_i h0
    injection h with h
    exact ⟨h0.1, h0.2.1, h0.2.2, by rw [← h], by rw [← h]⟩
  · cases h
def ixv (q n : Nat) (i : Int) : Option Nat := if 0 ≤ i ∧ i < (n : Int) then some (q + i.toNat) else none
theorem ixv_some {q n : Nat} {i : Int} {j : Nat} (h : ixv q n i = some j) : 0 ≤ i ∧ i < (n : Int) ∧ j = q + i.toNat := by
  unfold ixv at h
  split at h
  · injection h with h; omega
  · cases h
def clr {α : Type} (xs : List α) (q n : Nat) (z : α) : Option (List α) := if q + n ≤ xs.length then some (spl xs q (List.replicate n z)) else none
def cpv {α : Type} (xs : List α) (p q : Nat × Nat) : Option (List α) := if p.1 + p.2 ≤ xs.length ∧ q.1 + q.2 ≤ xs.length then some (spl xs p.1 ((xs.drop q.1).take (min q.2 p.2))) else none
section
variable {δ : List Nat} {ro : Option Nat} {P : Program} {W0 : Bse} {m : M} {L : List (Nat × List Value)} {TL : List (Nat × Value)} {n : Nat} {a : Act} {l : List (Nat × Value)} {w : World} {ty t t2 e : TypeId} {pos : String} {aft : Array Edge} {g : Option (Nat × Bool)} {x y : Operand} {d : Nat} {α β : Type} {k : Kd α} {k' : Kd β} {by_ N b i : Nat} {cs : List Value} {v : Value} {xs ys : List α}
theorem st_sliceG {xh : Operand} {kk : IntKind} {hi : Int} (hE : EnvD δ n a l) (hx : evl l x = some v) (hu : P.underlying t = some (.slice e)) (hs : ∀ w, (sizeOf e).run P w = .ok k.sz w) (hg : GS k m b cs v xs) (hh : evl l xh = some (.int kk hi)) (hsub : sub xs 0 hi = some ys) :
    Step P ⟨some d, .slice t x none (some xh) none, ty, pos, aft, g⟩ a w (fun v' w' => w = w' ∧ GS k m b cs v' ys) := by
  obtain ⟨h0, h1, h2, rfl⟩ := sub_some hsub
  have hyl : ((xs.take hi.toNat).drop (0 : Int).toNat).length = hi.toNat := by simp; omega
  obtain ⟨hx0, ⟨rfl, rfl, ad, rfl, ha⟩ | ⟨cap, rfl, h3, h4, h5⟩⟩ := hg
  · have hh0 : hi.toNat = 0 := by simp at h2; omega
    have := sliceAt_run (k := k) (w := w) (a := ad) (len := 0) (cap := 0) (lo := none) (hi := some (.int kk hi)) (lo' := 0) (hi' := hi.toNat) hu hs rfl (by simp only; omega) (by omega) (by omega)
    have hr : Run1 P ⟨some d, .slice t x none (some xh) none, ty, pos, aft, g⟩ a w (.slice ad 0 0) w := by
      simp only [Run1, execOp, hE.eval hx, Option.map_some, Option.map_none, hE.eval hh]
      simp only [Sem.run_bind, this, Result.andThen_ok]
      simp [hh0]
    exact hr.step ⟨rfl, by simp, .inl ⟨by simp, rfl, ad, rfl, ha⟩⟩
  · have := sliceAt_run (k := k) (w := w) (a := some ⟨b, 0, none⟩) (len := xs.length) (cap := cap) (lo := none) (hi := some (.int kk hi)) (lo' := 0) (hi' := hi.toNat) hu hs rfl (by simp only; omega) (by omega) (by omega)
    have hr : Run1 P ⟨some d, .slice t x none (some xh) none, ty, pos, aft, g⟩ a w (.slice (some ⟨b, 0, none⟩) hi.toNat cap) w := by
      simp only [Run1, execOp, hE.eval hx, Option.map_some, Option.map_none, hE.eval hh]
      simp only [Sem.run_bind, this, Result.andThen_ok]
      by_cases hc : cap = 0
      · simp [hc]
      · simp [hc, add_eq]
    refine hr.step ⟨rfl, by rw [hyl]; omega, .inr ⟨cap, by rw [hyl], by rw [hyl]; omega, h4, ?_⟩⟩
    have h6 := h5.take hi.toNat
    have h7 : hi.toNat * k.sz ≤ xs.length * k.sz := Nat.mul_le_mul_right _ (by omega)
    rw [List.take_take, Nat.min_eq_left h7] at h6
    rw [hyl]
    exact h6
theorem st_viewG {xl xh : Option Operand} {lo hi : Int} {q : Nat × Nat} (hE : EnvD δ n a l) (hx : evl l x = some v) (hu : P.underlying t = some (.slice e)) (hs : ∀ w, (sizeOf e).run P w = .ok k.sz w) (hg : GS k m b cs v xs)
    (hl : match xl with | some o => ∃ kk, evl l o = some (.int kk lo) | none => lo = 0) (hh : match xh with | some o => ∃ kk, evl l o = some (.int kk hi) | none => hi = (xs.length : Int)) (hv : vw xs lo hi = some q) {sz : Nat} (hz : k.sz = sz) :
    Step P ⟨some d, .slice t x xl xh none, ty, pos, aft, g⟩ a w (fun v' w' => w = w' ∧ VS b sz v' q.1 q.2) := by
  obtain ⟨h0, h1, h2, h3, h4⟩ := vw_some hv
  subst hz
  obtain ⟨ad, cap, rfl, hcap⟩ := hg.val
  have hr : Run1 P ⟨some d, .slice t x xl xh none, ty, pos, aft, g⟩ a w (.slice (if cap = lo.toNat then ad else ad.map (·.add (lo.toNat * k.sz))) (hi.toNat - lo.toNat) (cap - lo.toNat)) w := by
    have := sliceAt_run (w := w) (a := ad) (len := xs.length) (cap := cap) (lo := xl.map a.eval) (hi := xh.map a.eval) (lo' := lo.toNat) (hi' := hi.toNat) hu hs
      (by cases xl with
          | none => simp at hl ⊢; omega
          | some o => obtain ⟨kk, hk⟩ := hl; simp only [Option.map_some, hE.eval hk]; omega)
      (by cases xh with
          | none => simp at hh ⊢; omega
          | some o => obtain ⟨kk, hk⟩ := hh; simp only [Option.map_some, hE.eval hk]; omega) (by omega) (by omega)
    simp [Run1, execOp, hE.eval hx, this]
  refine hr.step ⟨rfl, ?_⟩
  rw [h3, h4]
  refine ⟨_, _, rfl, fun hpos => ?_⟩
  obtain ⟨_, ⟨rfl, _⟩ | ⟨cap', hv', _⟩⟩ := hg
  · simp at h2; omega
  · injection hv' with e1 _ _
    subst e1
    rw [if_neg (by omega)]
    simp [add_eq]
theorem r_lenV {ts : Array TypeId} {q len sz : Nat} (hE : EnvD δ n a l) (hx : evl l x = some v) (ht : ts[0]? = some t) (hu : P.underlying t = some (.slice e)) (hg : VS b sz v q len) :
    Run1 P ⟨some d, .call ⟨.builtin .len, #[x], ts⟩, ty, pos, aft, g⟩ a w (.int .i64 (len : Int)) w := by
  obtain ⟨ad, cap, rfl, _⟩ := hg
  simp [Run1, execOp, resolve, invoke, builtin, hE.eval hx, Builtin.len_, ht, run_underlying hu, goInt]
theorem r_indexV {kk : IntKind} {i : Int} {j sz q len : Nat} (hE : EnvD δ n a l) (hx : evl l x = some v) (hy : evl l y = some (.int kk i)) (hu : P.underlying t = some (.slice e)) (hs : ∀ w, (sizeOf e).run P w = .ok sz w) (hg : VS b sz v q len) (hi : ixv q len i = some j) :
    Run1 P ⟨some d, .indexAddr t x y, ty, pos, aft, g⟩ a w (.pointer (some ⟨b, j * sz, none⟩)) w := by
  obtain ⟨h0, h1, rfl⟩ := ixv_some hi
  obtain ⟨ad, c, rfl, had⟩ := hg
  have e1 : q * sz + i.toNat * sz = (q + i.toNat) * sz := by rw [Nat.add_mul]
  simp [Run1, execOp, hE.eval hx, hE.eval hy, had (by omega), Instr.indexAt, asIntOf, run_underlying hu, h0, h1, hs, add_eq, e1]
theorem st_clearV {ts : Array TypeId} {q len : Nat} {z : Value} {z0 : α} {ys : List α} (hE : EnvD δ n a l) (hS : S W0 m w L TL) (hx : evl l x = some v) (ht : ts[0]? = some t) (hu : P.underlying t = some (.slice e)) (hz : ∀ w, (zeroValue e).run P w = .ok z w) (hz0 : ∀ m, k.R m z.cells.toList z0) {v0 : Value} (hL : L[i]? = some (b, cs)) (hg : GS k m b cs v0 xs) (hv : VS b k.sz v q len) (hc : clr xs q len z0 = some ys) :
    Step P ⟨none, .call ⟨.builtin .clear, #[x], ts⟩, ty, pos, aft, g⟩ a w (fun _ w' => ∃ cs', GS k m b cs' v0 ys ∧ S W0 m w' (L.set i (b, cs')) TL) := by
  unfold clr at hc
  split at hc
  · rename_i hle
    injection hc with hc; subst hc
    obtain ⟨ad, c, rfl, had⟩ := hv
    rcases Nat.eq_zero_or_pos len with h0 | h0
    · subst h0
      have hil : i < L.length := (List.getElem?_eq_some_iff.1 hL).1
      have hsame : L.set i (b, cs) = L := by
        obtain ⟨h1, h2⟩ := List.getElem?_eq_some_iff.1 hL
        rw [← h2]; exact List.set_getElem_self h1
      have hr : Run1 P ⟨none, .call ⟨.builtin .clear, #[x], ts⟩, ty, pos, aft, g⟩ a w (.tuple #[]) w := by
        cases ad <;> simp [Run1, execOp, resolve, invoke, builtin, hE.eval hx, Builtin.clear_, ht, run_underlying hu]
      exact hr.step ⟨cs, by simpa [spl] using hg, by rw [hsame]; exact hS⟩
    · have hR : Rl k m (Builtin.zeroCells z.cells len).toList (List.replicate len z0) := by
        have hzl := k.len (hz0 m)
        have hzs0 : z.cells.size = k.sz := by simpa using hzl
        refine ⟨by simp [Builtin.zeroCells, hzs0], fun j hj => ?_⟩
        simp only [List.getElem_replicate]
        have hj' : j < len := by simpa using hj
        have hzs : z.cells.size = k.sz := by simpa using hzl
        have e1 : ((Builtin.zeroCells z.cells len).toList.drop (j * k.sz)).take k.sz = z.cells.toList := by
          apply List.ext_getElem?
          intro r
          rw [List.getElem?_take, List.getElem?_drop]
          have h2 := mul_le_of (sz := k.sz) hj'
          by_cases hr' : r < k.sz
          · rw [if_pos hr']
            have h3 : (j * k.sz + r) % k.sz = r := by rw [Nat.mul_comm, Nat.mul_add_mod]; exact Nat.mod_eq_of_lt hr'
            have h4 : j * k.sz + r < len * k.sz := by omega
            have hrz : r < z.cells.size := by omega
            have h5 : z.cells[r]! = z.cells[r] := getElem!_pos z.cells r hrz
            simp [Builtin.zeroCells, h4, hzs, h3, h5, Array.getElem?_eq_getElem hrz]
          · rw [if_neg hr', List.getElem?_eq_none (by rw [hzl]; omega)]
        rw [e1]; exact hz0 m
      have hsp := hg.splice (q := q) (by simpa using hle) hR
      have hnl := hR.1
      rw [List.length_replicate] at hnl
      obtain ⟨_, ⟨rfl, _⟩ | ⟨cap, rfl, h3, h4, h5⟩⟩ := hg
      · simp at hle; omega
      have e1 : (q + len) * k.sz ≤ xs.length * k.sz := Nat.mul_le_mul_right _ hle
      have e2 : xs.length * k.sz ≤ cap * k.sz := Nat.mul_le_mul_right _ h3
      have e3 : 0 < len * k.sz := Nat.mul_pos h0 k.pos
      rw [Nat.add_mul] at e1
      have hne : cs ≠ [] := fun e => by subst e; simp at h4; omega
      obtain ⟨hB, hm, t0, ht0⟩ := hS.own i _ hL hne
      have hrun := storeCells_run (P := P) _ b (q * k.sz) 0 cs t0 w ht0 (by omega) hR.one
      simp only [Nat.add_zero] at hrun
      have hr : Run1 P ⟨none, .call ⟨.builtin .clear, #[x], ts⟩, ty, pos, aft, g⟩ a w (.tuple #[]) (w.setRow b (cs.take (q * k.sz) ++ (Builtin.zeroCells z.cells len).toList ++ cs.drop (q * k.sz + (Builtin.zeroCells z.cells len).toList.length)).toArray) := by
        have hx' := hE.eval hx
        rw [had h0] at hx'
        have hl0 : len ≠ 0 := by omega
        obtain ⟨len', rfl⟩ : ∃ q, len = q + 1 := ⟨len - 1, by omega⟩
        simp only [Run1, execOp, resolve, invoke, builtin, Builtin.clear_]
        simp [hx', ht, run_underlying hu, hz]
        simp at hrun
        simp [hrun]
      exact hr.step ⟨_, hsp, hS.setL hL hne _⟩
  · cases hc
theorem st_copyVV {u : Value} {p q : Nat × Nat} (hE : EnvD δ n a l) (hS : S W0 m w L TL) (hx : evl l x = some v) (hy : evl l y = some u) (hu : P.underlying t = some (.slice e)) (hs : ∀ w, (sizeOf e).run P w = .ok k.sz w) (hL : L[i]? = some (b, cs)) {v0 : Value} (hg : GS k m b cs v0 xs) (hv : VS b k.sz v p.1 p.2) (hw : VS b k.sz u q.1 q.2) (hc : cpv xs p q = some ys) :
    Step P ⟨some d, .call ⟨.builtin .copy, #[x, y], #[t, t2]⟩, ty, pos, aft, g⟩ a w (fun v' w' => v' = .int .i64 (min q.2 p.2 : Nat) ∧ ∃ cs', GS k m b cs' v0 ys ∧ S W0 m w' (L.set i (b, cs')) TL) := by
  unfold cpv at hc
  split at hc
  · rename_i hle
    injection hc with hc; subst hc
    obtain ⟨hle1, hle2⟩ := hle
    have hil : i < L.length := (List.getElem?_eq_some_iff.1 hL).1
    have hsame : L.set i (b, cs) = L := by
      obtain ⟨h1, h2⟩ := List.getElem?_eq_some_iff.1 hL
      rw [← h2]; exact List.set_getElem_self h1
    have hmin : Nat.min q.2 p.2 = min q.2 p.2 := rfl
    obtain ⟨ad, c, rfl, had⟩ := hv
    obtain ⟨ad', c', rfl, had'⟩ := hw
    rcases Nat.eq_zero_or_pos (min q.2 p.2) with h0 | h0
    · have hr : Run1 P ⟨some d, .call ⟨.builtin .copy, #[x, y], #[t, t2]⟩, ty, pos, aft, g⟩ a w (.int .i64 (min q.2 p.2 : Nat)) w := by
        have hfc : (Builtin.firstCells k.sz (min q.2 p.2) (.slice ad' q.2 c')).run P w = .ok #[] w := by
          rw [h0]; cases ad' <;> simp [Builtin.firstCells, loadCells, loadCellsFrom]
        cases ad <;> simp [Run1, execOp, resolve, invoke, builtin, hE.eval hx, hE.eval hy, Builtin.copy_, run_underlying hu, hs, Builtin.lenOf, hmin, hfc, goInt, storeCells]
      exact hr.step ⟨rfl, cs, by simpa [spl, h0] using hg, by rw [hsame]; exact hS⟩
    · have hsp0 := fun (news : List Value) hR => hg.splice (q := p.1) (ys := (xs.drop q.1).take (min q.2 p.2)) (news := news) (by simp; omega) hR
      obtain ⟨_, ⟨rfl, _⟩ | ⟨cap, rfl, h3, h4, h5⟩⟩ := hg
      · simp at hle1; omega
      have e1 : (p.1 + p.2) * k.sz ≤ xs.length * k.sz := Nat.mul_le_mul_right _ hle1
      have e2 : xs.length * k.sz ≤ cap * k.sz := Nat.mul_le_mul_right _ h3
      have e3 : 0 < min q.2 p.2 * k.sz := Nat.mul_pos h0 k.pos
      have e4 : (q.1 + q.2) * k.sz ≤ xs.length * k.sz := Nat.mul_le_mul_right _ hle2
      have e5 : min q.2 p.2 * k.sz ≤ p.2 * k.sz := Nat.mul_le_mul_right _ (Nat.min_le_right _ _)
      have e6 : min q.2 p.2 * k.sz ≤ q.2 * k.sz := Nat.mul_le_mul_right _ (Nat.min_le_left _ _)
      rw [Nat.add_mul] at e1 e4
      have hR := (h5.drop q.1).take (min q.2 p.2)
      have e7 : ((cs.take (xs.length * k.sz)).drop (q.1 * k.sz)).take (min q.2 p.2 * k.sz) = (cs.drop (q.1 * k.sz)).take (min q.2 p.2 * k.sz) := by
        rw [List.drop_take, List.take_take, Nat.min_eq_left (by omega)]
      rw [e7] at hR
      have hsp := hsp0 _ hR
      have hnl : ((cs.drop (q.1 * k.sz)).take (min q.2 p.2 * k.sz)).length = min q.2 p.2 * k.sz := by simp; omega
      have hne : cs ≠ [] := fun e => by subst e; simp at h4; omega
      obtain ⟨hB, hm, t0, ht0⟩ := hS.own i _ hL hne
      have hrun := storeCells_run (P := P) _ b (p.1 * k.sz) 0 cs t0 w ht0 (by omega) hR.one
      simp only [Nat.add_zero] at hrun
      have hA := hS.atL (o := q.1 * k.sz) (cs' := (cs.drop (q.1 * k.sz)).take (min q.2 p.2 * k.sz)) hL (by rw [hnl]) (by omega)
      have hfc : (Builtin.firstCells k.sz (min q.2 p.2) (.slice (some ⟨b, q.1 * k.sz, none⟩) q.2 c')).run P w = .ok ((cs.drop (q.1 * k.sz)).take (min q.2 p.2 * k.sz)).toArray w :=
        run_firstCells_some w _ _ _ _ _ _ hnl (fun j v hj => by rw [add_eq]; exact hA.cell hj)
      have hr : Run1 P ⟨some d, .call ⟨.builtin .copy, #[x, y], #[t, t2]⟩, ty, pos, aft, g⟩ a w (.int .i64 (min q.2 p.2 : Nat)) (w.setRow b (cs.take (p.1 * k.sz) ++ (cs.drop (q.1 * k.sz)).take (min q.2 p.2 * k.sz) ++ cs.drop (p.1 * k.sz + ((cs.drop (q.1 * k.sz)).take (min q.2 p.2 * k.sz)).length)).toArray) := by
        have hx' := hE.eval hx
        have hy' := hE.eval hy
        rw [had (by omega)] at hx'
        rw [had' (by omega)] at hy'
        simp only [Run1, execOp, resolve, invoke, builtin, Builtin.copy_]
        simp [hx', hy', run_underlying hu, hs, Builtin.lenOf, hmin, hfc, goInt]
        simp at hrun
        simp [hrun]
      exact hr.step ⟨rfl, _, hsp, hS.setL hL hne _⟩
  · cases hc
theorem st_litG {ps : Array (Nat × Operand)} {vs : List Value} {xs : List α} {z : Value} (hE : EnvD δ n a l) (hS : S W0 m w L TL) (hp : prt l ps = some (num 0 vs)) (hu : P.underlying t = some (.slice e)) (hs : ∀ w, (sizeOf e).run P w = .ok k.sz w) (hz : ∀ w, (zeroValue e).run P w = .ok z w) (hv : RVl k m vs xs)
    {len : Nat} (hlen : vs.length = len) (hsmall : Nat.ble (len * k.sz) 16777216 = true) :
    Step P ⟨some d, .buildSlice t len ps, ty, pos, aft, g⟩ a w (fun v' w' => ∃ b cs, GS k m b cs v' xs ∧ S W0 m w' ((b, cs) :: L) TL) := by
  have hR := hv.cells
  have hlx := hv.length
  have hsm := Nat.le_of_ble_eq_true hsmall
  subst hlen
  have hpos := k.pos
  have hrun : (Instr.buildSlice t vs.length (ps.map fun p => (p.1, a.eval p.2))).run P w = .ok (.slice (some ⟨w.heap.size, 0, none⟩) vs.length vs.length) (w.alloc (.cells (vcells vs).toArray e)) := by
    have hfill := fun (cs : Array Value) (hcs : cs.size = vs.length * k.sz) => by
      have := fill_num (sz := k.sz) vs 0 cs.toList hv.size (by simp [hcs])
      simpa [hcs, List.take_zero, List.drop_eq_nil_of_le (show cs.toList.length ≤ vs.length * k.sz by simp [hcs])] using this
    simp only [Instr.buildSlice, Sem.run_bind, run_underlying hu, Result.andThen_ok, hs, prt_eval hE hp]
    rw [if_neg (by omega)]
    by_cases h0 : vs.length * k.sz = 0
    · simp only [h0, if_true, Sem.run_bind, Sem.run_pure, Result.andThen_ok]
      have := hfill ((Array.range 0).map (fun x => (#[] : Array Value)[x % (#[] : Array Value).size]!)) (by simp [h0])
      rw [this]
      simp [newRow]
    · simp only [h0, if_false, Sem.run_bind, hz, Sem.run_pure, Result.andThen_ok]
      have := hfill ((Array.range (vs.length * k.sz)).map (fun x => z.cells[x % z.cells.size]!)) (by simp)
      rw [this]
      simp [newRow]
  have hr : Run1 P ⟨some d, .buildSlice t vs.length ps, ty, pos, aft, g⟩ a w (.slice (some ⟨w.heap.size, 0, none⟩) vs.length vs.length) (w.alloc (.cells (vcells vs).toArray e)) := by
    simp [Run1, execOp, hrun]
  refine hr.step ⟨w.heap.size, vcells vs, ?_, hS.allocL (vcells vs) e⟩
  rw [hlx]
  exact GS.of_Rl hR (by rw [← hlx]; unfold maxSz; have := Nat.mul_le_mul_left vs.length hpos; simp at this; omega)
theorem r_indexS {kk : IntKind} {i : Int} {s : List Int} {c : Int} (hE : EnvD δ n a l) (hx : evl l x = some (.string (bts s))) (hy : evl l y = some (.int kk i)) (hu : P.underlying t = some .string) (hs : ∀ n ∈ s, 0 ≤ n ∧ n < 256) (hi : idx s i = some c) :
    Run1 P ⟨some d, .index t x y, ty, pos, aft, g⟩ a w (.int .u8 c) w := by
  obtain ⟨h0, h1, rfl⟩ := idx_some hi
  have e1 : (bts s)[i.toNat]? = some (UInt8.ofNat s[i.toNat].toNat) := by
    show (bts s).data[i.toNat]? = _
    simp [bts, h1]
  simp [Run1, execOp, hE.eval hx, hE.eval hy, Instr.index, asIntOf, run_underlying hu, h0, e1]
  have := hs _ (List.getElem_mem h1)
  omega
end
end Go.Proofs.Ytifobhaccglckaa.Hay
