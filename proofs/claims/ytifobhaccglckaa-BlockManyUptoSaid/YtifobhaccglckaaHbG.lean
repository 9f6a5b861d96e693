import Derived.Test.YtifobhaccglckaaHbF
import Derived.Laws.BytesArg
import Derived.Laws.MakeOwn
import Derived.Laws.Strings
import Derived.Laws.Slices
namespace Go.Proofs.Ytifobhaccglckaa.Hay
open Go.RowKit (Below)

def num : Nat → List Value → List (Nat × Value)
  | _, [] => []
  | k, v :: vs => (k, v) :: num (k + 1) vs
def RVl {α : Type} (k : Kd α) (m : M) : List Value → List α → Prop
  | [], [] => True
  | v :: vs, x :: xs => RV k m v x ∧ RVl k m vs xs
  | _, _ => False
def vcells (vs : List Value) : List Value := vs.flatMap fun v => v.cells.toList
theorem RVl.cells {α : Type} {k : Kd α} {m : M} : ∀ {vs : List Value} {xs : List α}, RVl k m vs xs → Rl k m (vcells vs) xs
  | [], [], _ => Rl.nil
  | v :: vs, x :: xs, h => by
    obtain ⟨⟨cs, hR, rfl⟩, h2⟩ := h
    have h1 : Rl k m (k.val cs).cells.toList [x] := by rw [k.val_cells hR]; exact Rl.single hR
    exact Rl.app h1 (RVl.cells h2)
theorem RVl.size {α : Type} {k : Kd α} {m : M} : ∀ {vs : List Value} {xs : List α}, RVl k m vs xs → ∀ v ∈ vs, v.cells.size = k.sz
  | [], _, _, v, hv => by simp at hv
  | u :: vs, x :: xs, h, v, hv => by
    obtain ⟨⟨cs, hR, rfl⟩, h2⟩ := h
    rcases List.mem_cons.1 hv with rfl | hv
    · rw [k.val_cells hR]; simpa using k.len hR
    · exact RVl.size h2 v hv
theorem RVl.length {α : Type} {k : Kd α} {m : M} : ∀ {vs : List Value} {xs : List α}, RVl k m vs xs → vs.length = xs.length
  | [], [], _ => rfl
  | u :: vs, x :: xs, h => by simp [RVl.length h.2]
theorem foldl_set (off : Nat) : ∀ (vs : List Value) (j : Nat) (cs : List Value), off + j + vs.length ≤ cs.length →
    (vs.zipIdx j).foldl (fun (cs : Array Value) (p : Value × Nat) => cs.setIfInBounds (off + p.2) p.1) cs.toArray = (cs.take (off + j) ++ vs ++ cs.drop (off + j + vs.length)).toArray
  | [], j, cs, _ => by simp
  | v :: vs, j, cs, h => by
    simp only [List.length_cons] at h
    rw [List.zipIdx_cons, List.foldl_cons]
    simp only [List.setIfInBounds_toArray]
    rw [foldl_set off vs (j + 1) _ (by simp; omega)]
    congr 1
    rw [show off + (j + 1) = off + j + 1 by omega, List.take_set, List.drop_set_of_lt (by omega), List.length_cons, show off + j + 1 + vs.length = off + j + (vs.length + 1) by omega]
    rw [List.take_succ_eq_append_getElem (by omega), List.set_append_right _ _ (by simp; omega)]
    simp [Nat.min_eq_left (show off + j ≤ cs.length by omega)]
theorem fill_num {sz : Nat} : ∀ (vs : List Value) (k : Nat) (cs : List Value), (∀ v ∈ vs, v.cells.size = sz) → (k + vs.length) * sz ≤ cs.length →
    Instr.fill (fun i => some (i * sz, sz)) cs.toArray (num k vs) = some (cs.take (k * sz) ++ vcells vs ++ cs.drop ((k + vs.length) * sz)).toArray
  | [], k, cs, _, _ => by simp [Instr.fill, num, vcells]
  | v :: vs, k, cs, h, hl => by
    have hv := h v (by simp)
    have e1 : (k + 1) * sz + vs.length * sz = (k + (v :: vs).length) * sz := by rw [← Nat.add_mul]; congr 1; simp; omega
    have e2 : (k + 1) * sz = k * sz + sz := by rw [Nat.add_mul]; simp
    have hle : k * sz + sz ≤ cs.length := by
      have : (k + 1) * sz ≤ (k + (v :: vs).length) * sz := Nat.mul_le_mul_right _ (by simp)
      omega
    simp only [num, Instr.fill]
    have hz : ((v.cells.zipIdx).foldl (fun (cs : Array Value) (p : Value × Nat) => cs.setIfInBounds (k * sz + p.2) p.1) cs.toArray) = (cs.take (k * sz) ++ v.cells.toList ++ cs.drop (k * sz + sz)).toArray := by
      have := foldl_set (k * sz) v.cells.toList 0 cs (by simp [hv]; omega)
      simp only [Nat.add_zero, Array.length_toList, hv] at this
      rw [← this, ← Array.foldl_toList, Array.toList_zipIdx]
    have hc : (decide (v.cells.size ≠ sz) || decide (k * sz + v.cells.size > cs.toArray.size)) = false := by simp [hv]; omega
    rw [if_neg (by rw [hc]; simp)]
    have := fill_num vs (k + 1) (cs.take (k * sz) ++ v.cells.toList ++ cs.drop (k * sz + sz)) (fun u hu => h u (by simp [hu])) (by
      have h9 : (k + 1 + vs.length) * sz = (k + (v :: vs).length) * sz := by congr 1; simp; omega
      have h10 : (cs.take (k * sz) ++ v.cells.toList ++ cs.drop (k * sz + sz)).length = cs.length := by simp [hv]; omega
      rw [h9, h10]
      exact hl)
    refine Eq.trans ?_ (this.trans ?_)
    · congr 1
    · congr 2
      have l1 : (cs.take (k * sz) ++ v.cells.toList).length = (k + 1) * sz := by simp [hv]; omega
      rw [List.take_append_of_le_length (by omega), List.take_of_length_le (by omega)]
      have l2 : (k + 1 + vs.length) * sz = (k + 1) * sz + vs.length * sz := by rw [Nat.add_mul]
      rw [List.drop_append, List.drop_eq_nil_of_le (by rw [l1]; omega), l1, List.nil_append, List.drop_drop]
      simp only [vcells, List.flatMap_cons, List.append_assoc]
      congr 4
      rw [← e1]; omega
section
variable {δ : List Nat} {ro : Option Nat} {P : Program} {W0 : Bse} {m : M} {L : List (Nat × List Value)} {TL : List (Nat × Value)} {n : Nat} {a : Act} {l : List (Nat × Value)} {w : World} {ty t t2 e : TypeId} {pos : String} {aft : Array Edge} {g : Option (Nat × Bool)} {x y : Operand} {d : Nat} {α : Type} {k : Kd α} {by_ N : Nat}
theorem lenOf_sl {v : Value} {xs : List α} (hv : RV (kSl k) m v xs) (w : World) : (Builtin.lenOf v).run P w = .ok xs.length w := by
  obtain ⟨ad, cap, rfl, _⟩ := RV_sl hv
  simp [Builtin.lenOf]
theorem st_app {i : Nat} {v u : Value} {xs ys zs : List α} (hE : EnvD δ n a l) (hS : S W0 m w L TL) (hx : evl l x = some v) (hy : evl l y = some u) (hu : P.underlying t = some (.slice e)) (hu2 : P.underlying t2 = some (.slice e)) (hel : ElOK P e k.sz by_) (hT : TL[i]? = some (k.sz, v)) (hv : RV (kSl k) m v xs) (hw : RV (kSl k) m u ys) (happ : app N xs ys = some zs)
    (hN : Nat.ble (N * by_) 140737488355328 = true) (hM : Nat.ble N 281474976710656 = true) :
    Step P ⟨some d, .call ⟨.builtin .append, #[x, y], #[t, t2]⟩, ty, pos, aft, g⟩ a w (fun v' w' => ∃ m', M.le m m' ∧ S W0 m' w' L (TL.set i (k.sz, v')) ∧ RV (kSl k) m' v' zs) := by
  obtain ⟨hle, rfl⟩ := app_some happ
  obtain ⟨news, hR, hf, _⟩ := firstCells_run (P := P) hS hw
  obtain ⟨v', m', w', hrun, h1, h2, h3⟩ := append_cells (tx := t2) (ty := ty) hS hu (.inl ⟨e, hu2⟩) hel hT hv (lenOf_sl hw w) hf hR
    (by have := Nat.mul_le_mul_right by_ hle; have := Nat.le_of_ble_eq_true hN; omega) (by have := Nat.le_of_ble_eq_true hM; unfold maxSz; omega)
  have hr : Run1 P ⟨some d, .call ⟨.builtin .append, #[x, y], #[t, t2]⟩, ty, pos, aft, g⟩ a w v' w' := by
    simp [Run1, execOp, resolve, invoke, builtin, hE.eval hx, hE.eval hy, hrun]
  exact hr.step ⟨m', h1, h2, h3⟩
theorem bts_cells {m : M} {s : List Int} (hs : ∀ n ∈ s, 0 ≤ n ∧ n < 256) : Rl (kInt .u8) m (s.map (Value.int .u8)) s := by
  refine ⟨by simp [kInt], fun i hi => ?_⟩
  have hb := hs s[i] (List.getElem_mem hi)
  refine ⟨?_, ?_⟩
  · simp only [kInt, Nat.mul_one]
    rw [List.drop_eq_getElem_cons (by simpa using hi)]
    simp
  · unfold inR IntKind.wrap
    simp [IntKind.bits, IntKind.signed]
    omega
theorem u8_back {n : Int} (h : 0 ≤ n ∧ n < 256) : ((UInt8.ofNat n.toNat).toNat : Int) = n := by
  simp [UInt8.toNat_ofNat']
  omega
theorem st_appS {i : Nat} {v : Value} {s : List Int} {xs zs : List Int} (hE : EnvD δ n a l) (hS : S W0 m w L TL) (hx : evl l x = some v) (hy : evl l y = some (.string (bts s))) (hu : P.underlying t = some (.slice e)) (hu2 : P.underlying t2 = some .string) (hel : ElOK P e 1 by_) (hT : TL[i]? = some (1, v)) (hv : RV (kSl (kInt .u8)) m v xs) (hs : ∀ n ∈ s, 0 ≤ n ∧ n < 256) (happ : app N xs s = some zs)
    (hN : Nat.ble (N * by_) 140737488355328 = true) (hM : Nat.ble N 281474976710656 = true) :
    Step P ⟨some d, .call ⟨.builtin .append, #[x, y], #[t, t2]⟩, ty, pos, aft, g⟩ a w (fun v' w' => ∃ m', M.le m m' ∧ S W0 m' w' L (TL.set i (1, v')) ∧ RV (kSl (kInt .u8)) m' v' zs) := by
  obtain ⟨hle, rfl⟩ := app_some happ
  have hf : ∀ w', (∀ b, b < w.heap.size → w'.heap[b]? = w.heap[b]?) → (Builtin.firstCells (kInt .u8).sz s.length (.string (bts s))).run P w' = .ok (s.map (Value.int .u8)).toArray w' := fun w' _ => by
    have h1 : (bts s).extract 0 s.length = bts s := by
      have := bts_size s
      rw [← this]
      exact ByteArray.extract_zero_size
    simp only [Builtin.firstCells, h1, Sem.run_pure]
    congr 1
    apply Array.ext'
    simp only [bts, Array.toList_map, List.map_map]
    apply List.map_congr_left
    intro n hn
    show Value.int .u8 ((UInt8.ofNat n.toNat).toNat : Int) = Value.int .u8 n
    rw [u8_back (hs n hn)]
  obtain ⟨v', m', w', hrun, h1, h2, h3⟩ := append_cells (k := kInt .u8) (tx := t2) (ty := ty) (u := .string (bts s)) (ys := s) (news := s.map (Value.int .u8)) hS hu (.inr hu2) hel hT hv (by simp [Builtin.lenOf, bts_size]) hf (bts_cells hs)
    (by have := Nat.mul_le_mul_right by_ hle; have := Nat.le_of_ble_eq_true hN; omega) (by have := Nat.le_of_ble_eq_true hM; unfold maxSz; omega)
  have hr : Run1 P ⟨some d, .call ⟨.builtin .append, #[x, y], #[t, t2]⟩, ty, pos, aft, g⟩ a w v' w' := by
    simp [Run1, execOp, resolve, invoke, builtin, hE.eval hx, hE.eval hy, hrun]
  exact hr.step ⟨m', h1, h2, h3⟩
def prt (l : List (Nat × Value)) (ps : Array (Nat × Operand)) : Option (List (Nat × Value)) := ps.toList.mapM fun p => (evl l p.2).map fun v => (p.1, v)
theorem prt_eval (hE : EnvD δ n a l) {ps : Array (Nat × Operand)} {vs : List (Nat × Value)} (h : prt l ps = some vs) : (ps.map fun p => (p.1, a.eval p.2)).toList = vs := by
  obtain ⟨ps⟩ := ps
  unfold prt at h
  simp only at h
  have : ∀ (ps : List (Nat × Operand)) (vs : List (Nat × Value)), (ps.mapM fun p => (evl l p.2).map fun v => (p.1, v)) = some vs → ps.map (fun p => (p.1, a.eval p.2)) = vs := by
    intro ps
    induction ps with
    | nil => intro vs h; simp at h; simp [h]
    | cons p r ih =>
      intro vs h
      simp only [List.mapM_cons, Option.bind_eq_bind, Option.pure_def] at h
      cases hx : evl l p.2 with
      | none => simp [hx] at h
      | some v =>
        cases hr : r.mapM (fun p => (evl l p.2).map fun v => (p.1, v)) with
        | none => simp [hx, hr] at h
        | some us =>
          simp [hx, hr] at h
          subst h
          simp [hE.eval hx, ih us hr]
  simp [this ps vs h]
theorem st_lit {ps : Array (Nat × Operand)} {vs : List Value} {xs : List α} {z : Value} (hE : EnvD δ n a l) (hS : S W0 m w L TL) (hp : prt l ps = some (num 0 vs)) (hu : P.underlying t = some (.slice e)) (hs : ∀ w, (sizeOf e).run P w = .ok k.sz w) (hz : ∀ w, (zeroValue e).run P w = .ok z w) (hv : RVl k m vs xs)
    {len : Nat} (hlen : vs.length = len) (hsmall : Nat.ble (len * k.sz) 16777216 = true) :
    Step P ⟨some d, .buildSlice t len ps, ty, pos, aft, g⟩ a w (fun v' w' => ∃ m', M.le m m' ∧ S W0 m' w' L ((k.sz, v') :: TL) ∧ RV (kSl k) m' v' xs) := by
  have hR := hv.cells
  have hlx := hv.length
  have hsm := Nat.le_of_ble_eq_true hsmall
  subst hlen
  have hpos := k.pos
  have hzl : ∃ zs : List Value, zs.length = vs.length * k.sz ∧ (Instr.buildSlice t vs.length (ps.map fun p => (p.1, a.eval p.2))).run P w = .ok (.slice (some ⟨w.heap.size, 0, none⟩) vs.length vs.length) (w.alloc (.cells (vcells vs).toArray e)) := by
    refine ⟨List.replicate (vs.length * k.sz) undef, by simp, ?_⟩
    have hfill := fun (cs : Array Value) (hcs : cs.size = vs.length * k.sz) => by
      have := fill_num (sz := k.sz) vs 0 cs.toList hv.size (by simp [hcs])
      simpa [hcs, List.take_zero, List.drop_eq_nil_of_le (show cs.toList.length ≤ vs.length * k.sz by simp [hcs])] using this
    simp only [Instr.buildSlice, Sem.run_bind, run_underlying hu, Result.andThen_ok, hs, prt_eval hE hp]
    rw [if_neg (by omega)]
    by_cases h0 : vs.length * k.sz = 0
    · simp only [h0, if_true, Sem.run_bind, Sem.run_pure, Result.andThen_ok]
      have := hfill ((Array.range 0).map (fun x => (#[] : Array Value)[x % (#[] : Array Value).size]!)) (by simp [h0])
      rw [this]
      simp [newRow]
    · simp only [h0, if_false, Sem.run_bind, hz, Sem.run_pure, Result.andThen_ok]
      have := hfill ((Array.range (vs.length * k.sz)).map (fun x => z.cells[x % z.cells.size]!)) (by simp)
      rw [this]
      simp [newRow]
  obtain ⟨_, _, hrun⟩ := hzl
  have hr : Run1 P ⟨some d, .buildSlice t vs.length ps, ty, pos, aft, g⟩ a w (.slice (some ⟨w.heap.size, 0, none⟩) vs.length vs.length) (w.alloc (.cells (vcells vs).toArray e)) := by
    simp [Run1, execOp, hrun]
  obtain ⟨hle, hS'⟩ := hS.allocM (vcells vs) e
  refine hr.step ⟨_, hle, ?_, ?_⟩
  · refine ⟨hS'.below, hS'.imm, hS'.own, hS'.nodup, fun i e' he => ?_, fun i j e1 e2 he1 he2 hij => ?_⟩
    · cases i with
      | zero => simp at he; subst he; exact ⟨by simp, .inl rfl⟩
      | succ i => exact hS'.tails i e' (by simpa using he)
    · have old : ∀ (i : Nat) (e' : Nat × Value), TL[i]? = some e' → sblk e'.2 ≠ some w.heap.size := fun i e' he hb => by
        have := tail_lt (hS.tails i e' he) hb; omega
      intro b hb hb'
      cases i with
      | zero =>
        simp at he1; subst he1
        cases j with
        | zero => omega
        | succ j => simp [sblk] at hb; subst hb; exact old j e2 (by simpa using he2) hb'
      | succ i =>
        cases j with
        | zero => simp at he2; subst he2; simp [sblk] at hb'; subst hb'; exact old i e1 (by simpa using he1) hb
        | succ j => exact hS'.apart i j e1 e2 (by simpa using he1) (by simpa using he2) (by omega) b hb hb'
  · rw [hlx]
    refine RV_of_sl (Nat.le_refl _) (by unfold maxSz; have := Nat.mul_le_mul_left vs.length hpos; simp at this; omega) ⟨fun _ => rfl, ?_⟩
    exact row_of_Rl (M.put_same _ _ _) (hR.mono hle) (by simp)
def mk {α : Type} (N : Nat) (n : Int) (z : α) : Option (List α) := if 0 ≤ n ∧ n ≤ (N : Int) then some (List.replicate n.toNat z) else none
theorem st_make {kk kc : IntKind} {i : Int} {xs : List α} {x0 : α} {inf : TypeInfo} {z : Value} (hE : EnvD δ n a l) (hS : S W0 m w L TL) (hx : evl l x = some (.int kk i)) (hy : evl l y = some (.int kc i)) (hu : P.underlying t = some (.slice e)) (hi : P.info? e = some inf) (hz : inf.zero = some z) (hsz : inf.size = k.sz) (hby : inf.bytes = by_) (hz0 : ∀ m, k.R m z.cells.toList x0)
    (hmk : mk N i x0 = some xs) (hN : Nat.ble (N * by_) 281474976710656 = true) (hM : Nat.ble N 281474976710656 = true) :
    Step P ⟨some d, .makeSlice t x y, ty, pos, aft, g⟩ a w (fun v w' => ∃ b cs, v = .slice (some ⟨b, 0, none⟩) xs.length xs.length ∧ Rl k m cs xs ∧ S W0 m w' ((b, cs) :: L) TL) := by
  unfold mk at hmk
  split at hmk
  · rename_i h0
    injection hmk with hmk
    subst hmk
    have hb := Nat.le_of_ble_eq_true hN
    have hM' := Nat.le_of_ble_eq_true hM
    have hrun := run_make (P := P) w t e inf z hu hi hz kk kc i i h0.1 (Int.le_refl _) (by
      rw [hby]
      have h1 : (by_ : Int) * i ≤ by_ * N := Int.mul_le_mul_of_nonneg_left h0.2 (by omega)
      have h2 : ((N * by_ : Nat) : Int) = by_ * N := by rw [Int.natCast_mul, Int.mul_comm]
      omega) (by omega)
    have hr : Run1 P ⟨some d, .makeSlice t x y, ty, pos, aft, g⟩ a w (.slice (some ⟨w.heap.size, 0, none⟩) i.toNat i.toNat) (w.alloc (.cells (madeCells z.cells (i.toNat * inf.size)) e)) := by
      simp [Run1, execOp, hE.eval hx, hE.eval hy, hrun]
    have hzl := k.len (hz0 m)
    have hpos := k.pos
    have hcells : ∀ q : Nat, Rl k m (madeCells z.cells (q * k.sz)).toList (List.replicate q x0) := fun q => by
      refine ⟨by simp [madeCells], fun j hj => ?_⟩
      simp only [List.getElem_replicate]
      have hj' : j < q := by simpa using hj
      have e1 : ((madeCells z.cells (q * k.sz)).toList.drop (j * k.sz)).take k.sz = z.cells.toList := by
        apply List.ext_getElem?
        intro r
        rw [List.getElem?_take, List.getElem?_drop]
        have h2 : j * k.sz + k.sz ≤ q * k.sz := by
          have := Nat.mul_le_mul_right k.sz (show j + 1 ≤ q by omega)
          rw [Nat.add_mul] at this; omega
        by_cases hr' : r < k.sz
        · rw [if_pos hr']
          have hzs : z.cells.size = k.sz := by simpa using hzl
          have h3 : (j * k.sz + r) % k.sz = r := by rw [Nat.mul_comm, Nat.mul_add_mod]; exact Nat.mod_eq_of_lt hr'
          have h4 : j * k.sz + r < q * k.sz := by omega
          have hrz : r < z.cells.size := by omega
          have h5 : z.cells[r]! = z.cells[r] := getElem!_pos z.cells r hrz
          simp [madeCells, h4, hzs, h3, h5, Array.getElem?_eq_getElem hrz]
        · rw [if_neg hr']
          have hzs : z.cells.toList.length = k.sz := hzl
          rw [List.getElem?_eq_none (by omega)]
      rw [e1]; exact hz0 m
    refine hr.step ⟨w.heap.size, _, by simp, hcells i.toNat, ?_⟩
    have := hS.allocL (madeCells z.cells (i.toNat * k.sz)).toList e
    rw [hsz]
    simpa using this
  · cases hmk
theorem r_bytes {v : Value} {xs : List Int} (hE : EnvD δ n a l) (hS : S W0 m w L TL) (hx : evl l x = some v) (hs : P.underlying t = some (.slice e)) (he : P.underlying e = some (.int .u8)) (h2 : P.underlying t2 = some .string) (hv : RV (kSl (kInt .u8)) m v xs) :
    Run1 P ⟨some d, .convert t t2 x, ty, pos, aft, g⟩ a w (.string (bts xs)) w := by
  obtain ⟨ad, cap, rfl, h3, h4, h5⟩ := RV_sl hv
  cases ad with
  | none =>
    simp only at h5
    have : xs = [] := List.eq_nil_of_length_eq_zero (by omega)
    subst this
    have hr := run_convert_bytes_nil (P := P) w t e hs he ([] : List Int).length cap t2 h2
    simp only [Run1, execOp, hE.eval hx, Sem.run_bind, hr]
    rfl
  | some ad =>
    obtain ⟨b, o, sp⟩ := ad
    obtain ⟨hsp, hR⟩ := h5
    rcases Nat.eq_zero_or_pos cap with hc0 | hc0
    · have : xs = [] := List.eq_nil_of_length_eq_zero (by omega)
      subst this
      have hr : (convert t t2 (.slice (some ⟨b, o, sp⟩) 0 cap)).run P w = .ok (.string (bts [])) w := by
        rw [run_convert_bytes_string w t t2 e _ 0 cap hs he h2]
        simp [Conv.bytesToString, loadCells, loadCellsFrom]
        rfl
      simp only [Run1, execOp, hE.eval hx, Sem.run_bind, List.length_nil, hr]
      rfl
    replace hsp := hsp hc0
    simp only at hsp; subst hsp
    have hcell : ∀ i, i < xs.length → w.cell? ⟨b, o + i, none⟩ = some (.int .u8 (xs.getD i 0)) := fun i hi => by
      have h1 := hR i hi
      simp only [kInt, Nat.mul_one] at h1
      have hA := hS.atM (b := b) (o := o + i) (sz := 1) (by rw [h1.1]; rfl) (by decide)
      rw [h1.1] at hA
      have := hA.cell (j := 0) rfl
      simpa [List.getD, List.getElem?_eq_getElem hi] using this
    have hr := run_convert_bytes_arg (P := P) w t e hs he b o xs.length cap xs rfl hcell t2 h2
    simp only [Run1, execOp, hE.eval hx, Sem.run_bind, hr]
    rfl
theorem bts_inj {s u : List Int} (hs : ∀ n ∈ s, 0 ≤ n ∧ n < 256) (hu : ∀ n ∈ u, 0 ≤ n ∧ n < 256) : ((bts s).toList == (bts u).toList) = decide (s = u) := by
  rw [ByteArray.toList_eq, ByteArray.toList_eq]
  show (s.map (fun n => UInt8.ofNat n.toNat) == u.map (fun n => UInt8.ofNat n.toNat)) = _
  rw [Bool.eq_iff_iff, beq_iff_eq, decide_eq_true_iff]
  constructor
  · intro h
    have h1 := congrArg (List.map fun c : UInt8 => (c.toNat : Int)) h
    simp only [List.map_map] at h1
    have key : ∀ s : List Int, (∀ n ∈ s, 0 ≤ n ∧ n < 256) → s.map ((fun c : UInt8 => (c.toNat : Int)) ∘ fun n => UInt8.ofNat n.toNat) = s := fun s hs => by
      conv => rhs; rw [← List.map_id s]
      exact List.map_congr_left fun n hn => u8_back (hs n hn)
    rw [key s hs, key u hu] at h1
    exact h1
  · intro h; rw [h]
def ltB : List Int → List Int → Bool
  | _, [] => false
  | [], _ :: _ => true
  | a :: x, b :: y => decide (a < b) || (a == b && ltB x y)
theorem st_call {f : FuncId} {xs : Array Operand} {tys : Array TypeId} {vs : List Value} {R : Value → World → Prop} (hE : EnvD δ n a l) (ha : argl l xs = some vs) (hcall : ∀ vs w, (callFunc f vs).run P w = .ok (.enter f vs) w) (hc : Calls P f vs.toArray w (Ret R)) :
    Step P ⟨some d, .call ⟨.value (.func f), xs, tys⟩, ty, pos, aft, g⟩ a w R := by
  intro ro Kk Q hk
  have hrun : (execOp a.eval ⟨some d, .call ⟨.value (.func f), xs, tys⟩, ty, pos, aft, g⟩).run P w = .ok (.enter f vs.toArray) w := by
    simp [execOp, resolve, Act.eval, Deferred.ofValue, invoke, argl_eval hE ha, hcall]
  refine wpR_enter hrun (hc.mono fun e w' he => ?_)
  cases e with
  | returned v => exact hk v w' he
  | panicked ch => exact he.elim
  | outgrown => exact he.elim
end
end Go.Proofs.Ytifobhaccglckaa.Hay
