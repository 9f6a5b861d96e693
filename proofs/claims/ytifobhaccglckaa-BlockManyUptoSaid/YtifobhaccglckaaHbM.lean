import Derived.Test.YtifobhaccglckaaHbL
import Derived.Lib.Bytealg
import Derived.Laws.Externs
import Derived.Laws.Cover3
namespace Go.Proofs.Ytifobhaccglckaa.Hay
open Go.RowKit (Below)

def CallV (P : Program) (fv : Value) (vs : List Value) (w : World) (R : Value → World → Prop) : Prop :=
  ∀ (dst : Option Tmp) (ty : TypeId) (pos : String) (aft : Array Edge) (g : Option (Nat × Bool)) (x : Operand) (xs : Array Operand) (tys : Array TypeId) (a : Act), a.eval x = fv → xs.map a.eval = vs.toArray → Step P ⟨dst, .call ⟨.value x, xs, tys⟩, ty, pos, aft, g⟩ a w R
theorem CallV.of_func {P : Program} {f : FuncId} {first cap : Array Value} {vs : List Value} {w : World} {R : Value → World → Prop} (hcall : ∀ vs w, (callFunc f vs).run P w = .ok (.enter f vs) w) (hc : Calls P f (first ++ vs.toArray ++ cap) w (Ret R)) : CallV P (.func (.func f) first cap) vs w R := by
  intro dst ty pos aft g x xs tys a hx hxs ro Kk Q hk
  have hrun : (execOp a.eval ⟨dst, .call ⟨.value x, xs, tys⟩, ty, pos, aft, g⟩).run P w = .ok (.enter f (first ++ vs.toArray ++ cap)) w := by
    simp [execOp, resolve, hx, Deferred.ofValue, invoke, hxs, hcall]
  refine wpR_enter hrun (hc.mono fun e w' he => ?_)
  cases e with
  | returned v => exact hk v w' he
  | panicked ch => exact he.elim
  | outgrown => exact he.elim
def Fn1 {α β : Type} (P : Program) (ka : Kd α) (kb : Kd β) (m0 : M) (fv : Value) (f : α → Option β) : Prop :=
  ∃ (g : FuncId) (cb : Array Value), fv = .func (.func g) #[] cb ∧ (∀ vs w, (callFunc g vs).run P w = .ok (.enter g vs) w) ∧
    ∀ (W0 : Bse) (m : M) (w : World) (L : List (Nat × List Value)) (TL : List (Nat × Value)) (v : Value) (x : α) (r : β), M.le m0 m → S W0 m w L TL → RV ka m v x → f x = some r → Calls P g (#[v] ++ cb) w (Ret fun v' w' => ∃ m', M.le m m' ∧ S W0 m' w' L TL ∧ RV kb m' v' r)
def Fn2 {α α' β : Type} (P : Program) (ka : Kd α) (ka' : Kd α') (kb : Kd β) (m0 : M) (fv : Value) (f : α → α' → Option β) : Prop :=
  ∃ (g : FuncId) (cb : Array Value), fv = .func (.func g) #[] cb ∧ (∀ vs w, (callFunc g vs).run P w = .ok (.enter g vs) w) ∧
    ∀ (W0 : Bse) (m : M) (w : World) (L : List (Nat × List Value)) (TL : List (Nat × Value)) (v v' : Value) (x : α) (x' : α') (r : β), M.le m0 m → S W0 m w L TL → RV ka m v x → RV ka' m v' x' → f x x' = some r → Calls P g (#[v, v'] ++ cb) w (Ret fun u w' => ∃ m', M.le m m' ∧ S W0 m' w' L TL ∧ RV kb m' u r)
theorem Fn1.mono {α β : Type} {P : Program} {ka : Kd α} {kb : Kd β} {m0 m1 : M} {fv : Value} {f : α → Option β} (h : Fn1 P ka kb m0 fv f) (hm : M.le m0 m1) : Fn1 P ka kb m1 fv f := by
  obtain ⟨g, cb, h0, h1, h⟩ := h
  exact ⟨g, cb, h0, h1, fun W0 m w L TL v x r h1 h2 h3 h4 => h W0 m w L TL v x r (hm.trans h1) h2 h3 h4⟩
theorem Fn2.mono {α α' β : Type} {P : Program} {ka : Kd α} {ka' : Kd α'} {kb : Kd β} {m0 m1 : M} {fv : Value} {f : α → α' → Option β} (h : Fn2 P ka ka' kb m0 fv f) (hm : M.le m0 m1) : Fn2 P ka ka' kb m1 fv f := by
  obtain ⟨g, cb, h0, h1, h⟩ := h
  exact ⟨g, cb, h0, h1, fun W0 m w L TL v v' x x' r h1 h2 h3 h4 h5 => h W0 m w L TL v v' x x' r (hm.trans h1) h2 h3 h4 h5⟩
section
variable {δ : List Nat} {ro : Option Nat} {P : Program} {W0 : Bse} {m : M} {L : List (Nat × List Value)} {TL : List (Nat × Value)} {n : Nat} {a : Act} {l : List (Nat × Value)} {w : World} {ty t t2 e : TypeId} {pos : String} {aft : Array Edge} {g : Option (Nat × Bool)} {x y : Operand} {d : Nat} {α α' β : Type} {k : Kd α} {ka : Kd α} {ka' : Kd α'} {kb : Kd β} {b i : Nat} {cs : List Value}
theorem st_callF1 {xs : Array Operand} {tys : Array TypeId} {fv v : Value} {f : α → Option β} {xx : α} {r : β} (hE : EnvD δ n a l) (hS : S W0 m w L TL) (hx : evl l x = some fv) (ha : argl l xs = some [v]) (hf : Fn1 P ka kb m fv f) (hv : RV ka m v xx) (hr : f xx = some r) :
    Step P ⟨some d, .call ⟨.value x, xs, tys⟩, ty, pos, aft, g⟩ a w (fun v' w' => ∃ m', M.le m m' ∧ S W0 m' w' L TL ∧ RV kb m' v' r) := by
  obtain ⟨g, cb, rfl, h1, h⟩ := hf
  exact CallV.of_func h1 (by simpa using h W0 m w L TL v xx r (M.le.refl m) hS hv hr) _ _ _ _ _ _ _ _ _ (hE.eval hx) (argl_eval hE ha)
theorem st_callF2 {xs : Array Operand} {tys : Array TypeId} {fv v v' : Value} {f : α → α' → Option β} {xx : α} {yy : α'} {r : β} (hE : EnvD δ n a l) (hS : S W0 m w L TL) (hx : evl l x = some fv) (ha : argl l xs = some [v, v']) (hf : Fn2 P ka ka' kb m fv f) (hv : RV ka m v xx) (hv' : RV ka' m v' yy) (hr : f xx yy = some r) :
    Step P ⟨some d, .call ⟨.value x, xs, tys⟩, ty, pos, aft, g⟩ a w (fun u w' => ∃ m', M.le m m' ∧ S W0 m' w' L TL ∧ RV kb m' u r) := by
  obtain ⟨g, cb, rfl, h1, h⟩ := hf
  exact CallV.of_func h1 (by simpa using h W0 m w L TL v v' xx yy r (M.le.refl m) hS hv hv' hr) _ _ _ _ _ _ _ _ _ (hE.eval hx) (argl_eval hE ha)
theorem S.freezeL (h : S W0 m w ((b, cs) :: L) TL) {xx : α} (hR : k.R m cs xx) : ∃ m', M.le m m' ∧ S W0 m' w L TL ∧ PR k m' (.pointer (some ⟨b, 0, none⟩)) xx := by
  have h1 := h.dropL 1
  simp only [List.drop_succ_cons, List.drop_zero] at h1
  have hl := k.len hR
  have hp := k.pos
  have hc : cs ≠ [] := fun e => by subst e; simp at hl; omega
  obtain ⟨hB, hm, t, ht⟩ := h.own 0 (b, cs) rfl hc
  have hle : M.le m (m.put b cs) := M.le_put _ hm
  refine ⟨m.put b cs, hle, ⟨h1.below, fun b' r hb => ?_, fun i e he hv => ?_, h1.nodup, fun i e he => ?_, h1.apart⟩, b, 0, rfl, ?_⟩
  · by_cases hbb : b' = b
    · subst hbb
      rw [M.put_same] at hb; injection hb with hb; subst hb
      exact ⟨_, t, _, [], ht, by simp⟩
    · rw [M.put_other _ _ hbb] at hb; exact h1.imm b' r hb
  · obtain ⟨q1, q2, q3⟩ := h1.own i e he hv
    have hne := h.nodup 0 (i + 1) (b, cs) e rfl (by simpa using he) (by omega) hc hv
    exact ⟨q1, by rw [M.put_other _ _ (fun e => hne e.symm)]; exact q2, q3⟩
  · have hT := h1.tails i e he
    obtain ⟨sz, u⟩ := e
    cases u <;> try exact hT
    rename_i ad len' cap'
    cases ad with
    | none => trivial
    | some ad =>
      obtain ⟨hlt, hT⟩ := hT
      refine ⟨hlt, ?_⟩
      rcases hT with hf | ⟨p0, p1, r, c, t', p2, p3, p4, p5⟩
      · exact .inl hf
      · exact .inr ⟨p0, p1, r, c, t', by rw [M.put_other _ _ (fun e => by rw [e, hm] at p2; cases p2)]; exact p2, p3, p4, p5⟩
  · have : (m.put b cs).row b 0 k.sz = cs := by
      unfold M.row
      rw [M.put_same]
      simp [← hl]
    rw [this]
    exact k.mono hle hR
def cmpB (s u : List Int) : Int := if ltB s u then -1 else if ltB u s then 1 else 0
theorem compareBytes_bts : ∀ {s u : List Int}, (∀ n ∈ s, 0 ≤ n ∧ n < 256) → (∀ n ∈ u, 0 ≤ n ∧ n < 256) → Lib.compareBytes (bts s).data.toList (bts u).data.toList = cmpB s u := by
  intro s u hs hu
  show Lib.compareBytes (s.map (fun n => UInt8.ofNat n.toNat)) (u.map (fun n => UInt8.ofNat n.toNat)) = _
  induction s generalizing u with
  | nil => cases u <;> simp [Lib.compareBytes, cmpB, ltB]
  | cons a x ih =>
    cases u with
    | nil => simp [Lib.compareBytes, cmpB, ltB]
    | cons b y =>
      have ha := hs a (by simp)
      have hb := hu b (by simp)
      have hih := ih (u := y) (fun n hn => hs n (by simp [hn])) (fun n hn => hu n (by simp [hn]))
      have e1 := u8_back ha
      have e2 := u8_back hb
      have h1 : (UInt8.ofNat a.toNat < UInt8.ofNat b.toNat) ↔ a < b := by
        rw [UInt8.lt_iff_toNat_lt]; omega
      have h2 : (UInt8.ofNat b.toNat < UInt8.ofNat a.toNat) ↔ b < a := by
        rw [UInt8.lt_iff_toNat_lt]; omega
      simp only [List.map_cons, Lib.compareBytes, h1, h2, hih]
      unfold cmpB
      simp only [ltB]
      by_cases c1 : a < b
      · simp [c1]
      · by_cases c2 : b < a
        · simp [c1, c2, show ¬ a = b by omega]
        · have : a = b := by omega
          subst this; simp
theorem st_cmpstr {f : FuncId} {fn : Func} {xs : Array Operand} {tys : Array TypeId} {s u : List Int} (hE : EnvD δ n a l) (hf : P.funcs[f]? = some fn) (hname : (fn.name == "runtime.NumGoroutine") = false) (hb : fn.body.isNone = true) (hn : Extern.findNext fn = none) (he : Extern.find fn = some Extern.BytealgCompare.compare)
    (ha : argl l xs = some [.string (bts s), .string (bts u)]) (hs : ∀ n ∈ s, 0 ≤ n ∧ n < 256) (hu : ∀ n ∈ u, 0 ≤ n ∧ n < 256) :
    Run1 P ⟨some d, .call ⟨.value (.func f), xs, tys⟩, ty, pos, aft, g⟩ a w (.int .i64 (cmpB s u)) w := by
  have h1 := run_callFunc_extern hf hname hb hn he #[.string (bts s), .string (bts u)] w
  rw [Lib.run_compareString, compareBytes_bts hs hu] at h1
  simp [Run1, execOp, resolve, Act.eval, Deferred.ofValue, invoke, argl_eval hE ha, h1]
theorem inR_cmpB (s u : List Int) : inR .i64 (cmpB s u) := by
  unfold cmpB
  split
  · exact inR_lit (by decide)
  · split <;> exact inR_lit (by decide)
theorem st_isnil {v : Value} {xs : List α} (hE : EnvD δ n a l) (hx : evl l x = some v) (hy : evl l y = some (.slice none 0 0)) (hv : RV (kSl k) m v xs) (hu : P.underlying t = some (.slice e)) :
    Step P ⟨some d, .binOp .eql t x y t2, ty, pos, aft, g⟩ a w (fun u w' => w = w' ∧ ∃ c, u = .bool c ∧ (c = true → xs = [])) := by
  obtain ⟨ad, cap, rfl, h3, h4, h5⟩ := RV_sl hv
  have hg : (eqGuard .eql t x y (.slice ad xs.length cap) (.slice none 0 0)).run P w = .ok () w := by simp [eqGuard]
  have hr : Run1 P ⟨some d, .binOp .eql t x y t2, ty, pos, aft, g⟩ a w (.bool ad.isNone) w := by
    simp only [Run1, execOp, hE.eval hx, hE.eval hy, Sem.run_bind, hg, Result.andThen_ok]
    simp [binOp, run_equal_slice_nil _ t e ad xs.length cap hu]
  refine hr.step ⟨rfl, _, rfl, fun hc => ?_⟩
  cases ad with
  | none => simp only at h5; exact List.eq_nil_of_length_eq_zero (by omega)
  | some _ => simp at hc
end
section
variable {δ : List Nat} {ro : Option Nat} {P : Program} {ops : Array Oper} {Q : Exit → Act → World → Prop} {rest : List Oper} {a : Act} {w : World} {n : Nat} {l : List (Nat × Value)} {d : Nat} {op : Op} {ty : TypeId} {pos : String} {aft : Array Edge} {v : Value}
theorem sp (hE : EnvD δ n a l) (hr : Run1 P ⟨some d, op, ty, pos, aft, none⟩ a w v w) (hd : Nat.blt d n = true) (k : ∀ a', EnvD δ n a' ((d, v) :: l) → wpL ro P ops Q rest a' w) : wpL ro P ops Q (⟨some d, op, ty, pos, aft, none⟩ :: rest) a w :=
  st hE hr.pure hd fun u a' w' h hE' => by obtain ⟨rfl, rfl⟩ := h; exact k a' hE'
theorem qm {x : Operand} (hE : EnvD δ n a l) (hx : evl l x = some v) (hd : Nat.blt d n = true) (k : ∀ a', EnvD δ n a' ((d, v) :: l) → wpL ro P ops Q rest a' w) : wpL ro P ops Q (⟨some d, .move x, ty, pos, aft, none⟩ :: rest) a w := sp hE (r_move hE hx) hd k
theorem qa {x : Operand} (hE : EnvD δ n a l) (hx : evl l x = some v) (hd : Nat.blt d n = true) (k : ∀ a', EnvD δ n a' ((d, v) :: l) → wpL ro P ops Q rest a' w) : wpL ro P ops Q (⟨some d, .assign x, ty, pos, aft, none⟩ :: rest) a w := sp hE (r_assign hE hx) hd k
theorem oi {α : Type} {x y : α} (h : some x = some y) : x = y := Option.some.inj h
theorem cb {b c : Bool} (h : b = c) : Value.bool b = Value.bool c := congrArg Value.bool h
theorem spg {og : Oper} {g dg : Nat} {b c : Bool} (hE : EnvD δ n a l) (hg : ops[g]? = some og) (ho : og.dst = some dg) (hdg : Nat.blt dg n = true) (hl : lk l dg = some (.bool c)) (hc : c = b)
    (hr : Run1 P ⟨some d, op, ty, pos, aft, some (g, b)⟩ a w v w) (hd : Nat.blt d n = true) (k : ∀ a', EnvD δ n a' ((d, v) :: l) → wpL ro P ops Q rest a' w) : wpL ro P ops Q (⟨some d, op, ty, pos, aft, some (g, b)⟩ :: rest) a w :=
  stg hE hg ho hdg hl hc hr.pure hd fun u a' w' h hE' => by obtain ⟨rfl, rfl⟩ := h; exact k a' hE'
theorem ob {α β : Type} {x : Option α} {f : α → Option β} {r : β} (h : x.bind f = some r) : ∃ y, x = some y ∧ f y = some r := Option.bind_eq_some_iff.1 h
end
end Go.Proofs.Ytifobhaccglckaa.Hay
