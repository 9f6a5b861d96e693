import Derived.Test.YtifobhaccglckaaHbR
namespace Go.Proofs.Ytifobhaccglckaa.Hay
open Go.RowKit
theorem R_of_RVsl {α : Type} {k : Kd α} {m : M} {v : Value} {xs : List α} (h : RV (kSl k) m v xs) : (kSl k).R m [v] xs := by
  obtain ⟨cs, hR, rfl⟩ := h
  have h0 := hR
  obtain ⟨a, len, cap, rfl, h⟩ := h0
  exact hR
section
variable {δ : List Nat} {ro : Option Nat} {P : Program} {W0 : Bse} {m : M} {L : List (Nat × List Value)} {TL : List (Nat × Value)} {n : Nat} {a : Act} {l : List (Nat × Value)} {w : World} {ty t t2 e : TypeId} {pos : String} {aft : Array Edge} {g : Option (Nat × Bool)} {x y : Operand} {d : Nat} {α : Type} {k : Kd α}
theorem st_loadSl {i b : Nat} {v : Value} {xx : List α} (hE : EnvD δ n a l) (hS : S W0 m w L TL) (hT : TyOK P t (kSl k)) (hx : evl l x = some (.pointer (some ⟨b, 0, none⟩))) (hL : L[i]? = some (b, [v])) (hv : RV (kSl k) m v xx) :
    Run1 P ⟨some d, .load t x, ty, pos, aft, g⟩ a w v w := by
  have hR := R_of_RVsl hv
  have hA : At w b 0 (([v].drop 0).take (kSl k).sz) := hS.atL hL (by simp [kSl]) (by simp [kSl])
  have e : (([v].drop 0).take (kSl k).sz) = [v] := rfl
  rw [e] at hA
  have : (kSl k).val [v] = v := rfl
  have hr := run_load_val hT hR hA
  rw [this] at hr
  simp [Run1, execOp, Instr.loadAt, hE.eval hx, Instr.sureAddr, hr]
theorem st_storeSl {i b : Nat} {v v0 : Value} {yy : List α} (hE : EnvD δ n a l) (hS : S W0 m w L TL) (hT : TyOK P t (kSl k)) (hx : evl l x = some (.pointer (some ⟨b, 0, none⟩))) (hy : evl l y = some v) (hv : RV (kSl k) m v yy) (hL : L[i]? = some (b, [v0])) :
    Step P ⟨none, .store t x y, ty, pos, aft, g⟩ a w (fun _ w' => S W0 m w' (L.set i (b, [v])) TL) := by
  have hR := R_of_RVsl hv
  obtain ⟨hB, hm, t', ht⟩ := hS.own i _ hL (by simp)
  have hrun := storeCells_run (P := P) [v] b 0 0 [v0] t' w ht (by simp) ((kSl k).one hR)
  have hr : Run0 P ⟨none, .store t x y, ty, pos, aft, g⟩ a w (w.setRow b [v].toArray) := by
    have hsz := hT.size w
    have hc : v.cells = #[v] := by have := k.pos; have := (kSl k).val_cells hR; exact this
    simp only [Run0, execOp, hE.eval hx, hE.eval hy, Instr.storeAt, Instr.sureAddr, Sem.run_bind, Sem.run_pure, Result.andThen_ok, storeVar, hc, hsz]
    have h2 : (storeCells { block := b, off := 0 } [v]).run P w = .ok () (w.setRow b #[v]) := by simpa using hrun
    simp [kSl, h2]
  exact hr.step (hS.setL hL (by simp) _)
theorem r_eqnilF {v : Value} {α : Type} {Rv : M → List Value → α → Prop} {xs : List α} {ps rs : Array TypeId} {vr : Bool} (hE : EnvD δ n a l) (hx : evl l x = some v) (hy : evl l y = some .nilFunc) (hu : P.underlying t = some (.func ps rs vr)) (hv : ItV P Rv m v xs) :
    Run1 P ⟨some d, .binOp .eql t x y t2, ty, pos, aft, g⟩ a w (.bool false) w := by
  obtain ⟨gf, lb, rfl, _⟩ := hv
  have h : ∀ d : Nat, (Op.equalIn (d + 1) t (.func (.func gf) #[] lb) .nilFunc).run P w = .ok false w := fun d => by
    simp [Op.equalIn, run_underlying hu]
  have hb : (binOp .eql t (.func (.func gf) #[] lb) .nilFunc).run P w = .ok (.bool false) w := by
    simp only [binOp]
    simp [Op.equal, Op.maxDepth, h 9999]
  have hg : (eqGuard .eql t x y (.func (.func gf) #[] lb) .nilFunc).run P w = .ok () w := by simp [eqGuard]
  simp only [Run1, execOp, hE.eval hx, hE.eval hy, Sem.run_bind, hg, Result.andThen_ok, hb, Sem.run_pure]
end
end Go.Proofs.Ytifobhaccglckaa.Hay
