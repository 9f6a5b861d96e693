import Derived.Test.YtifobhaccglckaaRows
import Derived.Test.YtifobhaccglckaaHayRow
import Derived.Test.YtifobhaccglckaaSeT
import Derived.Test.YtifobhaccglckaaHayS
/- What the seat's arguments are, read. -/
namespace Go.Proofs.Ytifobhaccglckaa.Hay
open Go.ChangeShapes Go.WideShapes Go.ChangeAt Go.RowKit
theorem own : ownKnob Try.prog.godebug = none := by kernel_rfl
theorem laidAll : laidOutB Try.prog = true := by kernel_rfl
theorem bulk_one {H : Type} (d : DataW H) : 1 ≤ Rows.uptoBulk d := by
  cases d with
  | lit l => cases l <;> simp [Rows.uptoBulk]
  | nil => simp [Rows.uptoBulk]
  | ptr d => simp [Rows.uptoBulk]
  | slice elems spare => simp [Rows.uptoBulk]
  | agg parts => simp [Rows.uptoBulk]
  | iface t d => simp [Rows.uptoBulk]
  | map entries => simp [Rows.uptoBulk]
  | held h => simp [Rows.uptoBulk]
/-- The seat's measure. -/
def bulk (H : Type) : Bulk H := {
  b := Rows.uptoBulk
  ba := Rows.uptoBulkAll
  str := fun s => by simp [Rows.uptoBulk]
  one := bulk_one
  slice := fun e s => by simp [Rows.uptoBulk]
  agg := fun l => by simp [Rows.uptoBulk]
  nil := by simp [Rows.uptoBulkAll]
  cons := fun d r => by simp [Rows.uptoBulkAll]
  }
theorem rd37 : Rd Try.prog 37 (kSl (kInt .u8)) (fun xs => (xs.map fun _ => 1).sum + 1) := Rd_slice Try.underlying37 (by kernel_rfl) (Rd_int Try.underlying5)
theorem sp3 : Try.prog.readableRec 3 = true ∧ 3 < Try.prog.types.size := ⟨by kernel_rfl, of_decide_eq_true (by kernel_rfl)⟩
theorem sp37 : Try.prog.readableRec 37 = true ∧ 37 < Try.prog.types.size := ⟨by kernel_rfl, of_decide_eq_true (by kernel_rfl)⟩
theorem byt_of {m : M} {v : Value} {xs : List Int} (h : RV (kSl (kInt .u8)) m v xs) : Byt xs := fun c hc => by
  obtain ⟨cs, hR⟩ := (RV_all h).1 c hc
  have := inR_bd.1 hR.2
  have h1 : IntKind.min .u8 = 0 := by decide
  have h2 : IntKind.max .u8 = 255 := by decide
  omega
theorem len37 {xs : List Int} {n : Nat} (h : (xs.map fun _ => 1).sum + 1 ≤ n) (hn : n ≤ 1048576) : xs.length ≤ 1048576 := by
  rw [sum_one] at h; omega
end Go.Proofs.Ytifobhaccglckaa.Hay
