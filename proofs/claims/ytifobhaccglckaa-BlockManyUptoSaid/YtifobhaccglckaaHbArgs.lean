import Derived.Test.YtifobhaccglckaaRows
import Derived.Test.YtifobhaccglckaaHbRow
import Derived.Test.YtifobhaccglckaaHbkT
import Derived.Test.YtifobhaccglckaaHcS
namespace Go.Proofs.Ytifobhaccglckaa.Hay
open Go.ChangeShapes Go.WideShapes Go.ChangeAt Go.RowKit
theorem own : ownKnob Try.prog.godebug = none := by kernel_rfl
theorem laidAll : laidOutB Try.prog = true := by kernel_rfl
theorem bulk_one {H : Type} (d : DataW H) : 1 ≤ Rows.uptoBulk d := by
  cases d with
  | lit l => cases l <;> simp [Rows.uptoBulk]
  | nil => simp [Rows.uptoBulk]
  | ptr d => simp [Rows.uptoBulk]
  | slice elems spare => simp [Rows.uptoBulk]
  | agg parts => simp [Rows.uptoBulk]
  | iface t d => simp [Rows.uptoBulk]
  | map entries => simp [Rows.uptoBulk]
  | held h => simp [Rows.uptoBulk]
def bulk (H : Type) : Bulk H := {
  b := Rows.uptoBulk
  ba := Rows.uptoBulkAll
  str := fun s => by simp [Rows.uptoBulk]
  one := bulk_one
  slice := fun e s => by simp [Rows.uptoBulk]
  agg := fun l => by simp [Rows.uptoBulk]
  nil := by simp [Rows.uptoBulkAll]
  cons := fun d r => by simp [Rows.uptoBulkAll]
  }
theorem rd3 : Rd Try.prog 3 (kInt .i64) (fun _ => 1) := Rd_int Try.underlying3
def unApi : Int × Bool × Int × List Int → AV := fun x => ⟨x.1, x.2.1, x.2.2.1, x.2.2.2⟩
def szApi : Int × Bool × Int × List Int → Nat := fun x => 1 + (1 + (1 + (x.2.2.2.length + 1)))
theorem rd53 : Rd Try.prog 53 kAV (fun y => szApi (AV.pr y) + 1) := by
  refine Rd_struct (gi := unApi) (sz := szApi) Try.underlying53 (by kernel_rfl) ?_ (fun x => rfl)
  show RdF Try.prog (_ :: _ :: _ :: _ :: []) 0 (kPair (kInt .i64) (kPair kBool (kPair (kInt .i64) kStr))) (fun x => 1 + (1 + (1 + (x.2.2.2.length + 1))))
  refine RdF_cons (k := kInt .i64) (sz := fun _ => 1) (k' := kPair kBool (kPair (kInt .i64) kStr)) (sz' := fun x => 1 + (1 + (x.2.2.length + 1))) (Rd_int Try.underlying3) rfl (by kernel_rfl) ?_
  refine RdF_cons (k := kBool) (sz := fun _ => 1) (k' := kPair (kInt .i64) kStr) (sz' := fun x => 1 + (x.2.length + 1)) (Rd_bool Try.underlying4) rfl (by kernel_rfl) ?_
  refine RdF_cons (k := kInt .i64) (sz := fun _ => 1) (k' := kStr) (sz' := fun x => x.length + 1) (Rd_int Try.underlying2) rfl (by kernel_rfl) ?_
  exact RdF_one (k := kStr) (sz := fun x => x.length + 1) (Rd_str Try.underlying9) rfl (by kernel_rfl)
theorem rd29 : Rd Try.prog 29 (kSl kAV) (fun xs => (xs.map fun y => szApi (AV.pr y) + 1).sum + 1) := Rd_slice Try.underlying29 (by kernel_rfl) rd53
theorem i64_of {n : Int} (h : inR .i64 n) : i64r n := by
  have := inR_bd.1 h
  have h1 : IntKind.min .i64 = -9223372036854775808 := by decide
  have h2 : IntKind.max .i64 = 9223372036854775807 := by decide
  unfold i64r; omega
theorem vok_of {m : M} {v : Value} {xs : List AV} (h : RV (kSl kAV) m v xs) : ∀ x ∈ xs, VOK x := fun x hx => by
  obtain ⟨cs, hR⟩ := (RV_all h).1 x hx
  obtain ⟨h1, h2, h3, h4⟩ := hR
  exact ⟨i64_of h1.2, i64_of h3.2, h4.2.1⟩
theorem rd22 : Rd Try.prog 22 (kSl (kInt .i64)) (fun xs => (xs.map fun _ => 1).sum + 1) := Rd_slice Try.underlying22 (by kernel_rfl) rd3
theorem rd65 : Rd Try.prog 65 (kSl (kSl kAV)) (fun xs => (xs.map fun ys : List AV => (ys.map fun y => szApi (AV.pr y) + 1).sum + 1).sum + 1) := Rd_slice Try.underlying65 (by kernel_rfl) rd29
theorem sp22 : Try.prog.readableRec 22 = true ∧ 22 < Try.prog.types.size := ⟨by kernel_rfl, of_decide_eq_true (by kernel_rfl)⟩
theorem sp65 : Try.prog.readableRec 65 = true ∧ 65 < Try.prog.types.size := ⟨by kernel_rfl, of_decide_eq_true (by kernel_rfl)⟩
theorem len22 {xs : List Int} {n : Nat} (h : (xs.map fun _ => 1).sum + 1 ≤ n) (hn : n ≤ 1048576) : xs.length ≤ 1048576 := by
  rw [sum_one] at h; omega
theorem sum_mem {α : Type} (f : α → Nat) : ∀ (xs : List α) (x : α), x ∈ xs → f x ≤ (xs.map f).sum
  | y :: ys, x, h => by
    simp only [List.map_cons, List.sum_cons]
    rcases List.mem_cons.1 h with rfl | h
    · omega
    · have := sum_mem f ys x h; omega
theorem len65 {xs : List (List AV)} {n : Nat} (h : (xs.map fun ys : List AV => (ys.map fun y => szApi (AV.pr y) + 1).sum + 1).sum + 1 ≤ n) (hn : n ≤ 1048576) : xs.length ≤ 1048576 ∧ ∀ x ∈ xs, x.length ≤ 1048576 := by
  have := sum_ge (fun ys : List AV => (ys.map fun y => szApi (AV.pr y) + 1).sum + 1) xs (fun y => by omega)
  refine ⟨by omega, fun x hx => ?_⟩
  have h1 := sum_mem (fun ys : List AV => (ys.map fun y => szApi (AV.pr y) + 1).sum + 1) xs x hx
  have h2 := sum_ge (fun y => szApi (AV.pr y) + 1) x (fun y => by omega)
  omega
theorem voks_of {m : M} {v : Value} {xs : List (List AV)} (h : RV (kSl (kSl kAV)) m v xs) : ∀ x ∈ xs, ∀ y ∈ x, VOK y := fun x hx => by
  obtain ⟨cs, hR⟩ := (RV_all h).1 x hx
  exact vok_of (RV_of_R hR)
end Go.Proofs.Ytifobhaccglckaa.Hay
