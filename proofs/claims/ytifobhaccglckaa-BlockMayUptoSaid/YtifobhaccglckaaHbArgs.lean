import Derived.Test.YtifobhaccglckaaRows
import Derived.Test.YtifobhaccglckaaHbRow
import Derived.Test.YtifobhaccglckaaHbkT
import Derived.Test.YtifobhaccglckaaHcS
namespace Go.Proofs.Ytifobhaccglckaa.Hay
open Go.ChangeShapes Go.WideShapes Go.ChangeAt Go.RowKit
theorem own : ownKnob Try.prog.godebug = none := by kernel_rfl
theorem laidAll : laidOutB Try.prog = true := by kernel_rfl
theorem bulk_one {H : Type} (d : DataW H) : 1 ≤ Rows.uptoBulk d := by
  cases d with
  | lit l => cases l <;> simp [Rows.uptoBulk]
  | nil => simp [Rows.uptoBulk]
  | ptr d => simp [Rows.uptoBulk]
  | slice elems spare => simp [Rows.uptoBulk]
  | agg parts => simp [Rows.uptoBulk]
  | iface t d => simp [Rows.uptoBulk]
  | map entries => simp [Rows.uptoBulk]
  | held h => simp [Rows.uptoBulk]
def bulk (H : Type) : Bulk H := {
  b := Rows.uptoBulk
  ba := Rows.uptoBulkAll
  str := fun s => by simp [Rows.uptoBulk]
  one := bulk_one
  slice := fun e s => by simp [Rows.uptoBulk]
  agg := fun l => by simp [Rows.uptoBulk]
  nil := by simp [Rows.uptoBulkAll]
  cons := fun d r => by simp [Rows.uptoBulkAll]
  }
def unApi : Int × Bool × Int × List Int → AV := fun x => ⟨x.1, x.2.1, x.2.2.1, x.2.2.2⟩
def szApi : Int × Bool × Int × List Int → Nat := fun x => 1 + (1 + (1 + (x.2.2.2.length + 1)))
theorem rd53 : Rd Try.prog 53 kAV (fun y => szApi (AV.pr y) + 1) := by
  refine Rd_struct (gi := unApi) (sz := szApi) Try.underlying53 (by kernel_rfl) ?_ (fun x => rfl)
  show RdF Try.prog (_ :: _ :: _ :: _ :: []) 0 (kPair (kInt .i64) (kPair kBool (kPair (kInt .i64) kStr))) (fun x => 1 + (1 + (1 + (x.2.2.2.length + 1))))
  refine RdF_cons (k := kInt .i64) (sz := fun _ => 1) (k' := kPair kBool (kPair (kInt .i64) kStr)) (sz' := fun x => 1 + (1 + (x.2.2.length + 1))) (Rd_int Try.underlying3) rfl (by kernel_rfl) ?_
  refine RdF_cons (k := kBool) (sz := fun _ => 1) (k' := kPair (kInt .i64) kStr) (sz' := fun x => 1 + (x.2.length + 1)) (Rd_bool Try.underlying4) rfl (by kernel_rfl) ?_
  refine RdF_cons (k := kInt .i64) (sz := fun _ => 1) (k' := kStr) (sz' := fun x => x.length + 1) (Rd_int Try.underlying2) rfl (by kernel_rfl) ?_
  exact RdF_one (k := kStr) (sz := fun x => x.length + 1) (Rd_str Try.underlying9) rfl (by kernel_rfl)
theorem rd29 : Rd Try.prog 29 (kSl kAV) (fun xs => (xs.map fun y => szApi (AV.pr y) + 1).sum + 1) := Rd_slice Try.underlying29 (by kernel_rfl) rd53
theorem sp3 : Try.prog.readableRec 3 = true ∧ 3 < Try.prog.types.size := ⟨by kernel_rfl, of_decide_eq_true (by kernel_rfl)⟩
theorem sp29 : Try.prog.readableRec 29 = true ∧ 29 < Try.prog.types.size := ⟨by kernel_rfl, of_decide_eq_true (by kernel_rfl)⟩
theorem i64_of {n : Int} (h : inR .i64 n) : i64r n := by
  have := inR_bd.1 h
  have h1 : IntKind.min .i64 = -9223372036854775808 := by decide
  have h2 : IntKind.max .i64 = 9223372036854775807 := by decide
  unfold i64r; omega
theorem vok_of {m : M} {v : Value} {xs : List AV} (h : RV (kSl kAV) m v xs) : ∀ x ∈ xs, VOK x := fun x hx => by
  obtain ⟨cs, hR⟩ := (RV_all h).1 x hx
  obtain ⟨h1, h2, h3, h4⟩ := hR
  exact ⟨i64_of h1.2, i64_of h3.2, h4.2.1⟩
theorem len29 {xs : List AV} {n : Nat} (h : (xs.map fun y => szApi (AV.pr y) + 1).sum + 1 ≤ n) (hn : n ≤ 1048576) : xs.length ≤ 1048576 := by
  have := sum_ge (fun y => szApi (AV.pr y) + 1) xs (fun y => by omega)
  omega
theorem arg_struct {P : Program} {H : Type} {enc : TypeId × Value → H} {r : Reach} {b0 : Nat} {W : World} {t : TypeId} {fs : Array Field} {α : Type} {k : Kd α} {sz : α → Nat} {v : Value} {d : DataW H} {ps : List MemPlace} (B : Bulk H) (ht : P.underlying t = some (.struct fs)) (hrd : Rd P t k sz) (hk : k.agg = true) (hval : Okw P W r b0 t v) (hd : DataW.Trod enc P W 0 (fun _ => true) true t v d ps) (hb : B.b d ≤ 1099511627776) :
    ∃ x, RV k (m0 W) v x := by
  obtain ⟨cs, rfl, _⟩ := okWide_struct ht hval.ok
  obtain ⟨fuel, hf⟩ := hd
  obtain ⟨x, hx, _⟩ := hrd enc B W fuel _ d ps hf hb
  exact ⟨x, _, hx, by simp [Kd.val, hk, Value.cells]⟩
def unTerm : Int × Int × AV → Api_Term := fun x => ⟨x.1, x.2.1, x.2.2⟩
theorem rd71 : Rd Try.prog 71 kApi_Term (fun y => (1 + (1 + (szApi (AV.pr (Api_Term.pr y).2.2) + 1))) + 1) := by
  refine Rd_struct (gi := unTerm) (sz := fun x : Int × Int × AV => 1 + (1 + (szApi (AV.pr x.2.2) + 1))) Try.underlying71 (by kernel_rfl) ?_ (fun x => rfl)
  show RdF Try.prog (_ :: _ :: _ :: []) 0 (kPair (kInt .i64) (kPair (kInt .i64) kAV)) (fun x => 1 + (1 + (szApi (AV.pr x.2.2) + 1)))
  refine RdF_cons (k := kInt .i64) (sz := fun _ => 1) (k' := kPair (kInt .i64) kAV) (sz' := fun x : Int × AV => 1 + (szApi (AV.pr x.2) + 1)) (Rd_int Try.underlying3) rfl (by kernel_rfl) ?_
  refine RdF_cons (k := kInt .i64) (sz := fun _ => 1) (k' := kAV) (sz' := fun x => szApi (AV.pr x) + 1) (Rd_int Try.underlying3) rfl (by kernel_rfl) ?_
  exact RdF_one (k := kAV) (sz := fun x => szApi (AV.pr x) + 1) rd53 rfl (by kernel_rfl)
theorem sp71 : Try.prog.readableRec 71 = true ∧ 71 < Try.prog.types.size := ⟨by kernel_rfl, of_decide_eq_true (by kernel_rfl)⟩
end Go.Proofs.Ytifobhaccglckaa.Hay
