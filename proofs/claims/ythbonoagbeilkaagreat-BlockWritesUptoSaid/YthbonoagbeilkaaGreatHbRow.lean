import Derived.Test.YthbonoagbeilkaaGreatHbN
import Derived.Carry
import Derived.ChangeSame
import Derived.OpenShut
import Derived.JoinedCond
import Derived.Test.YthbonoagbeilkaaGreatRows
import Derived.Test.YthbonoagbeilkaaGreatHcV
import Derived.Test.YthbonoagbeilkaaGreatExP
namespace Go.Proofs.YthbonoagbeilkaaGreat.Hay
open Go.RowKit Go.ChangeShapes Go.ChangeAt Go.WideShapes
section
variable {P : Program} {H : Type} {enc : TypeId × Value → H}
theorem trodAll_stays (hl : laidOutB P = true) {W W' : World} {base : Nat} {sp' : Nat → Bool} : ∀ {ts : List TypeId} {vs : List Value} {ds : List (DataW H)} {ps : List MemPlace}, (∀ t ∈ ts, P.readableRec t = true ∧ t < P.types.size) →
  DataW.TrodAll enc P W base (fun _ => true) true ts vs ds ps → (∀ p ∈ ps, W.sameAt W' p) → (∀ p ∈ ps, sp' p.block = true) → DataW.TrodAll enc P W' base sp' true ts vs ds ps
 | [], [], [], _, _, h, _, _ => h
 | [], [], _ :: _, _, _, h, _, _ => h.elim
 | [], _ :: _, _, _, _, h, _, _ => h.elim
 | _ :: _, [], _, _, _, h, _, _ => h.elim
 | _ :: _, _ :: _, [], _, _, h, _, _ => h.elim
 | t :: ts, v :: vs, d :: ds, ps, ht, h, hs, hp => by
  obtain ⟨p, q, h1, h2, rfl⟩ := h
  refine ⟨p, q, WideElems.Trod_stays hl (ht t (by simp)).1 (ht t (by simp)).2 h1 (fun x hx => hs x (by simp [hx])) (fun x hx => hp x (by simp [hx])), trodAll_stays hl (fun t h => ht t (by simp [h])) h2 (fun x hx => hs x (by simp [hx])) (fun x hx => hp x (by simp [hx])), rfl⟩
theorem post_true {f : Func} {s : ChangeSpec} {apart fresh handsOn again : Bool} {W W' : World} {args : Array Value} {ds gs : List (DataW H)} {before : List MemPlace} {tb : TypeId}
  (hW : DataW.Whole enc P f.params.toList s.vars apart W args.toList ds gs before) (hl : laidOutB P = true) (ht : ∀ t ∈ f.params.toList, P.readableRec t = true ∧ t < P.types.size)
  (hvars : s.vars = []) (hr : f.resultTypes = #[tb]) (hb : P.underlying tb = some .bool) (hfn : s.fn H (ds ++ gs) = { results := [.lit (.bool true)], args := ds }) (hB : Below W.heap.size W W') :
  s.post enc P f apart fresh handsOn again W args (.bool true) W' := by
 have hlt := fun p hp => hW.lt p hp
 have hW2 := hW
 obtain ⟨p, q, hA, hV, hps, hz, hn⟩ := hW2
 rw [hvars] at hV
 obtain ⟨hg, hq⟩ := trodVars_none hV
 have hbp : before = p := by rw [hps, hq]; simp
 have hres : ∀ (b : Nat) (sp : Nat → Bool) (hd : Bool), DataW.TrodAll enc P W' b sp hd f.resultTypes.toList ((Value.bool true).resultList f.resultTypes.size) (s.fn H (ds ++ gs)).results [] := fun b sp hd => by
  rw [hr, hfn]
  exact trodAll_cons_mk (shut_bool hb _) trodAll_mk0
 have hargs : ∀ sp : Nat → Bool, (∀ x ∈ before, sp x.block = true) → DataW.TrodAll enc P W' 0 sp true f.params.toList args.toList (s.fn H (ds ++ gs)).args p := fun sp hsp => by
  rw [hfn]
  refine trodAll_stays hl ht hA (fun x hx => hB.same (hlt x (by rw [hbp]; exact hx))) (fun x hx => hsp x (by rw [hbp]; exact hx))
 have hvars' : ∀ sp : Nat → Bool, DataW.TrodVars enc P W' sp s.vars (s.fn H (ds ++ gs)).vars [] := fun sp => by
  rw [hvars, hfn]; exact rfl
 have hold : ∀ x ∈ before, (fun b => decide (b < W.heap.size)) x.block = true := fun x hx => by simpa using hlt x hx
 refine ⟨ds, gs, before, [], p, [], hW, hres _ _ _, hargs _ hold, hvars' _, hB.frame _, fun _ => ?_⟩
 refine ⟨ok_one hr rfl (okWide_bool_mk hb _), _, _, ([] ++ p) ++ [], ⟨[] ++ p, [], trodAll_append (hargs _ (fun _ _ => rfl)) (hres _ _ _), hvars' _, rfl, ?_, ?_⟩, ?_⟩
 ·intro b off hp
  have hm : MemPlace.cell b off ∈ before := by rw [hbp]; simpa using hp
  have := hlt _ hm
  rw [hB.frozen (p := ⟨b, off, none⟩) this]
  exact hz b off hm
 ·intro ha
  have := hn ha
  rw [hbp] at this
  simpa using this
 ·intro x hx _
  rw [hbp]
  simpa using hx
structure Okw (P : Program) (W : World) (r : Reach) (b : Nat) (t : TypeId) (v : Value) : Prop where
 ok : Value.okWide P W r b t v
theorem okw_of {W : World} {r : Reach} {b0 : Nat} {ts : Array TypeId} {args : Array Value} (h : ∀ (j : Nat) t v, ts[j]? = some t → args[j]? = some v → Value.okWide P W r b0 t v) (j : Nat) {t : TypeId} {v : Value} (h1 : ts[j]? = some t) (h2 : args[j]? = some v) : Okw P W r b0 t v :=
 ⟨h j t v h1 h2⟩
theorem arg_int {r : Reach} {b0 : Nat} {W : World} {t : TypeId} {k : IntKind} {v : Value} {d : DataW H} {ps : List MemPlace} {base : Nat} {spare : Nat → Bool} {held : Bool} (ht : P.underlying t = some (.int k)) (hval : Okw P W r b0 t v) (hd : DataW.Trod enc P W base spare held t v d ps) :
  ∃ n, v = .int k n ∧ inR k n := by
 obtain ⟨n, rfl, _, _, hw⟩ := open_int ht hval.ok hd
 refine ⟨n, rfl, ?_⟩
 rw [inR_bd]
 simpa [Lit.wf] using hw
theorem arg_slice {r : Reach} {b0 : Nat} {W : World} {t e : TypeId} {α : Type} {k : Kd α} {sz : List α → Nat} {v : Value} {d : DataW H} {ps : List MemPlace} (B : Bulk H) (ht : P.underlying t = some (.slice e)) (hrd : Rd P t (kSl k) sz) (hval : Okw P W r b0 t v) (hd : DataW.Trod enc P W 0 (fun _ => true) true t v d ps) (hb : B.b d ≤ 1099511627776) :
  ∃ xs, RV (kSl k) (m0 W) v xs ∧ sz xs ≤ B.b d := by
 obtain ⟨a, len, cap, rfl⟩ := okWide_slice ht hval.ok
 obtain ⟨fuel, hf⟩ := hd
 obtain ⟨xs, hx, hs⟩ := hrd enc B W fuel _ d ps hf hb
 exact ⟨xs, ⟨_, hx, rfl⟩, hs⟩
end
theorem RV_all {α : Type} {k : Kd α} {m : M} {v : Value} {xs : List α} (h : RV (kSl k) m v xs) : (∀ x ∈ xs, ∃ cs, k.R m cs x) ∧ xs.length ≤ maxSz := by
 obtain ⟨cs, hR, _⟩ := h
 obtain ⟨a, len, cap, h1, h2, h3, h4, h5⟩ := hR
 refine ⟨fun x hx => ?_, h4⟩
 obtain ⟨i, hi, rfl⟩ := List.getElem_of_mem hx
 cases a with
 | none =>
  have h5' : cap = 0 := h5
  omega
 | some ad => exact ⟨_, h5.2 i hi⟩
theorem sum_ge {α : Type} (f : α → Nat) (xs : List α) (h : ∀ x, 1 ≤ f x) : xs.length ≤ (xs.map f).sum := by
 induction xs with
 | nil => simp
 | cons a r ih => have := h a; simp; omega
end Go.Proofs.YthbonoagbeilkaaGreat.Hay
namespace Go.Proofs.YthbonoagbeilkaaGreat.Hay
open Go.ChangeShapes Go.WideShapes Go.ChangeAt Go.RowKit
theorem own : ownKnob Tryz.prog.godebug = none := by kernel_rfl
theorem laidAll : laidOutB Tryz.prog = true := by kernel_rfl
theorem bulk_one {H : Type} (d : DataW H) : 1 ≤ Rows.uptoBulk d := by
 cases d with
 | lit l => cases l <;> simp [Rows.uptoBulk]
 | nil => simp [Rows.uptoBulk]
 | ptr d => simp [Rows.uptoBulk]
 | slice elems spare => simp [Rows.uptoBulk]
 | agg parts => simp [Rows.uptoBulk]
 | iface t d => simp [Rows.uptoBulk]
 | map entries => simp [Rows.uptoBulk]
 | held h => simp [Rows.uptoBulk]
def bulk (H : Type) : Bulk H := {
 b := Rows.uptoBulk
 ba := Rows.uptoBulkAll
 str := fun s => by simp [Rows.uptoBulk]
 one := bulk_one
 slice := fun e s => by simp [Rows.uptoBulk]
 agg := fun l => by simp [Rows.uptoBulk]
 nil := by simp [Rows.uptoBulkAll]
 cons := fun d r => by simp [Rows.uptoBulkAll]
 }
def unApi : Int × Bool × Int × List Int → Ap := fun x => ⟨x.1, x.2.1, x.2.2.1, x.2.2.2⟩
def szApi : Int × Bool × Int × List Int → Nat := fun x => 1 + (1 + (1 + (x.2.2.2.length + 1)))
theorem rd32 : Rd Tryz.prog 32 kAp (fun y => szApi (Ap.pr y) + 1) := by
 refine Rd_struct (gi := unApi) (sz := szApi) Tryz.underlying32 (by kernel_rfl) ?_ (fun x => rfl)
 show RdF Tryz.prog (_ :: _ :: _ :: _ :: []) 0 (kPair (kInt .i64) (kPair kBool (kPair (kInt .i64) kStr))) (fun x => 1 + (1 + (1 + (x.2.2.2.length + 1))))
 refine RdF_cons (k := kInt .i64) (sz := fun _ => 1) (k' := kPair kBool (kPair (kInt .i64) kStr)) (sz' := fun x => 1 + (1 + (x.2.2.length + 1))) (Rd_int Tryz.underlying3) rfl (by kernel_rfl) ?_
 refine RdF_cons (k := kBool) (sz := fun _ => 1) (k' := kPair (kInt .i64) kStr) (sz' := fun x => 1 + (x.2.length + 1)) (Rd_bool Tryz.underlying4) rfl (by kernel_rfl) ?_
 refine RdF_cons (k := kInt .i64) (sz := fun _ => 1) (k' := kStr) (sz' := fun x => x.length + 1) (Rd_int Tryz.underlying2) rfl (by kernel_rfl) ?_
 exact RdF_one (k := kStr) (sz := fun x => x.length + 1) (Rd_str Tryz.underlying9) rfl (by kernel_rfl)
theorem rd22 : Rd Tryz.prog 22 (kSl kAp) (fun xs => (xs.map fun y => szApi (Ap.pr y) + 1).sum + 1) := Rd_slice Tryz.underlying22 (by kernel_rfl) rd32
theorem sp3 : Tryz.prog.readableRec 3 = true ∧ 3 < Tryz.prog.types.size := ⟨by kernel_rfl, of_decide_eq_true (by kernel_rfl)⟩
theorem sp22 : Tryz.prog.readableRec 22 = true ∧ 22 < Tryz.prog.types.size := ⟨by kernel_rfl, of_decide_eq_true (by kernel_rfl)⟩
theorem i64_of {n : Int} (h : inR .i64 n) : i64r n := by
 have := inR_bd.1 h
 have h1 : IntKind.min .i64 = -9223372036854775808 := by decide
 have h2 : IntKind.max .i64 = 9223372036854775807 := by decide
 unfold i64r; omega
theorem vok_of {m : M} {v : Value} {xs : List Ap} (h : RV (kSl kAp) m v xs) : ∀ x ∈ xs, VOK x := fun x hx => by
 obtain ⟨cs, hR⟩ := (RV_all h).1 x hx
 obtain ⟨h1, h2, h3, h4⟩ := hR
 exact ⟨i64_of h1.2, i64_of h3.2, h4.2.1⟩
theorem len22 {xs : List Ap} {n : Nat} (h : (xs.map fun y => szApi (Ap.pr y) + 1).sum + 1 ≤ n) (hn : n ≤ 1048576) : xs.length ≤ 1048576 := by
 have := sum_ge (fun y => szApi (Ap.pr y) + 1) xs (fun y => by omega)
 omega
end Go.Proofs.YthbonoagbeilkaaGreat.Hay
