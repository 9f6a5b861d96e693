import Derived.Test.YthbonoagbeilkaaHbmC2
import Derived.Test.YthbonoagbeilkaaHbmM
import Derived.ProofKit
import Derived.OpenShut
import Derived.JoinedCond
/- For every input of bulk at most 1048576 the call of MoverJoins returns true, and each argument reads behind it as it did. Condition: the bulk alone. -/
namespace Go.Proofs.Ythbonoagbeilkaa
open Go.ChangeShapes Go.WideShapes Go.ChangeAt Go.RowKit Hay
set_option maxRecDepth 100000 in
theorem moverJoins_contract (H : Type) (enc : TypeId × Value → H) (W : World) (base : Nat) (args : Array Value) (ds gs : List (DataW H)) (before : List MemPlace)
    (hval : ∀ (j : Nat) t v, Try.f3.params[j]? = some t → args[j]? = some v → Value.okWide Try.prog W .any base t v)
    (hW : DataW.Whole enc Try.prog Try.f3.params.toList Rows.moverJoinsSpec.vars false W args.toList ds gs before) (hk : Rows.uptoSmall H (ds ++ gs) = true) :
    Calls Try.prog 3 args W fun e W' => ∃ v, e = .returned v ∧ Rows.moverJoinsSpec.post enc Try.prog Try.f3 false true false false W args v W' := by
  have hW' := hW
  obtain ⟨p, q, hA0, hV, _, _, _⟩ := hW
  have hA : DataW.TrodAll enc Try.prog W 0 (fun _ => true) true Try.f3.params.toList args.toList ds p := hA0
  clear hA0
  rw [Try.params3] at hA hval
  obtain ⟨v0, v1, v2, d0, d1, d2, p0, p1, p2, rfl, rfl, _, h0, h1, h2⟩ := trodAll_three hA
  obtain ⟨rfl, _⟩ := trodVars_none hV
  have hb := of_decide_eq_true hk
  simp only [List.append_nil, Rows.uptoBulkAll] at hb
  obtain ⟨x0, a0, s0⟩ := arg_slice (bulk H) Try.underlying22 rd22 (okw_of hval 0 (t := 22) (v := v0) rfl rfl) h0 (by show Rows.uptoBulk d0 ≤ _; omega)
  replace s0 := len22 s0 (by show Rows.uptoBulk d0 ≤ _; omega)
  obtain ⟨x1, a1, s1⟩ := arg_slice (bulk H) Try.underlying23 rd23 (okw_of hval 1 (t := 23) (v := v1) rfl rfl) h1 (by show Rows.uptoBulk d1 ≤ _; omega)
  replace s1 := len23 s1 (by show Rows.uptoBulk d1 ≤ _; omega)
  obtain ⟨n2, rfl, a2⟩ := arg_int Try.underlying24 (okw_of hval 2 (t := 24) (v := v2) rfl rfl) h2
  have hlaw := law_Joins (p2 := n2) s0 s1.1 s1.2.1 s1.2.2
  refine (c_hayloftlaw12_MoverJoins (S_start W) a0 a1 a2 hlaw).mono fun e W' he => ?_
  cases e with
  | returned v =>
    obtain ⟨m', _, hS', hv⟩ := he
    obtain ⟨cs, hcs, rfl⟩ := hv
    have hcs' : cs = [Value.bool true] := hcs
    subst hcs'
    refine ⟨_, rfl, post_true hW' laidAll (fun t ht => ?_) rfl rfl Try.underlying4 rfl hS'.below.toBelow⟩
    rw [Try.params3] at ht
    simp only [List.mem_cons, List.not_mem_nil, or_false] at ht
    rcases ht with rfl | rfl | rfl
    · exact sp22
    · exact sp23
    · exact sp24
  | panicked ch => exact he.elim
  | outgrown => exact he.elim
set_option maxRecDepth 100000 in
theorem moverJoins_lifted (os : Os) (started : os.Started) (H : Type) (enc : TypeId × Value → H) (F : Stop.Interp) :
    ReturnsInHanded {} Try.checked os 3 .any ((Rows.OpenSpec.upto Rows.moverJoinsSpec).pre6 enc Try.prog Try.f3 Rows.moverJoinsUptoRow.domain false) (((Rows.OpenSpec.upto Rows.moverJoinsSpec).at F).post enc Try.prog Try.f3 false true false false) := by
  refine returnsInHanded_of_cond (C := Try.checked) (s := Rows.OpenSpec.upto Rows.moverJoinsSpec) (k := Rows.uptoSmall) rfl own started (by kernel_rfl) Try.func3
    (OpenSpec.witness (enc := enc) (C := Try.checked) (s := Rows.OpenSpec.upto Rows.moverJoinsSpec) (k := Rows.uptoSmall) rfl false ⟨#[], #[.slice none 0 0, .slice none 0 0, .int .u64 0], []⟩ 8 (by kernel_rfl) (by kernel_rfl) (by kernel_rfl)
      (x := ([.nil, .nil, .lit (.int .u64 0)], [], [])) (by kernel_rfl) rfl (by kernel_rfl)) ?_
  intro W base args ds gs before hval hW _ hk _
  exact moverJoins_contract H enc W base args ds gs before hval hW hk
theorem moverJoins_holds : Rows.MoverJoinsUptoSaid :=
  OpenClaim.holds_of_cond 3 Try.f3 rfl rfl rfl rfl rfl rfl rfl ⟨rfl, rfl, rfl, rfl, rfl⟩ rfl rfl rfl rfl rfl (by kernel_rfl) Try.func3 (by kernel_rfl)
    (of_decide_eq_true (by kernel_rfl)) (by unfold Func.isWrapper; first | (rw [if_pos (by decide +kernel)]; kernel_rfl) | (rw [if_neg (by decide +kernel)]; exact ⟨rfl, rfl⟩))
    (fun os started H enc _ F => moverJoins_lifted os started H enc F)
end Go.Proofs.Ythbonoagbeilkaa
