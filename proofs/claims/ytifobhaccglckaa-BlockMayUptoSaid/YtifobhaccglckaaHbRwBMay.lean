/- For every input of bulk at most 1048576 the call of BlockMay returns true, and each argument reads behind it as it did. Condition: the bulk alone. -/
import Derived.Test.YtifobhaccglckaaHbArgs
import Derived.Test.YtifobhaccglckaaHdF
import Derived.Test.YtifobhaccglckaaHbkC6
import Derived.ProofKit
import Derived.OpenShut
import Derived.JoinedCond
namespace Go.Proofs.Ytifobhaccglckaa
open Go.ChangeShapes Go.WideShapes Go.ChangeAt Go.RowKit Hay
set_option maxRecDepth 100000 in
theorem blockMay_contract (H : Type) (enc : TypeId × Value → H) (W : World) (base : Nat) (args : Array Value) (ds gs : List (DataW H)) (before : List MemPlace)
    (hval : ∀ (j : Nat) t v, Try.f14.params[j]? = some t → args[j]? = some v → Value.okWide Try.prog W .any base t v)
    (hW : DataW.Whole enc Try.prog Try.f14.params.toList Rows.blockMaySpec.vars false W args.toList ds gs before) (hk : Rows.uptoSmall H (ds ++ gs) = true) :
    Calls Try.prog 14 args W fun e W' => ∃ v, e = .returned v ∧ Rows.blockMaySpec.post enc Try.prog Try.f14 false true false false W args v W' := by
  have hW' := hW
  obtain ⟨p, q, hA0, hV, _, _, _⟩ := hW
  have hA : DataW.TrodAll enc Try.prog W 0 (fun _ => true) true Try.f14.params.toList args.toList ds p := hA0
  clear hA0
  rw [Try.params14] at hA hval
  obtain ⟨v0, v1, v2, d0, d1, d2, p0, p1, p2, rfl, rfl, _, h0, h1, h2⟩ := trodAll_three hA
  obtain ⟨rfl, _⟩ := trodVars_none hV
  have hb := of_decide_eq_true hk
  simp only [List.append_nil, Rows.uptoBulkAll] at hb
  obtain ⟨n0, rfl, a0⟩ := arg_int Try.underlying3 (okw_of hval 0 (t := 3) (v := v0) rfl rfl) h0
  obtain ⟨x1, a1, s1⟩ := arg_slice (bulk H) Try.underlying29 rd29 (okw_of hval 1 (t := 29) (v := v1) rfl rfl) h1 (by show Rows.uptoBulk d1 ≤ _; omega)
  replace s1 := len29 s1 (by show Rows.uptoBulk d1 ≤ _; omega)
  obtain ⟨x2, a2⟩ := arg_struct (bulk H) Try.underlying71 rd71 rfl (okw_of hval 2 (t := 71) (v := v2) rfl rfl) h2 (by show Rows.uptoBulk d2 ≤ _; omega)
  have hlaw := law_BMay n0 x2 (vok_of a1) s1
  refine (c_hayloftlaw07_BlockMay (S_start W) a0 a1 a2 hlaw).mono fun e W' he => ?_
  cases e with
  | returned v =>
    obtain ⟨m', _, hS', hv⟩ := he
    obtain ⟨cs, hcs, rfl⟩ := hv
    have hcs' : cs = [Value.bool true] := hcs
    subst hcs'
    refine ⟨_, rfl, post_true hW' laidAll (fun t ht => ?_) rfl rfl Try.underlying4 rfl hS'.below.toBelow⟩
    rw [Try.params14] at ht
    simp only [List.mem_cons, List.not_mem_nil, or_false] at ht
    rcases ht with rfl | rfl | rfl
    · exact sp3
    · exact sp29
    · exact sp71
  | panicked ch => exact he.elim
  | outgrown => exact he.elim
set_option maxRecDepth 100000 in
theorem blockMay_lifted (os : Os) (started : os.Started) (H : Type) (enc : TypeId × Value → H) (F : Stop.Interp) :
    ReturnsInHanded {} Try.checked os 14 .any ((Rows.OpenSpec.upto Rows.blockMaySpec).pre6 enc Try.prog Try.f14 Rows.blockMayUptoRow.domain false) (((Rows.OpenSpec.upto Rows.blockMaySpec).at F).post enc Try.prog Try.f14 false true false false) := by
  refine returnsInHanded_of_cond (C := Try.checked) (s := Rows.OpenSpec.upto Rows.blockMaySpec) (k := Rows.uptoSmall) rfl own started (by kernel_rfl) Try.func14
    (OpenSpec.witness (enc := enc) (C := Try.checked) (s := Rows.OpenSpec.upto Rows.blockMaySpec) (k := Rows.uptoSmall) rfl false ⟨#[], #[.int .i64 0, .slice none 0 0, .agg #[.int .i64 0, .int .i64 0, .int .i64 0, .bool false, .int .i64 0, .string ⟨#[]⟩]], []⟩ 8 (by kernel_rfl) (by kernel_rfl) (by kernel_rfl)
      (x := ([.lit (.int .i64 0), .nil, .agg [.lit (.int .i64 0), .lit (.int .i64 0), .agg [.lit (.int .i64 0), .lit (.bool false), .lit (.int .i64 0), .lit (.string [])]]], [], [])) (by kernel_rfl) rfl (by kernel_rfl)) ?_
  intro W base args ds gs before hval hW _ hk _
  exact blockMay_contract H enc W base args ds gs before hval hW hk
theorem blockMay_holds : Rows.BlockMayUptoSaid :=
  OpenClaim.holds_of_cond 14 Try.f14 rfl rfl rfl rfl rfl rfl rfl ⟨rfl, rfl, rfl, rfl, rfl⟩ rfl rfl rfl rfl rfl (by kernel_rfl) Try.func14 (by kernel_rfl)
    (of_decide_eq_true (by kernel_rfl)) (by unfold Func.isWrapper; first | (rw [if_pos (by decide +kernel)]; kernel_rfl) | (rw [if_neg (by decide +kernel)]; exact ⟨rfl, rfl⟩))
    (fun os started H enc _ F => blockMay_lifted os started H enc F)
end Go.Proofs.Ytifobhaccglckaa
