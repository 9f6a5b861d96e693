/- For every input of bulk at most 1048576 the call of EncodeNever returns true, and each argument reads behind it as it did. Condition: the bulk alone. -/
import Derived.Test.YtifobhaccglckaaHayArgs
import Derived.Test.YtifobhaccglckaaHayZd
import Derived.Test.YtifobhaccglckaaSeC4
import Derived.ProofKit
import Derived.OpenShut
import Derived.JoinedCond
namespace Go.Proofs.Ytifobhaccglckaa
open Go.ChangeShapes Go.WideShapes Go.ChangeAt Go.RowKit Hay
set_option maxRecDepth 100000 in
theorem encodeNever_contract (H : Type) (enc : TypeId × Value → H) (W : World) (base : Nat) (args : Array Value) (ds gs : List (DataW H)) (before : List MemPlace)
    (hval : ∀ (j : Nat) t v, Try.f9.params[j]? = some t → args[j]? = some v → Value.okWide Try.prog W .any base t v)
    (hW : DataW.Whole enc Try.prog Try.f9.params.toList Rows.encodeNeverSpec.vars false W args.toList ds gs before) (hk : Rows.uptoSmall H (ds ++ gs) = true) :
    Calls Try.prog 9 args W fun e W' => ∃ v, e = .returned v ∧ Rows.encodeNeverSpec.post enc Try.prog Try.f9 false true false false W args v W' := by
  have hW' := hW
  obtain ⟨p, q, hA0, hV, _, _, _⟩ := hW
  have hA : DataW.TrodAll enc Try.prog W 0 (fun _ => true) true Try.f9.params.toList args.toList ds p := hA0
  clear hA0
  rw [Try.params9] at hA hval
  obtain ⟨v0, d0, rfl, rfl, h0⟩ := trodAll_one hA
  obtain ⟨rfl, _⟩ := trodVars_none hV
  have hb := of_decide_eq_true hk
  simp only [List.append_nil, Rows.uptoBulkAll] at hb
  obtain ⟨x0, a0, s0⟩ := arg_slice (bulk H) Try.underlying29 rd29 (okw_of hval 0 (t := 29) (v := v0) rfl rfl) h0 (by show Rows.uptoBulk d0 ≤ _; omega)
  replace s0 := len29 s0 (by show Rows.uptoBulk d0 ≤ _; omega)
  have hlaw := law_Never (vok_of a0) s0
  refine (c_hayloftlaw06_EncodeNever (S_start W) a0 hlaw).mono fun e W' he => ?_
  cases e with
  | returned v =>
    obtain ⟨m', _, hS', hv⟩ := he
    obtain ⟨cs, hcs, rfl⟩ := hv
    have hcs' : cs = [Value.bool true] := hcs
    subst hcs'
    refine ⟨_, rfl, post_true hW' laidAll (fun t ht => ?_) rfl rfl Try.underlying4 rfl hS'.below.toBelow⟩
    rw [Try.params9] at ht
    simp only [List.mem_cons, List.not_mem_nil, or_false] at ht
    subst ht
    exact sp29
  | panicked ch => exact he.elim
  | outgrown => exact he.elim
set_option maxRecDepth 100000 in
theorem encodeNever_lifted (os : Os) (started : os.Started) (H : Type) (enc : TypeId × Value → H) (F : Stop.Interp) :
    ReturnsInHanded {} Try.checked os 9 .any ((Rows.OpenSpec.upto Rows.encodeNeverSpec).pre6 enc Try.prog Try.f9 Rows.encodeNeverUptoRow.domain false) (((Rows.OpenSpec.upto Rows.encodeNeverSpec).at F).post enc Try.prog Try.f9 false true false false) := by
  refine returnsInHanded_of_cond (C := Try.checked) (s := Rows.OpenSpec.upto Rows.encodeNeverSpec) (k := Rows.uptoSmall) rfl own started (by kernel_rfl) Try.func9
    (OpenSpec.witness (enc := enc) (C := Try.checked) (s := Rows.OpenSpec.upto Rows.encodeNeverSpec) (k := Rows.uptoSmall) rfl false ⟨#[], #[.slice none 0 0], []⟩ 8 (by kernel_rfl) (by kernel_rfl) (by kernel_rfl)
      (x := ([.nil], [], [])) (by kernel_rfl) rfl (by kernel_rfl)) ?_
  intro W base args ds gs before hval hW _ hk _
  exact encodeNever_contract H enc W base args ds gs before hval hW hk
theorem encodeNever_holds : Rows.EncodeNeverUptoSaid :=
  OpenClaim.holds_of_cond 9 Try.f9 rfl rfl rfl rfl rfl rfl rfl ⟨rfl, rfl, rfl, rfl, rfl⟩ rfl rfl rfl rfl rfl (by kernel_rfl) Try.func9 (by kernel_rfl)
    (of_decide_eq_true (by kernel_rfl)) (by unfold Func.isWrapper; first | (rw [if_pos (by decide +kernel)]; kernel_rfl) | (rw [if_neg (by decide +kernel)]; exact ⟨rfl, rfl⟩))
    (fun os started H enc _ F => encodeNever_lifted os started H enc F)
end Go.Proofs.Ytifobhaccglckaa
