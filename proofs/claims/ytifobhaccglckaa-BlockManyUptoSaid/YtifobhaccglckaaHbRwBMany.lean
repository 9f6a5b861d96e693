/- For every input of bulk at most 1048576 the call of BlockMany returns true, and each argument reads behind it as it did. Condition: the bulk alone. -/
import Derived.Test.YtifobhaccglckaaHbArgs
import Derived.Test.YtifobhaccglckaaHdG
import Derived.Test.YtifobhaccglckaaHbkC6
import Derived.ProofKit
import Derived.OpenShut
import Derived.JoinedCond
namespace Go.Proofs.Ytifobhaccglckaa
open Go.ChangeShapes Go.WideShapes Go.ChangeAt Go.RowKit Hay
set_option maxRecDepth 100000 in
theorem blockMany_contract (H : Type) (enc : TypeId × Value → H) (W : World) (base : Nat) (args : Array Value) (ds gs : List (DataW H)) (before : List MemPlace)
    (hval : ∀ (j : Nat) t v, Try.f13.params[j]? = some t → args[j]? = some v → Value.okWide Try.prog W .any base t v)
    (hW : DataW.Whole enc Try.prog Try.f13.params.toList Rows.blockManySpec.vars false W args.toList ds gs before) (hk : Rows.uptoSmall H (ds ++ gs) = true) :
    Calls Try.prog 13 args W fun e W' => ∃ v, e = .returned v ∧ Rows.blockManySpec.post enc Try.prog Try.f13 false true false false W args v W' := by
  have hW' := hW
  obtain ⟨p, q, hA0, hV, _, _, _⟩ := hW
  have hA : DataW.TrodAll enc Try.prog W 0 (fun _ => true) true Try.f13.params.toList args.toList ds p := hA0
  clear hA0
  rw [Try.params13] at hA hval
  obtain ⟨v0, v1, d0, d1, p0, p1, rfl, rfl, _, h0, h1⟩ := trodAll_two hA
  obtain ⟨rfl, _⟩ := trodVars_none hV
  have hb := of_decide_eq_true hk
  simp only [List.append_nil, Rows.uptoBulkAll] at hb
  obtain ⟨x0, a0, s0⟩ := arg_slice (bulk H) Try.underlying65 rd65 (okw_of hval 0 (t := 65) (v := v0) rfl rfl) h0 (by show Rows.uptoBulk d0 ≤ _; omega)
  replace s0 := len65 s0 (by show Rows.uptoBulk d0 ≤ _; omega)
  obtain ⟨x1, a1, s1⟩ := arg_slice (bulk H) Try.underlying22 rd22 (okw_of hval 1 (t := 22) (v := v1) rfl rfl) h1 (by show Rows.uptoBulk d1 ≤ _; omega)
  replace s1 := len22 s1 (by show Rows.uptoBulk d1 ≤ _; omega)
  have hlaw := law_BMany x1 (voks_of a0) s0.1 s0.2
  refine (c_hayloftlaw07_BlockMany (S_start W) a0 a1 hlaw).mono fun e W' he => ?_
  cases e with
  | returned v =>
    obtain ⟨m', _, hS', hv⟩ := he
    obtain ⟨cs, hcs, rfl⟩ := hv
    have hcs' : cs = [Value.bool true] := hcs
    subst hcs'
    refine ⟨_, rfl, post_true hW' laidAll (fun t ht => ?_) rfl rfl Try.underlying4 rfl hS'.below.toBelow⟩
    rw [Try.params13] at ht
    simp only [List.mem_cons, List.not_mem_nil, or_false] at ht
    rcases ht with rfl | rfl
    · exact sp65
    · exact sp22
  | panicked ch => exact he.elim
  | outgrown => exact he.elim
set_option maxRecDepth 100000 in
theorem blockMany_lifted (os : Os) (started : os.Started) (H : Type) (enc : TypeId × Value → H) (F : Stop.Interp) :
    ReturnsInHanded {} Try.checked os 13 .any ((Rows.OpenSpec.upto Rows.blockManySpec).pre6 enc Try.prog Try.f13 Rows.blockManyUptoRow.domain false) (((Rows.OpenSpec.upto Rows.blockManySpec).at F).post enc Try.prog Try.f13 false true false false) := by
  refine returnsInHanded_of_cond (C := Try.checked) (s := Rows.OpenSpec.upto Rows.blockManySpec) (k := Rows.uptoSmall) rfl own started (by kernel_rfl) Try.func13
    (OpenSpec.witness (enc := enc) (C := Try.checked) (s := Rows.OpenSpec.upto Rows.blockManySpec) (k := Rows.uptoSmall) rfl false ⟨#[], #[.slice none 0 0, .slice none 0 0], []⟩ 8 (by kernel_rfl) (by kernel_rfl) (by kernel_rfl)
      (x := ([.nil, .nil], [], [])) (by kernel_rfl) rfl (by kernel_rfl)) ?_
  intro W base args ds gs before hval hW _ hk _
  exact blockMany_contract H enc W base args ds gs before hval hW hk
theorem blockMany_holds : Rows.BlockManyUptoSaid :=
  OpenClaim.holds_of_cond 13 Try.f13 rfl rfl rfl rfl rfl rfl rfl ⟨rfl, rfl, rfl, rfl, rfl⟩ rfl rfl rfl rfl rfl (by kernel_rfl) Try.func13 (by kernel_rfl)
    (of_decide_eq_true (by kernel_rfl)) (by unfold Func.isWrapper; first | (rw [if_pos (by decide +kernel)]; kernel_rfl) | (rw [if_neg (by decide +kernel)]; exact ⟨rfl, rfl⟩))
    (fun os started H enc _ F => blockMany_lifted os started H enc F)
end Go.Proofs.Ytifobhaccglckaa
