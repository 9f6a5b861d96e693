import Derived.Test.YthbonoagbeilkaaGreatHbkC2
import Derived.Test.YthbonoagbeilkaaGreatHcY
import Derived.ProofKit
import Derived.OpenShut
import Derived.JoinedCond
/- For every input of bulk at most 1048576 the call of BlockAll returns true, and each argument reads behind it as it did. Condition: the bulk alone. -/
namespace Go.Proofs.YthbonoagbeilkaaGreat
open Go.ChangeShapes Go.WideShapes Go.ChangeAt Go.RowKit Hay
set_option maxRecDepth 100000 in
theorem blockAll_contract (H : Type) (enc : TypeId × Value → H) (W : World) (base : Nat) (args : Array Value) (ds gs : List (DataW H)) (before : List MemPlace)
  (hval : ∀ (j : Nat) t v, Tryz.f5.params[j]? = some t → args[j]? = some v → Value.okWide Tryz.prog W .any base t v)
  (hW : DataW.Whole enc Tryz.prog Tryz.f5.params.toList Rows.blockAllSpec.vars false W args.toList ds gs before) (hk : Rows.uptoSmall H (ds ++ gs) = true) :
  Calls Tryz.prog 5 args W fun e W' => ∃ v, e = .returned v ∧ Rows.blockAllSpec.post enc Tryz.prog Tryz.f5 false true false false W args v W' := by
 have hW' := hW
 obtain ⟨p, q, hA0, hV, _, _, _⟩ := hW
 have hA : DataW.TrodAll enc Tryz.prog W 0 (fun _ => true) true Tryz.f5.params.toList args.toList ds p := hA0
 clear hA0
 rw [Tryz.params5] at hA hval
 obtain ⟨v0, v1, d0, d1, p0, p1, rfl, rfl, _, h0, h1⟩ := trodAll_two hA
 obtain ⟨rfl, _⟩ := trodVars_none hV
 have hb := of_decide_eq_true hk
 simp only [List.append_nil, Rows.uptoBulkAll] at hb
 obtain ⟨x0, a0, s0⟩ := arg_slice (bulk H) Tryz.underlying24 rd24 (okw_of hval 0 (t := 24) (v := v0) rfl rfl) h0 (by show Rows.uptoBulk d0 ≤ _; omega)
 replace s0 := len24 s0 (by show Rows.uptoBulk d0 ≤ _; omega)
 obtain ⟨n1, rfl, a1⟩ := arg_int Tryz.underlying3 (okw_of hval 1 (t := 3) (v := v1) rfl rfl) h1
 have hlaw := law_BAll n1 (byt_of a0) s0
 refine (c_l7_BlockAll (S_start W) a0 a1 hlaw).mono fun e W' he => ?_
 cases e with
 | returned v =>
  obtain ⟨m', _, hS', hv⟩ := he
  obtain ⟨cs, hcs, rfl⟩ := hv
  have hcs' : cs = [Value.bool true] := hcs
  subst hcs'
  refine ⟨_, rfl, post_true hW' laidAll (fun t ht => ?_) rfl rfl Tryz.underlying4 rfl hS'.below.toBelow⟩
  rw [Tryz.params5] at ht
  simp only [List.mem_cons, List.not_mem_nil, or_false] at ht
  rcases ht with rfl | rfl
  ·exact sp24
  ·exact sp3
 | panicked ch => exact he.elim
 | outgrown => exact he.elim
set_option maxRecDepth 100000 in
theorem blockAll_lifted (os : Os) (started : os.Started) (H : Type) (enc : TypeId × Value → H) (F : Stop.Interp) :
  ReturnsInHanded {} Tryz.checked os 5 .any ((Rows.OpenSpec.upto Rows.blockAllSpec).pre6 enc Tryz.prog Tryz.f5 Rows.blockAllUptoRow.domain false) (((Rows.OpenSpec.upto Rows.blockAllSpec).at F).post enc Tryz.prog Tryz.f5 false true false false) := by
 refine returnsInHanded_of_cond (C := Tryz.checked) (s := Rows.OpenSpec.upto Rows.blockAllSpec) (k := Rows.uptoSmall) rfl own started (by kernel_rfl) Tryz.func5
  (OpenSpec.witness (enc := enc) (C := Tryz.checked) (s := Rows.OpenSpec.upto Rows.blockAllSpec) (k := Rows.uptoSmall) rfl false ⟨#[], #[.slice none 0 0, .int .i64 0], []⟩ 8 (by kernel_rfl) (by kernel_rfl) (by kernel_rfl)
   (x := ([.nil, .lit (.int .i64 0)], [], [])) (by kernel_rfl) rfl (by kernel_rfl)) ?_
 intro W base args ds gs before hval hW _ hk _
 exact blockAll_contract H enc W base args ds gs before hval hW hk
theorem blockAll_holds : Rows.BlockAllUptoSaid :=
 OpenClaim.holds_of_cond 5 Tryz.f5 rfl rfl rfl rfl rfl rfl rfl ⟨rfl, rfl, rfl, rfl, rfl⟩ rfl rfl rfl rfl rfl (by kernel_rfl) Tryz.func5 (by kernel_rfl)
  (of_decide_eq_true (by kernel_rfl)) (by unfold Func.isWrapper; first | (rw [if_pos (by decide +kernel)]; kernel_rfl) | (rw [if_neg (by decide +kernel)]; exact ⟨rfl, rfl⟩))
  (fun os started H enc _ F => blockAll_lifted os started H enc F)
end Go.Proofs.YthbonoagbeilkaaGreat
