import Derived.Test.YthbonoagbeilkaaGreatHbkC2
import Derived.Test.YthbonoagbeilkaaGreatHcZc
import Derived.ProofKit
import Derived.OpenShut
import Derived.JoinedCond
/- For every input of bulk at most 1048576 the call of BlockReads returns true, and each argument reads behind it as it did. Condition: the bulk alone. -/
namespace Go.Proofs.YthbonoagbeilkaaGreat
open Go.ChangeShapes Go.WideShapes Go.ChangeAt Go.RowKit Hay
set_option maxRecDepth 100000 in
theorem blockReads_contract (H : Type) (enc : TypeId × Value → H) (W : World) (base : Nat) (args : Array Value) (ds gs : List (DataW H)) (before : List MemPlace)
  (hval : ∀ (j : Nat) t v, Tryz.f4.params[j]? = some t → args[j]? = some v → Value.okWide Tryz.prog W .any base t v)
  (hW : DataW.Whole enc Tryz.prog Tryz.f4.params.toList Rows.blockReadsSpec.vars false W args.toList ds gs before) (hk : Rows.uptoSmall H (ds ++ gs) = true) :
  Calls Tryz.prog 4 args W fun e W' => ∃ v, e = .returned v ∧ Rows.blockReadsSpec.post enc Tryz.prog Tryz.f4 false true false false W args v W' := by
 have hW' := hW
 obtain ⟨p, q, hA0, hV, _, _, _⟩ := hW
 have hA : DataW.TrodAll enc Tryz.prog W 0 (fun _ => true) true Tryz.f4.params.toList args.toList ds p := hA0
 clear hA0
 rw [Tryz.params4] at hA hval
 obtain ⟨v0, d0, rfl, rfl, h0⟩ := trodAll_one hA
 obtain ⟨rfl, _⟩ := trodVars_none hV
 have hb := of_decide_eq_true hk
 simp only [List.append_nil, Rows.uptoBulkAll] at hb
 obtain ⟨x0, a0, s0⟩ := arg_slice (bulk H) Tryz.underlying24 rd24 (okw_of hval 0 (t := 24) (v := v0) rfl rfl) h0 (by show Rows.uptoBulk d0 ≤ _; omega)
 replace s0 := len24 s0 (by show Rows.uptoBulk d0 ≤ _; omega)
 have hlaw := law_BReads (byt_of a0) s0
 refine (c_hayloftlaw07_BlockReads (S_start W) a0 hlaw).mono fun e W' he => ?_
 cases e with
 | returned v =>
  obtain ⟨m', _, hS', hv⟩ := he
  obtain ⟨cs, hcs, rfl⟩ := hv
  have hcs' : cs = [Value.bool true] := hcs
  subst hcs'
  refine ⟨_, rfl, post_true hW' laidAll (fun t ht => ?_) rfl rfl Tryz.underlying4 rfl hS'.below.toBelow⟩
  rw [Tryz.params4] at ht
  simp only [List.mem_cons, List.not_mem_nil, or_false] at ht
  subst ht
  exact sp24
 | panicked ch => exact he.elim
 | outgrown => exact he.elim
set_option maxRecDepth 100000 in
theorem blockReads_lifted (os : Os) (started : os.Started) (H : Type) (enc : TypeId × Value → H) (F : Stop.Interp) :
  ReturnsInHanded {} Tryz.checked os 4 .any ((Rows.OpenSpec.upto Rows.blockReadsSpec).pre6 enc Tryz.prog Tryz.f4 Rows.blockReadsUptoRow.domain false) (((Rows.OpenSpec.upto Rows.blockReadsSpec).at F).post enc Tryz.prog Tryz.f4 false true false false) := by
 refine returnsInHanded_of_cond (C := Tryz.checked) (s := Rows.OpenSpec.upto Rows.blockReadsSpec) (k := Rows.uptoSmall) rfl own started (by kernel_rfl) Tryz.func4
  (OpenSpec.witness (enc := enc) (C := Tryz.checked) (s := Rows.OpenSpec.upto Rows.blockReadsSpec) (k := Rows.uptoSmall) rfl false ⟨#[], #[.slice none 0 0], []⟩ 8 (by kernel_rfl) (by kernel_rfl) (by kernel_rfl)
   (x := ([.nil], [], [])) (by kernel_rfl) rfl (by kernel_rfl)) ?_
 intro W base args ds gs before hval hW _ hk _
 exact blockReads_contract H enc W base args ds gs before hval hW hk
theorem blockReads_holds : Rows.BlockReadsUptoSaid :=
 OpenClaim.holds_of_cond 4 Tryz.f4 rfl rfl rfl rfl rfl rfl rfl ⟨rfl, rfl, rfl, rfl, rfl⟩ rfl rfl rfl rfl rfl (by kernel_rfl) Tryz.func4 (by kernel_rfl)
  (of_decide_eq_true (by kernel_rfl)) (by unfold Func.isWrapper; first | (rw [if_pos (by decide +kernel)]; kernel_rfl) | (rw [if_neg (by decide +kernel)]; exact ⟨rfl, rfl⟩))
  (fun os started H enc _ F => blockReads_lifted os started H enc F)
end Go.Proofs.YthbonoagbeilkaaGreat
