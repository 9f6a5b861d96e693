import Derived.Test.YthbonoagbeilkaaGreatHbkC3
import Derived.Test.YthbonoagbeilkaaGreatHeE
import Derived.ProofKit
import Derived.OpenShut
import Derived.JoinedCond
/- For every input of bulk at most 1048576 the call of RosfileWrites returns true, and each argument reads behind it as it did. Condition: the bulk alone. -/
namespace Go.Proofs.YthbonoagbeilkaaGreat
open Go.ChangeShapes Go.WideShapes Go.ChangeAt Go.RowKit Hay
set_option maxRecDepth 100000 in
theorem tH (H:Type) (enc:TypeId×Value→H) (W:World) (base:Nat) (args:Array Value) (ds gs:List (DataW H)) (before:List MemPlace)
  (hval: ∀(j:Nat) t v,Tryz.f7.params[j]? =some t→args[j]? =some v→Value.okWide Tryz.prog W .any base t v)
  (hW:DataW.Whole enc Tryz.prog Tryz.f7.params.toList Rows.rosfileWritesSpec.vars false W args.toList ds gs before) (hk:Rows.uptoSmall H (ds++gs)=true):
  Calls Tryz.prog 7 args W fun e W'=> ∃v,e= .returned v∧Rows.rosfileWritesSpec.post enc Tryz.prog Tryz.f7 false true false false W args v W':=by
 have hW':=hW;obtain ⟨p,q,hA0,hV,_,_,_⟩:=hW;have hA:DataW.TrodAll enc Tryz.prog W 0 (fun _=>true) true Tryz.f7.params.toList args.toList ds p:=hA0;clear hA0;rw [Tryz.params7] at hA hval;obtain ⟨v0,d0,rfl,rfl,h0⟩:=trodAll_one hA;obtain ⟨rfl,_⟩:=trodVars_none hV;have hb:=of_decide_eq_true hk;simp only [List.append_nil,Rows.uptoBulkAll] at hb;obtain ⟨x0,a0,s0⟩:=Jk (Sf H) Tryz.underlying62 Sq rfl (Pq hval 0 (t:=62) (v:=v0) rfl rfl) h0 (by show Rows.uptoBulk d0≤_;omega);have k0:=Lb a0 s0 (by show Rows.uptoBulk d0≤_;omega);have hlaw:=DR k0;refine (wO (JW W) a0 hlaw).mono fun e W' he=> ?_
 cases e with
 |returned v=>
  obtain ⟨m',_,hS',hv⟩:=he;obtain ⟨cs,hcs,rfl⟩:=hv;have hcs':cs=[Value.bool true]:=hcs;subst hcs';refine ⟨_,rfl,HK hW' K9 (fun t ht=> ?_) rfl rfl Tryz.underlying4 rfl hS'.below.toBelow⟩;rw [Tryz.params7] at ht;simp only [List.mem_cons,List.not_mem_nil,or_false] at ht;subst ht;exact Sr
 |panicked ch=>exact he.elim
 |outgrown=>exact he.elim
set_option maxRecDepth 100000 in
theorem u6 (os:Os) (started:os.Started) (H:Type) (enc:TypeId×Value→H) (F:Stop.Interp):
  ReturnsInHanded {} Tryz.checked os 7 .any ((Rows.OpenSpec.upto Rows.rosfileWritesSpec).pre6 enc Tryz.prog Tryz.f7 Rows.rosfileWritesUptoRow.domain false) (((Rows.OpenSpec.upto Rows.rosfileWritesSpec).at F).post enc Tryz.prog Tryz.f7 false true false false):=by
 refine returnsInHanded_of_cond (C:=Tryz.checked) (s:=Rows.OpenSpec.upto Rows.rosfileWritesSpec) (k:=Rows.uptoSmall) rfl own started (by kernel_rfl) Tryz.func7
  (OpenSpec.witness (enc:=enc) (C:=Tryz.checked) (s:=Rows.OpenSpec.upto Rows.rosfileWritesSpec) (k:=Rows.uptoSmall) rfl false ⟨#[],#[.agg #[.int .i64 0,.slice none 0 0,.slice none 0 0,.slice none 0 0]],[]⟩ 8 (by kernel_rfl) (by kernel_rfl) (by kernel_rfl)
   (x:=([.agg [.lit (.int .i64 0),.nil,.nil,.nil]],[],[])) (by kernel_rfl) rfl (by kernel_rfl)) ?_
 intro W base args ds gs before hval hW _ hk _;exact tH H enc W base args ds gs before hval hW hk
theorem rosfileWrites_holds:Rows.RosfileWritesUptoSaid:=
 OpenClaim.holds_of_cond 7 Tryz.f7 rfl rfl rfl rfl rfl rfl rfl ⟨rfl,rfl,rfl,rfl,rfl⟩ rfl rfl rfl rfl rfl (by kernel_rfl) Tryz.func7 (by kernel_rfl)
  (of_decide_eq_true (by kernel_rfl)) (by unfold Func.isWrapper;first|(rw [if_pos (by decide+kernel)];kernel_rfl)|(rw [if_neg (by decide+kernel)];exact ⟨rfl,rfl⟩))
  (fun os started H enc _ F=>u6 os started H enc F)
end Go.Proofs.YthbonoagbeilkaaGreat
