import Derived.Test.YthbonoagbeilkaaGreatHbkC3
import Derived.Test.YthbonoagbeilkaaGreatHeE
import Derived.ProofKit
import Derived.OpenShut
import Derived.JoinedCond
/- For every input of bulk at most 1048576 the call of RosfileFinds returns true, and each argument reads behind it as it did. Condition: the bulk alone. -/
namespace Go.Proofs.YthbonoagbeilkaaGreat
open Go.ChangeShapes Go.WideShapes Go.ChangeAt Go.RowKit Hay
set_option maxRecDepth 100000 in
theorem ua (H:Type) (enc:TypeId×Value→H) (W:World) (base:Nat) (args:Array Value) (ds gs:List (DataW H)) (before:List MemPlace)
  (hval: ∀(j:Nat) t v,Tryz.f10.params[j]? =some t→args[j]? =some v→Value.okWide Tryz.prog W .any base t v)
  (hW:DataW.Whole enc Tryz.prog Tryz.f10.params.toList Rows.rosfileFindsSpec.vars false W args.toList ds gs before) (hk:Rows.uptoSmall H (ds++gs)=true):
  Calls Tryz.prog 10 args W fun e W'=> ∃v,e= .returned v∧Rows.rosfileFindsSpec.post enc Tryz.prog Tryz.f10 false true false false W args v W':=by
 have hW':=hW;obtain ⟨p,q,hA0,hV,_,_,_⟩:=hW;have hA:DataW.TrodAll enc Tryz.prog W 0 (fun _=>true) true Tryz.f10.params.toList args.toList ds p:=hA0;clear hA0;rw [Tryz.params10] at hA hval;obtain ⟨v0,v1,d0,d1,p0,p1,rfl,rfl,_,h0,h1⟩:=trodAll_two hA;obtain ⟨rfl,_⟩:=trodVars_none hV;have hb:=of_decide_eq_true hk;simp only [List.append_nil,Rows.uptoBulkAll] at hb;obtain ⟨x0,a0,s0⟩:=DK (OW H) Tryz.underlying62 Ra rfl (HJ hval 0 (t:=62) (v:=v0) rfl rfl) h0 (by show Rows.uptoBulk d0≤_;omega);have k0:=La a0 s0 (by show Rows.uptoBulk d0≤_;omega)
 obtain ⟨x1,a1⟩:=DK (OW H) Tryz.underlying57 OY rfl (HJ hval 1 (t:=57) (v:=v1) rfl rfl) h1 (by show Rows.uptoBulk d1≤_;omega);replace a1:=a1.1;have hlaw:=FL (id:=x1) k0;refine (xq (JS W) a0 a1 hlaw).mono fun e W' he=> ?_;cases e with
 |returned v=>
  obtain ⟨m',_,hS',hv⟩:=he;obtain ⟨cs,hcs,rfl⟩:=hv;have hcs':cs=[Value.bool true]:=hcs;subst hcs';refine ⟨_,rfl,HI hW' K8 (fun t ht=> ?_) rfl rfl Tryz.underlying4 rfl hS'.below.toBelow⟩;rw [Tryz.params10] at ht;simp only [List.mem_cons,List.not_mem_nil,or_false] at ht;rcases ht with rfl|rfl
  ·exact Rc
  ·exact Rb
 |panicked ch=>exact he.elim
 |outgrown=>exact he.elim
set_option maxRecDepth 100000 in
theorem vn (os:Os) (started:os.Started) (H:Type) (enc:TypeId×Value→H) (F:Stop.Interp):
  ReturnsInHanded {} Tryz.checked os 10 .any ((Rows.OpenSpec.upto Rows.rosfileFindsSpec).pre6 enc Tryz.prog Tryz.f10 Rows.rosfileFindsUptoRow.domain false) (((Rows.OpenSpec.upto Rows.rosfileFindsSpec).at F).post enc Tryz.prog Tryz.f10 false true false false):=by
 refine returnsInHanded_of_cond (C:=Tryz.checked) (s:=Rows.OpenSpec.upto Rows.rosfileFindsSpec) (k:=Rows.uptoSmall) rfl own started (by kernel_rfl) Tryz.func10
  (OpenSpec.witness (enc:=enc) (C:=Tryz.checked) (s:=Rows.OpenSpec.upto Rows.rosfileFindsSpec) (k:=Rows.uptoSmall) rfl false ⟨#[],#[.agg #[.int .i64 0,.slice none 0 0,.slice none 0 0,.slice none 0 0],.agg #[.int .u64 0,.int .u32 0]],[]⟩ 8 (by kernel_rfl) (by kernel_rfl) (by kernel_rfl)
   (x:=([.agg [.lit (.int .i64 0),.nil,.nil,.nil],.agg [.lit (.int .u64 0),.lit (.int .u32 0)]],[],[])) (by kernel_rfl) rfl (by kernel_rfl)) ?_
 intro W base args ds gs before hval hW _ hk _;exact ua H enc W base args ds gs before hval hW hk
theorem rosfileFinds_holds:Rows.RosfileFindsUptoSaid:=
 OpenClaim.holds_of_cond 10 Tryz.f10 rfl rfl rfl rfl rfl rfl rfl ⟨rfl,rfl,rfl,rfl,rfl⟩ rfl rfl rfl rfl rfl (by kernel_rfl) Tryz.func10 (by kernel_rfl)
  (of_decide_eq_true (by kernel_rfl)) (by unfold Func.isWrapper;first|(rw [if_pos (by decide+kernel)];kernel_rfl)|(rw [if_neg (by decide+kernel)];exact ⟨rfl,rfl⟩))
  (fun os started H enc _ F=>vn os started H enc F)
end Go.Proofs.YthbonoagbeilkaaGreat
