import Derived.Test.YthbonoagbeilkaaGreatHbkC3
import Derived.Test.YthbonoagbeilkaaGreatHeE
import Derived.ProofKit
import Derived.OpenShut
import Derived.JoinedCond
/- For every input of bulk at most 1048576 the call of RosfileFrom returns true, and each argument reads behind it as it did. Condition: the bulk alone. -/
namespace Go.Proofs.YthbonoagbeilkaaGreat
open Go.ChangeShapes Go.WideShapes Go.ChangeAt Go.RowKit Hay
set_option maxRecDepth 100000 in
theorem vy (H:Type) (enc:TypeId×Value→H) (W:World) (base:Nat) (args:Array Value) (ds gs:List (DataW H)) (before:List MemPlace)
  (hval:∀(j:Nat) t v,Tryz.f12.params[j]? =some t→args[j]? =some v→Value.okWide Tryz.prog W .any base t v)
  (hW:DataW.Whole enc Tryz.prog Tryz.f12.params.toList Rows.rosfileFromSpec.vars false W args.toList ds gs before) (hk:Rows.uptoSmall H (ds++gs)=true):
  Calls Tryz.prog 12 args W λe W'=>∃v,e= .returned v∧Rows.rosfileFromSpec.post enc Tryz.prog Tryz.f12 false true false false W args v W':=by
 have hW':=hW;obtain⟨p,q,hA0,hV,_,_,_⟩:=hW;have hA:DataW.TrodAll enc Tryz.prog W 0 (λ_=>true) true Tryz.f12.params.toList args.toList ds p:=hA0;clear hA0;rw[Tryz.params12] at hA hval;obtain⟨v0,v1,d0,d1,p0,p1,rfl,rfl,_,h0,h1⟩:=trodAll_two hA;obtain⟨rfl,_⟩:=trodVars_none hV;have hb:=of_decide_eq_true hk;simp only[List.append_nil,Rows.uptoBulkAll] at hb;obtain⟨x0,a0,s0⟩:=JS (Pv H) Tryz.underlying62 R3 rfl (Ih hval 0 (t:=62) (v:=v0) rfl rfl) h0 (by show Rows.uptoBulk d0≤_;omega);have k0:=LS a0 s0 (by show Rows.uptoBulk d0≤_;omega)
 obtain⟨x1,a1,s1⟩:=Ii (Pv H) Tryz.underlying22 Pw (Ih hval 1 (t:=22) (v:=v1) rfl rfl) h1 (by show Rows.uptoBulk d1≤_;omega);replace s1:=Q6 s1 (by show Rows.uptoBulk d1≤_;omega);have hlaw:=HP k0 s1;refine(y4 (Kt W) a0 a1 hlaw).mono λe W' he=>?_;cases e with
 |returned v=>
  obtain⟨m',_,hS',hv⟩:=he;obtain⟨cs,hcs,rfl⟩:=hv;have hcs':cs=[Value.bool true]:=hcs;subst hcs';refine⟨_,rfl,Ig hW' LP (λt ht=>?_) rfl rfl Tryz.underlying4 rfl hS'.below.toBelow⟩;rw[Tryz.params12] at ht;simp only[List.mem_cons,List.not_mem_nil,or_false] at ht;rcases ht with rfl|rfl
  ·exact R5
  ·exact R4
 |panicked ch=>exact he.elim
 |outgrown=>exact he.elim
set_option maxRecDepth 100000 in
theorem xk (os:Os) (started:os.Started) (H:Type) (enc:TypeId×Value→H) (F:Stop.Interp):
  ReturnsInHanded {} Tryz.checked os 12 .any ((Rows.OpenSpec.upto Rows.rosfileFromSpec).pre6 enc Tryz.prog Tryz.f12 Rows.rosfileFromUptoRow.domain false) (((Rows.OpenSpec.upto Rows.rosfileFromSpec).at F).post enc Tryz.prog Tryz.f12 false true false false):=by
 refine returnsInHanded_of_cond (C:=Tryz.checked) (s:=Rows.OpenSpec.upto Rows.rosfileFromSpec) (k:=Rows.uptoSmall) rfl own started (by kernel_rfl) Tryz.func12
  (OpenSpec.witness (enc:=enc) (C:=Tryz.checked) (s:=Rows.OpenSpec.upto Rows.rosfileFromSpec) (k:=Rows.uptoSmall) rfl false ⟨#[],#[.agg #[.int .i64 0,.slice none 0 0,.slice none 0 0,.slice none 0 0],.slice none 0 0],[]⟩ 8 (by kernel_rfl) (by kernel_rfl) (by kernel_rfl)
   (x:=([.agg [.lit (.int .i64 0),.nil,.nil,.nil],.nil],[],[])) (by kernel_rfl) rfl (by kernel_rfl)) ?_
 intro W base args ds gs before hval hW _ hk _;exact vy H enc W base args ds gs before hval hW hk
theorem rosfileFrom_holds:Rows.RosfileFromUptoSaid:=
 OpenClaim.holds_of_cond 12 Tryz.f12 rfl rfl rfl rfl rfl rfl rfl ⟨rfl,rfl,rfl,rfl,rfl⟩ rfl rfl rfl rfl rfl (by kernel_rfl) Tryz.func12 (by kernel_rfl)
  (of_decide_eq_true (by kernel_rfl)) (by unfold Func.isWrapper;first|(rw[if_pos (by decide+kernel)];kernel_rfl)|(rw[if_neg (by decide+kernel)];exact⟨rfl,rfl⟩))
  (λos started H enc _ F=>xk os started H enc F)
end Go.Proofs.YthbonoagbeilkaaGreat
