import Derived.Test.YthbonoagbeilkaaGreatHbkC3
import Derived.Test.YthbonoagbeilkaaGreatHeE
import Derived.ProofKit
import Derived.OpenShut
import Derived.JoinedCond
/- For every input of bulk at most 1048576 the call of RosfileSpoilt returns true, and each argument reads behind it as it did. Condition: the bulk alone. -/
namespace Go.Proofs.YthbonoagbeilkaaGreat
open Go.ChangeShapes Go.WideShapes Go.ChangeAt Go.RowKit Hay
set_option maxRecDepth 100000 in
theorem tR (H:Type) (enc:TypeId×Value→H) (W:World) (base:Nat) (args:Array Value) (ds gs:List (DataW H)) (before:List MemPlace)
  (hval:∀(j:Nat) t v,Tryz.f8.params[j]? =some t→args[j]? =some v→Value.okWide Tryz.prog W .any base t v)
  (hW:DataW.Whole enc Tryz.prog Tryz.f8.params.toList Rows.rosfileSpoiltSpec.vars false W args.toList ds gs before) (hk:Rows.uptoSmall H (ds++gs)=true):
  Calls Tryz.prog 8 args W λe W'=>∃v,e= .returned v∧Rows.rosfileSpoiltSpec.post enc Tryz.prog Tryz.f8 false true false false W args v W':=by
 have hW':=hW;obtain⟨p,q,hA0,hV,_,_,_⟩:=hW;have hA:DataW.TrodAll enc Tryz.prog W 0 (λ_=>true) true Tryz.f8.params.toList args.toList ds p:=hA0;clear hA0;rw[Tryz.params8] at hA hval;obtain⟨v0,v1,d0,d1,p0,p1,rfl,rfl,_,h0,h1⟩:=trodAll_two hA;obtain⟨rfl,_⟩:=trodVars_none hV;have hb:=of_decide_eq_true hk;simp only[List.append_nil,Rows.uptoBulkAll] at hb;obtain⟨x0,a0,s0⟩:=Jz (Ru H) Tryz.underlying62 RD rfl (H0 hval 0 (t:=62) (v:=v0) rfl rfl) h0 (by show Rows.uptoBulk d0≤_;omega);have k0:=Lx a0 s0 (by show Rows.uptoBulk d0≤_;omega)
 obtain⟨n1,rfl,a1⟩:=Ln Tryz.underlying3 (H0 hval 1 (t:=3) (v:=v1) rfl rfl) h1;have hlaw:=Ea (at_:=n1) k0;refine(w6 (J8 W) a0 a1 hlaw).mono λe W' he=>?_;cases e with
 |returned v=>
  obtain⟨m',_,hS',hv⟩:=he;obtain⟨cs,hcs,rfl⟩:=hv;have hcs':cs=[Value.bool true]:=hcs;subst hcs';refine⟨_,rfl,HZ hW' Lu (λt ht=>?_) rfl rfl Tryz.underlying4 rfl hS'.below.toBelow⟩;rw[Tryz.params8] at ht;simp only[List.mem_cons,List.not_mem_nil,or_false] at ht;rcases ht with rfl|rfl
  ·exact RE
  ·exact sp3
 |panicked ch=>exact he.elim
 |outgrown=>exact he.elim
set_option maxRecDepth 100000 in
theorem vl (os:Os) (started:os.Started) (H:Type) (enc:TypeId×Value→H) (F:Stop.Interp):
  ReturnsInHanded {} Tryz.checked os 8 .any ((Rows.OpenSpec.upto Rows.rosfileSpoiltSpec).pre6 enc Tryz.prog Tryz.f8 Rows.rosfileSpoiltUptoRow.domain false) (((Rows.OpenSpec.upto Rows.rosfileSpoiltSpec).at F).post enc Tryz.prog Tryz.f8 false true false false):=by
 refine returnsInHanded_of_cond (C:=Tryz.checked) (s:=Rows.OpenSpec.upto Rows.rosfileSpoiltSpec) (k:=Rows.uptoSmall) rfl own started (by kernel_rfl) Tryz.func8
  (OpenSpec.witness (enc:=enc) (C:=Tryz.checked) (s:=Rows.OpenSpec.upto Rows.rosfileSpoiltSpec) (k:=Rows.uptoSmall) rfl false ⟨#[],#[.agg #[.int .i64 0,.slice none 0 0,.slice none 0 0,.slice none 0 0],.int .i64 0],[]⟩ 8 (by kernel_rfl) (by kernel_rfl) (by kernel_rfl)
   (x:=([.agg [.lit (.int .i64 0),.nil,.nil,.nil],.lit (.int .i64 0)],[],[])) (by kernel_rfl) rfl (by kernel_rfl)) ?_
 intro W base args ds gs before hval hW _ hk _;exact tR H enc W base args ds gs before hval hW hk
theorem rosfileSpoilt_holds:Rows.RosfileSpoiltUptoSaid:=
 OpenClaim.holds_of_cond 8 Tryz.f8 rfl rfl rfl rfl rfl rfl rfl ⟨rfl,rfl,rfl,rfl,rfl⟩ rfl rfl rfl rfl rfl (by kernel_rfl) Tryz.func8 (by kernel_rfl)
  (of_decide_eq_true (by kernel_rfl)) (by unfold Func.isWrapper;first|(rw[if_pos (by decide+kernel)];kernel_rfl)|(rw[if_neg (by decide+kernel)];exact⟨rfl,rfl⟩))
  (λos started H enc _ F=>vl os started H enc F)
end Go.Proofs.YthbonoagbeilkaaGreat
