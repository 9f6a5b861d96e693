import Derived.Test.YthbonoagbeilkaaGreatHbkC3
import Derived.Test.YthbonoagbeilkaaGreatHeE
import Derived.ProofKit
import Derived.OpenShut
import Derived.JoinedCond
/- For every input of bulk at most 1048576 the call of RosfileReads returns true, and each argument reads behind it as it did. Condition: the bulk alone. -/
namespace Go.Proofs.YthbonoagbeilkaaGreat
open Go.ChangeShapes Go.WideShapes Go.ChangeAt Go.RowKit Hay
set_option maxRecDepth 100000 in
theorem wS (H:Type)(enc:TypeId×Value->H)(W:World)(b0:Nat)(args:Array Value)(ds gs:List (DataW H))(b2:List MemPlace)(h:∀(j:Nat)t v,Tryz.f13.params[j]?=some t->args[j]?=some v->Value.okWide Tryz.prog W .any b0 t v)(hW:DataW.Whole enc Tryz.prog Tryz.f13.params.toList Rows.rosfileReadsSpec.vars false W args.toList ds gs b2) (hk:Rows.uptoSmall H (ds++gs)=true):Calls Tryz.prog 13 args W λe W'=>∃v,e=.returned v/\Rows.rosfileReadsSpec.post enc Tryz.prog Tryz.f13 false true false false W args v W':=by
 have a4:=hW;obtain⟨p,q,a3,hV,_,_,_⟩:=hW;have hA:DataW.TrodAll enc Tryz.prog W 0 (λ_=>true) true Tryz.f13.params.toList args.toList ds p:=a3;clear a3;rw[Tryz.params13]at hA h;obtain⟨v0,v1,v2,d0,d1,d2,p0,p1,p2,rfl,rfl,_,h0,h1,h2⟩:=trodAll_three hA;obtain⟨rfl,_⟩:=trodVars_none hV;have hb:=of_decide_eq_true hk;simp only[List.append_nil,Rows.uptoBulkAll]at hb;obtain⟨x0,a0,s0⟩:=Ec (Ub H) Tryz.underlying24 Xv (GP h 0 (t:=24) (v:=v0) rfl rfl) h0 (by show Rows.uptoBulk d0<=_;omega);replace s0:=WE s0 (by show Rows.uptoBulk d0<=_;omega);obtain⟨x1,a1,Z⟩:=Ec (Ub H) Tryz.underlying22 Xx (GP h 1 (t:=22) (v:=v1) rfl rfl) h1 (by show Rows.uptoBulk d1<=_;omega);replace Z:=WF Z (by show Rows.uptoBulk d1<=_;omega);obtain⟨n2,rfl,a2⟩:=Pb Tryz.underlying3 (GP h 2 (t:=3) (v:=v2) rfl rfl) h2;have a9:=IQ (n:=n2) (Uc a0) s0 Z;refine(Az (NM W) a0 a1 a2 a9).mono λe W' J=>?_;cases e with
 |returned v=>
  obtain⟨m',_,a6,hv⟩:=J;obtain⟨cs,a5,rfl⟩:=hv;have b1:cs=[Value.bool true]:=a5;subst b1;refine⟨_,rfl,K1 a4 Pd (λt ht=>?_) rfl rfl Tryz.underlying4 rfl a6.below.toBelow⟩;rw[Tryz.params13]at ht;simp only[List.mem_cons,List.not_mem_nil,or_false]at ht;rcases ht with rfl|rfl|rfl;·exact Xz
  ·exact Xy
  ·exact sp3|panicked ch=>exact J.elim|outgrown=>exact J.elim
set_option maxRecDepth 100000 in
theorem yu (os:Os)(a1:os.Started)(H:Type)(enc:TypeId×Value->H)(F:Stop.Interp):ReturnsInHanded {} Tryz.checked os 13 .any ((Rows.OpenSpec.upto Rows.rosfileReadsSpec).pre6 enc Tryz.prog Tryz.f13 Rows.rosfileReadsUptoRow.domain false) (((Rows.OpenSpec.upto Rows.rosfileReadsSpec).at F).post enc Tryz.prog Tryz.f13 false true false false):=by
 refine returnsInHanded_of_cond (C:=Tryz.checked) (s:=Rows.OpenSpec.upto Rows.rosfileReadsSpec) (k:=Rows.uptoSmall) rfl own a1 (by kernel_rfl) Tryz.func13 (OpenSpec.witness (enc:=enc) (C:=Tryz.checked) (s:=Rows.OpenSpec.upto Rows.rosfileReadsSpec) (k:=Rows.uptoSmall) rfl false ⟨#[],#[.slice none 0 0,.slice none 0 0,.int .i64 0],[]⟩ 8 (by kernel_rfl) (by kernel_rfl) (by kernel_rfl) (x:=([.nil,.nil,.lit (.int .i64 0)],[],[])) (by kernel_rfl) rfl (by kernel_rfl)) ?_;intro W a2 args ds gs a0 Z h _ J _;exact wS H enc W a2 args ds gs a0 Z h J
theorem rosfileReads_holds:Rows.RosfileReadsUptoSaid:=OpenClaim.holds_of_cond 13 Tryz.f13 rfl rfl rfl rfl rfl rfl rfl ⟨rfl,rfl,rfl,rfl,rfl⟩ rfl rfl rfl rfl rfl (by kernel_rfl) Tryz.func13 (by kernel_rfl) (of_decide_eq_true (by kernel_rfl)) (by unfold Func.isWrapper;first|(rw[if_pos (by decide+kernel)];kernel_rfl)|(rw[if_neg (by decide+kernel)];exact⟨rfl,rfl⟩)) (λos h H enc _ F=>yu os h H enc F)
end Go.Proofs.YthbonoagbeilkaaGreat
