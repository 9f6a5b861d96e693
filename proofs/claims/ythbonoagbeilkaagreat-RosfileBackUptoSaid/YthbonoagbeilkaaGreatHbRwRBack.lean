import Derived.Test.YthbonoagbeilkaaGreatHbkC3
import Derived.Test.YthbonoagbeilkaaGreatHcZ
import Derived.ProofKit
import Derived.OpenShut
import Derived.JoinedCond
/- For every input of bulk at most 1048576 the call of RosfileBack returns true, and each argument reads behind it as it did. Condition: the bulk alone. -/
namespace Go.Proofs.YthbonoagbeilkaaGreat
open Go.ChangeShapes Go.WideShapes Go.ChangeAt Go.RowKit Hay
set_option maxRecDepth 100000 in
theorem s8 (H:Type)(enc:TypeId×Value->H)(W:World)(b0:Nat)(args:Array Value)(ds gs:List (DataW H))(b1:List MemPlace)
  (h:∀(j:Nat) t v,Tryz.f11.params[j]? =some t->args[j]? =some v->Value.okWide Tryz.prog W .any b0 t v)
  (hW:DataW.Whole enc Tryz.prog Tryz.f11.params.toList Rows.rosfileBackSpec.vars false W args.toList ds gs b1) (hk:Rows.uptoSmall H (ds++gs)=true):
  Calls Tryz.prog 11 args W λe W'=>∃v,e= .returned v/\Rows.rosfileBackSpec.post enc Tryz.prog Tryz.f11 false true false false W args v W':=by
 have a9:=hW;obtain⟨p,q,a3,hV,_,_,_⟩:=hW;have hA:DataW.TrodAll enc Tryz.prog W 0 (λ_=>true) true Tryz.f11.params.toList args.toList ds p:=a3;clear a3;rw[Tryz.params11] at hA h;obtain⟨v0,v1,v2,d0,d1,d2,p0,p1,p2,rfl,rfl,_,h0,h1,h2⟩:=trodAll_three hA;obtain⟨rfl,_⟩:=trodVars_none hV;have hb:=of_decide_eq_true hk;simp only[List.append_nil,Rows.uptoBulkAll] at hb;obtain⟨x0,a0,s0⟩:=G5 (MI H) Tryz.underlying62 Pp rfl (Bj h 0 (t:=62) (v:=v0) rfl rfl) h0 (by show Rows.uptoBulk d0<=_;omega);have k0:=IW a0 s0 (by show Rows.uptoBulk d0<=_;omega)
 obtain⟨x1,a1,s1⟩:=Fq (MI H) Tryz.underlying49 G4 (Bj h 1 (t:=49) (v:=v1) rfl rfl) h1 (by show Rows.uptoBulk d1<=_;omega);replace s1:=Dt s1 (by show Rows.uptoBulk d1<=_;omega);obtain⟨n2,rfl,a2⟩:=IS Tryz.underlying3 (Bj h 2 (t:=3) (v:=v2) rfl rfl) h2;have b2:=EW (n:=n2) k0 s1;refine(vL (HF W) a0 a1 a2 b2).mono λe W' Z=>?_;cases e with
 |returned v=>
  obtain⟨m',_,a4,hv⟩:=Z;obtain⟨cs,a5,rfl⟩:=hv;have a6:cs=[Value.bool true]:=a5;subst a6;refine⟨_,rfl,Fp a9 IU (λt J=>?_) rfl rfl Tryz.underlying4 rfl a4.below.toBelow⟩;rw[Tryz.params11] at J;simp only[List.mem_cons,List.not_mem_nil,or_false] at J;rcases J with rfl|rfl|rfl
  ·exact Pr
  ·exact Pq
  ·exact sp3
 |panicked ch=>exact Z.elim
 |outgrown=>exact Z.elim
set_option maxRecDepth 100000 in
theorem uq (os:Os)(a0:os.Started)(H:Type)(enc:TypeId×Value->H)(F:Stop.Interp):
  ReturnsInHanded {} Tryz.checked os 11 .any ((Rows.OpenSpec.upto Rows.rosfileBackSpec).pre6 enc Tryz.prog Tryz.f11 Rows.rosfileBackUptoRow.domain false) (((Rows.OpenSpec.upto Rows.rosfileBackSpec).at F).post enc Tryz.prog Tryz.f11 false true false false):=by
 refine returnsInHanded_of_cond (C:=Tryz.checked) (s:=Rows.OpenSpec.upto Rows.rosfileBackSpec) (k:=Rows.uptoSmall) rfl own a0 (by kernel_rfl) Tryz.func11
  (OpenSpec.witness (enc:=enc) (C:=Tryz.checked) (s:=Rows.OpenSpec.upto Rows.rosfileBackSpec) (k:=Rows.uptoSmall) rfl false ⟨#[],#[.agg #[.int .i64 0,.slice none 0 0,.slice none 0 0,.slice none 0 0],.slice none 0 0,.int .i64 0],[]⟩ 8 (by kernel_rfl) (by kernel_rfl) (by kernel_rfl)
   (x:=([.agg [.lit (.int .i64 0),.nil,.nil,.nil],.nil,.lit (.int .i64 0)],[],[])) (by kernel_rfl) rfl (by kernel_rfl)) ?_
 intro W h args ds gs a1 Z hW _ J _;exact s8 H enc W h args ds gs a1 Z hW J
theorem rosfileBack_holds:Rows.RosfileBackUptoSaid:=
 OpenClaim.holds_of_cond 11 Tryz.f11 rfl rfl rfl rfl rfl rfl rfl ⟨rfl,rfl,rfl,rfl,rfl⟩ rfl rfl rfl rfl rfl (by kernel_rfl) Tryz.func11 (by kernel_rfl)
  (of_decide_eq_true (by kernel_rfl)) (by unfold Func.isWrapper;first|(rw[if_pos (by decide+kernel)];kernel_rfl)|(rw[if_neg (by decide+kernel)];exact⟨rfl,rfl⟩))
  (λos h H enc _ F=>uq os h H enc F)
end Go.Proofs.YthbonoagbeilkaaGreat
