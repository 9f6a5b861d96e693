import Derived.Test.YthbonoagbeilkaaGreatHbkC3
import Derived.Test.YthbonoagbeilkaaGreatHfB
import Derived.ProofKit
import Derived.OpenShut
import Derived.JoinedCond
/- For every input of bulk at most 1048576 the call of RosfileCuts returns true, and each argument reads behind it as it did. Condition: the bulk alone. -/
namespace Go.Proofs.YthbonoagbeilkaaGreat
open Go.ChangeShapes Go.WideShapes Go.ChangeAt Go.RowKit Hay
set_option maxRecDepth 100000 in
theorem wF (H:Type)(enc:TypeId×Value->H)(W:World)(a5:Nat)(args:Array Value)(ds gs:List (DataW H))(a4:List MemPlace)
  (h:∀(j:Nat) t v,Tryz.f9.params[j]? =some t->args[j]? =some v->Value.okWide Tryz.prog W .any a5 t v)
  (hW:DataW.Whole enc Tryz.prog Tryz.f9.params.toList Rows.rosfileCutsSpec.vars false W args.toList ds gs a4) (hk:Rows.uptoSmall H (ds++gs)=true):
  Calls Tryz.prog 9 args W λe W'=>∃v,e= .returned v/\Rows.rosfileCutsSpec.post enc Tryz.prog Tryz.f9 false true false false W args v W':=by
 have b1:=hW;obtain⟨p,q,a3,hV,_,_,_⟩:=hW;have hA:DataW.TrodAll enc Tryz.prog W 0 (λ_=>true) true Tryz.f9.params.toList args.toList ds p:=a3;clear a3;rw[Tryz.params9] at hA h;obtain⟨v0,v1,v2,d0,d1,d2,p0,p1,p2,rfl,rfl,_,h0,h1,h2⟩:=trodAll_three hA;obtain⟨rfl,_⟩:=trodVars_none hV;have hb:=of_decide_eq_true hk;simp only[List.append_nil,Rows.uptoBulkAll] at hb;obtain⟨x0,a0,s0⟩:=Lu (Vy H) Tryz.underlying62 VG rfl (Fu h 0 (t:=62) (v:=v0) rfl rfl) h0 (by show Rows.uptoBulk d0<=_;omega);have k0:=NJ a0 s0 (by show Rows.uptoBulk d0<=_;omega)
 obtain⟨n1,rfl,a1⟩:=Gy Tryz.underlying3 (Fu h 1 (t:=3) (v:=v1) rfl rfl) h1;obtain⟨n2,rfl,a2⟩:=Gy Tryz.underlying5 (Fu h 2 (t:=5) (v:=v2) rfl rfl) h2;have a6:=Ja (cut:=n1) k0 (UJ a2);refine(zW (Mn W) a0 a1 a2 a6).mono λe W' J=>?_;cases e with
 |returned v=>
  obtain⟨m',_,b0,hv⟩:=J;obtain⟨cs,a9,rfl⟩:=hv;have b2:cs=[Value.bool true]:=a9;subst b2;refine⟨_,rfl,JE b1 NG (λt Z=>?_) rfl rfl Tryz.underlying4 rfl b0.below.toBelow⟩;rw[Tryz.params9] at Z;simp only[List.mem_cons,List.not_mem_nil,or_false] at Z;rcases Z with rfl|rfl|rfl
  ·exact VH
  ·exact sp3
  ·exact sp5
 |panicked ch=>exact J.elim
 |outgrown=>exact J.elim
set_option maxRecDepth 100000 in
theorem yh (os:Os)(h:os.Started)(H:Type)(enc:TypeId×Value->H)(F:Stop.Interp):
  ReturnsInHanded {} Tryz.checked os 9 .any ((Rows.OpenSpec.upto Rows.rosfileCutsSpec).pre6 enc Tryz.prog Tryz.f9 Rows.rosfileCutsUptoRow.domain false) (((Rows.OpenSpec.upto Rows.rosfileCutsSpec).at F).post enc Tryz.prog Tryz.f9 false true false false):=by
 refine returnsInHanded_of_cond (C:=Tryz.checked) (s:=Rows.OpenSpec.upto Rows.rosfileCutsSpec) (k:=Rows.uptoSmall) rfl own h (by kernel_rfl) Tryz.func9
  (OpenSpec.witness (enc:=enc) (C:=Tryz.checked) (s:=Rows.OpenSpec.upto Rows.rosfileCutsSpec) (k:=Rows.uptoSmall) rfl false ⟨#[],#[.agg #[.int .i64 0,.slice none 0 0,.slice none 0 0,.slice none 0 0],.int .i64 0,.int .u8 0],[]⟩ 8 (by kernel_rfl) (by kernel_rfl) (by kernel_rfl)
   (x:=([.agg [.lit (.int .i64 0),.nil,.nil,.nil],.lit (.int .i64 0),.lit (.int .u8 0)],[],[])) (by kernel_rfl) rfl (by kernel_rfl)) ?_
 intro W a1 args ds gs J a0 hW _ Z _;exact wF H enc W a1 args ds gs J a0 hW Z
theorem rosfileCuts_holds:Rows.RosfileCutsUptoSaid:=
 OpenClaim.holds_of_cond 9 Tryz.f9 rfl rfl rfl rfl rfl rfl rfl ⟨rfl,rfl,rfl,rfl,rfl⟩ rfl rfl rfl rfl rfl (by kernel_rfl) Tryz.func9 (by kernel_rfl)
  (of_decide_eq_true (by kernel_rfl)) (by unfold Func.isWrapper;first|(rw[if_pos (by decide+kernel)];kernel_rfl)|(rw[if_neg (by decide+kernel)];exact⟨rfl,rfl⟩))
  (λos h H enc _ F=>yh os h H enc F)
end Go.Proofs.YthbonoagbeilkaaGreat
