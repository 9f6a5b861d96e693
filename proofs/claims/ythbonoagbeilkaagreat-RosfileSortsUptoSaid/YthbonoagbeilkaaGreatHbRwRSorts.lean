import Derived.Test.YthbonoagbeilkaaGreatHbkC1
import Derived.Test.YthbonoagbeilkaaGreatHcZ
import Derived.ProofKit
import Derived.OpenShut
import Derived.JoinedCond
/- For every input of bulk at most 1048576 the call of RosfileSorts returns true, and each argument reads behind it as it did. Condition: the bulk alone. -/
namespace Go.Proofs.YthbonoagbeilkaaGreat
open Go.ChangeShapes Go.WideShapes Go.ChangeAt Go.RowKit Hay
set_option maxRecDepth 100000 in
theorem rB (H:Type)(enc:TypeId×Value->H)(W:World)(b0:Nat)(args:Array Value)(ds gs:List (DataW H))(b2:List MemPlace)
  (a2:∀(j:Nat) t v,Tryz.f6.params[j]? =some t->args[j]? =some v->Value.okWide Tryz.prog W .any b0 t v)
  (hW:DataW.Whole enc Tryz.prog Tryz.f6.params.toList Rows.rosfileSortsSpec.vars false W args.toList ds gs b2) (hk:Rows.uptoSmall H (ds++gs)=true):
  Calls Tryz.prog 6 args W λe W'=>∃v,e= .returned v/\Rows.rosfileSortsSpec.post enc Tryz.prog Tryz.f6 false true false false W args v W':=by
 have a9:=hW;obtain⟨p,q,a3,hV,_,_,_⟩:=hW;have hA:DataW.TrodAll enc Tryz.prog W 0 (λ_=>true) true Tryz.f6.params.toList args.toList ds p:=a3;clear a3;rw[Tryz.params6] at hA a2;obtain⟨v0,v1,d0,d1,p0,p1,rfl,rfl,_,h0,h1⟩:=trodAll_two hA;obtain⟨rfl,_⟩:=trodVars_none hV;have hb:=of_decide_eq_true hk;simp only[List.append_nil,Rows.uptoBulkAll] at hb;obtain⟨x0,a0,s0⟩:=xW (Mm H) Tryz.underlying49 O4 (E2 a2 0 (t:=49) (v:=v0) rfl rfl) h0 (by show Rows.uptoBulk d0<=_;omega);replace s0:=Ob s0 (by show Rows.uptoBulk d0<=_;omega)
 obtain⟨x1,a1,h⟩:=xW (Mm H) Tryz.underlying50 O3 (E2 a2 1 (t:=50) (v:=v1) rfl rfl) h1 (by show Rows.uptoBulk d1<=_;omega);replace h:=Oc h (by show Rows.uptoBulk d1<=_;omega);have a5:=CU s0 h.1 h.2;refine(uo (Hj W) a0 a1 a5).mono λe W' J=>?_;cases e with
 |returned v=>
  obtain⟨m',_,b1,hv⟩:=J;obtain⟨cs,a4,rfl⟩:=hv;have a6:cs=[Value.bool true]:=a4;subst a6;refine⟨_,rfl,E1 a9 Iy (λt Z=>?_) rfl rfl Tryz.underlying4 rfl b1.below.toBelow⟩;rw[Tryz.params6] at Z;simp only[List.mem_cons,List.not_mem_nil,or_false] at Z;rcases Z with rfl|rfl
  ·exact O5
  ·exact O6
 |panicked ch=>exact J.elim
 |outgrown=>exact J.elim
set_option maxRecDepth 100000 in
theorem sR (os:Os)(Z:os.Started)(H:Type)(enc:TypeId×Value->H)(F:Stop.Interp):
  ReturnsInHanded {} Tryz.checked os 6 .any ((Rows.OpenSpec.upto Rows.rosfileSortsSpec).pre6 enc Tryz.prog Tryz.f6 Rows.rosfileSortsUptoRow.domain false) (((Rows.OpenSpec.upto Rows.rosfileSortsSpec).at F).post enc Tryz.prog Tryz.f6 false true false false):=by
 refine returnsInHanded_of_cond (C:=Tryz.checked) (s:=Rows.OpenSpec.upto Rows.rosfileSortsSpec) (k:=Rows.uptoSmall) rfl own Z (by kernel_rfl) Tryz.func6
  (OpenSpec.witness (enc:=enc) (C:=Tryz.checked) (s:=Rows.OpenSpec.upto Rows.rosfileSortsSpec) (k:=Rows.uptoSmall) rfl false ⟨#[],#[.slice none 0 0,.slice none 0 0],[]⟩ 8 (by kernel_rfl) (by kernel_rfl) (by kernel_rfl)
   (x:=([.nil,.nil],[],[])) (by kernel_rfl) rfl (by kernel_rfl)) ?_
 intro W a0 args ds gs a1 J h _ hk _;exact rB H enc W a0 args ds gs a1 J h hk
theorem rosfileSorts_holds:Rows.RosfileSortsUptoSaid:=
 OpenClaim.holds_of_cond 6 Tryz.f6 rfl rfl rfl rfl rfl rfl rfl ⟨rfl,rfl,rfl,rfl,rfl⟩ rfl rfl rfl rfl rfl (by kernel_rfl) Tryz.func6 (by kernel_rfl)
  (of_decide_eq_true (by kernel_rfl)) (by unfold Func.isWrapper;first|(rw[if_pos (by decide+kernel)];kernel_rfl)|(rw[if_neg (by decide+kernel)];exact⟨rfl,rfl⟩))
  (λos h H enc _ F=>sR os h H enc F)
end Go.Proofs.YthbonoagbeilkaaGreat
