import Derived.Test.YthbonoagbeilkaaGreatExQ
import Derived.Test.YthbonoagbeilkaaGreatHbW
import Derived.Test.YthbonoagbeilkaaGreatProg
import Derived.Test.YthbonoagbeilkaaGreatHbA
import Derived.Shelf.SlSortCmp.NoneTotal
import Derived.Shelf.SlLaysF0
namespace Go.Proofs.YthbonoagbeilkaaGreat.Hay
open Option renaming bind_some→zh,bind_assoc→Zm,map_some→X9
open List renaming length_append→zw,getElem?_eq_getElem→Jn,drop_eq_getElem_cons→Q0,getElem_mem→Q1,eq_nil_of_length_eq_zero→Q2,take_of_length_le→Q3,take_append_drop→Q4,append_assoc→Q5,take_succ_eq_append_getElem→Q6,replicate→Q8,length_cons→Q9,drop_of_length_le→Qa,take_length→Qb,length_singleton→Qc,range→Qd,map_append→Qf,mem_append→Qh,cons_append→Qi,nil_append→Ql,drop_left→Qo,append_nil→Qp,getElem?_eq_some_iff→Qq,all_eq_true→Qr,pairwise_append→Qs,length_map→Qt,length_pos_iff→Qu,getElem_of_mem→Qv,mem_map→Qz,flatMap_cons→Z0,take_left'→Z1,drop_left'→Z2,mem_cons→Z4,drop_zero→Z7,mem_singleton→Z8,take_append_of_le_length→Za,length_replicate→Zb,drop_length→Zg,getElem?_append_right→Zj,flatten_append→Zk,map_congr_left→Zl,getElem?_append_left→Zn,pairwise_iff_getElem→Zo,mem_replicate→Zp,pairwise_cons→Zq,eq_of_mem_replicate→Zr,take_add_one→Zs,mem_range→Zt,length_eq_one_iff→Zu,getElem_map→Zv,length_take→Zw,length_drop→Zx,singleton_append→Zy,foldl_cons→Zz,take_left→X4,length→X6,map_cons→Xa
open Nat renaming le_refl→Qj,two_pow_add_eq_or_of_lt→Qw,pow_le_pow_right→Qy,strongRecOn→Z6,mul_le_mul→Z9,mul_le_mul_left→Zd,lt_of_lt_of_le→Zi
open Bool renaming and_eq_true→Qm,not_eq_true'→Qn,false_eq_true→Qx,eq_false_or_eq_true→Z3,and_eq_false_iff→Zc,or_eq_false_iff→Ze,not_true→X8
open Int renaming eq_ofNat_of_zero_le→Q7,emod_eq_of_lt→Qg,natCast_pow→Zf,fdiv_eq_ediv_of_nonneg→Zh,mul_comm→X7
open BitVec renaming ofInt→Qk,toNat_ofInt→Z5
open IntKind renaming i64→Qe,u64→X3,u8→X5,u32→Xb
theorem eP {kind:Int}{l:List Ap}{b:List Int}(h:enc kind l=(b,0)):(0<=kind/\kind<=4)/\l.length<=64/\l.all right=true/\((kind=2\/kind=4)->kS l=true)/\((l=[]/\b=[])\/(l≠[]/\b=pG kind l)):=by
 unfold enc at h;split at h
 ·cases h
 rename_i h1;split at h
 ·cases h
 rename_i h2;split at h
 ·cases h
 rename_i W;split at h
 ·cases h
 rename_i Z;refine⟨by omega,by omega,by simpa using W,λh5=>?_,?_⟩
 ·cases hi:kS l with
  |true=>rfl
  |false=>exact absurd ⟨h5,hi⟩ Z
 ·split at h
  ·rename_i J;left;exact⟨J,(Prod.mk.inj h).1.symm⟩
  ·rename_i J;right;exact⟨J,(Prod.mk.inj h).1.symm⟩
def MB (kind:Int)(b:List Int)(many:Nat)(g:List Ap)(ok:Bool):Prop:= ∀l:List Ap,(∀v∈l,Rgt v)->l.length=many->enc kind l=(b,0)->g=l/\ok=true
def jn (kind:Int)(b:List Int)(many:Nat)(x:List Ap×ae):Prop:=(∀v∈x.1,VOK v)/\x.1.length<=1048576/\MB kind b many x.1 x.2.fOk
theorem AS {l:List Ap}{k:Nat}(h:k<l.length):mU (l.drop k)=bn l[k]++mU (l.drop (k+1)):=by
 unfold mU;rw[Q0 h,Z0]
theorem tC {v:Ap}(h:Rgt v){r:List Int}{ok:Bool}{rest:List Int}(Z:r=bn v++rest)(J:Byt r)(W:r.length<140737488355328):cN ⟨r,ok⟩=some (v,⟨rest,ok⟩):=by
 rw[zJ J W];dsimp only;rw[Z,od h];dsimp only;rw[Qo]
theorem tD {r:ae}(J:Byt r.fB)(W:r.fB.length<140737488355328):∃v r',cN r=some (v,r')/\Rgt v/\Byt r'.fB/\r'.fB.length<=r.fB.length/\(r.fOk=false->r'.fOk=false):=by
 rw[zJ J W];cases hp:bI r.fB with
 |none=>exact⟨_,_,rfl,.null,J,Qj _,λ_=>rfl⟩
 |some x=>
  obtain⟨v,n⟩:=x;exact⟨_,_,rfl,(lq J hp).1,J.drop _,by simp,λh=>h⟩
theorem AT {b:List Int}{many:Nat}(hb:Byt b)(hl:b.length<140737488355328)(hm:1<=many/\many<=64):∃x,br ⟨b,true⟩ 0 (many:Int)=some x/\jn 0 b many x:=by
 unfold br;rw[if_pos (by decide)];refine eW (I:=λs:List Ap×ae=>Byt s.2.fB/\s.2.fB.length<140737488355328/\(∀v∈s.1,Rgt v)/\s.1.length<=many/\∀l:List Ap,(∀v∈l,Rgt v)->l.length=many->b=mU l->s.1=l.take s.1.length/\s.2=⟨mU (l.drop s.1.length),true⟩) (μ:=λs=>many - s.1.length) (Q:=jn 0 b many) ?_ ⟨hb,hl,by simp,by simp,λl _ _ h=>⟨rfl,by rw[h];rfl⟩⟩;rintro ⟨a0,r⟩ ⟨h1,h2,h3,h4,h5⟩;dsimp only at*
 have a1:a0.length=many\/r.fOk=false->jn 0 b many (a0,r):=λh=>⟨λv hv=>(h3 v hv).ok,by dsimp only;omega,λl hr Z J=>by
  obtain⟨_,_,_,_,J⟩:=eP J
  have a2:b=mU l:=by
   rcases J with⟨e,_⟩|⟨_,e⟩
   ·subst e;simp at Z;omega
   ·exact e
  obtain⟨g1,g2⟩:=h5 l hr Z a2;subst g2;rcases h with h|h
  ·rw[h,←Z,Qb] at g1;exact⟨g1,rfl⟩
  ·cases h⟩
 unfold lS jg bJ
 by_cases hlt:a0.length<many
 ·rw [if_pos (decide_eq_true (by omega))]
  cases hok:r.fOk with
  |false=>right;exact⟨_,rfl,a1 (.inr hok)⟩
  | true=>
   left;rw[if_pos rfl];obtain⟨v,r',e1,e2,e3,e4,_⟩:=tD h1 h2;rw[e1,zh,aQ (by simp;omega),zh];refine⟨_,rfl,⟨e3,by dsimp only;omega,λx W=>?_,by simp;omega,λl hr Z J=>?_⟩,by simp;omega⟩
   ·rcases Qh.1 W with W|W
    ·exact h3 x W
    ·have:x=v:=by simpa using W
     subst this;exact e2
   ·obtain⟨g1,g2⟩:=h5 l hr Z J
    subst g2;have hk:a0.length<l.length:=by omega
    have:=tC (hr _ (Q1 hk)) (ok:=true) (AS hk) h1 h2;rw[this] at e1;obtain⟨rfl,rfl⟩:=Prod.mk.inj (Option.some.inj e1);refine⟨?_,by simp⟩;simp only[zw,Qc];rw[Q6 hk,←g1]
 ·right
  rw[if_neg (by simp;omega),if_neg (by decide)];exact⟨_,rfl,a1 (.inl (by omega))⟩
theorem MC:∀n:_root_.Fin 256,oN 1 ((n.val:Nat):Int)=some (0,((n.val:Nat):Int)):=by decide+kernel
theorem D2 (v:Ap){n:Nat}(hn:n<=255):em [v] (n:Int)=some (Q8 n v):=by
 have W:oN 1 (n:Int)=some (0,(n:Int)):=MC ⟨n,by omega⟩;have e1:X3.wrap ((([v]:List Ap).length:Nat):Int)=1:=by rw[cx];rfl
 have e2:X3.wrap (n:Int)=(n:Int):=by rw[cx];omega
 unfold em gl rU;rw[if_neg (by simp),e1,e2,W,zh,zh];unfold eD gk;dsimp only;rw[if_neg (by simp),if_neg (by simp;omega)];rw[ak (by omega),rZ (by omega),zh];refine my (I:=λs:Int×List Ap=>∃k:Nat,s.1=(k:Int)/\k<=n/\(0<n->0<k)/\s.2=Q8 k v++Q8 (n - k) Ap.zero) (μ:=λs=>n - s.1.toNat) ?_ ?_
 ·rintro ⟨_,_⟩ ⟨k,rfl,hk,a1,rfl⟩
  dsimp only;unfold gj gh;have J:(Q8 k v++Q8 (n - k) Ap.zero).length=n:=by simp;omega
  by_cases hlt:k<n
  ·left
   have a3:vw (Q8 k v++Q8 (n - k) Ap.zero) (k:Int) ((Q8 k v++Q8 (n - k) Ap.zero).length:Int)=some (k,n - k):=by
    unfold vw;rw[if_pos (by omega),J];simp
   have a2:vw (Q8 k v++Q8 (n - k) Ap.zero) 0 (k:Int)=some (0,k):=by
    unfold vw;rw[if_pos (by omega)];simp
   have a0:Nat.ble (min k (n - k)) bU=true:=Nat.ble_eq_true_of_le (by unfold bU;omega);rw[if_pos (by rw[J];exact decide_eq_true (by omega)),a3,zh,a2,zh];dsimp only;rw[py a0,zh]
   have hc:cpv (Q8 k v++Q8 (n - k) Ap.zero) (k,n - k) (0,k)=some (Q8 (k+min k (n - k)) v++Q8 (n - (k+min k (n - k))) Ap.zero):=by
    unfold cpv;rw[if_pos (by dsimp only;omega)];dsimp only;unfold spl
    have e3:((Q8 k v++Q8 (n - k) Ap.zero).drop 0).take (min k (n - k))=Q8 (min k (n - k)) v:=by
     rw[Z7,Za (by simp;omega)];rw[List.take_replicate];congr 1;omega
    rw[e3,Z1 (by simp),Zb,List.drop_append,List.drop_replicate,List.drop_replicate,Zb];have e4:k - (k+min k (n - k))=0:=by omega
    have Z:n - k - (k+min k (n - k) - k)=n - (k+min k (n - k)):=by omega
    rw[e4,Z,←Q5,←List.replicate_append_replicate];simp
   rw[hc,zh];refine⟨_,rfl,⟨k+min k (n - k),?_,by omega,by omega,rfl⟩,?_⟩
   ·dsimp only;rw[ak (by omega)];omega
   ·dsimp only;rw[ak (by omega)]
    have:=a1 (by omega);omega
  ·right
   have:k=n:=by omega
   subst this;rw[if_neg (by rw[J];simp)];simp
 ·refine⟨min 1 n,by simp,by omega,by omega,?_⟩
  dsimp only;unfold cpy;rcases Nat.eq_zero_or_pos n with h|h
  ·subst h;rfl
  ·have:min 1 n=1:=by omega
   rw[this];have e:n=(n - 1)+1:=by omega
   rw[e,List.replicate_succ];simp
def tk1 (r:ae):List Int×ae:=match r.fB with|[]=>([0],⟨[],false⟩)|c::t=>([c],⟨t,r.fOk⟩)
theorem take_one (r:ae):cm r 1=some (tk1 r):=by
 have:=wM (r:=r) (n:=1) (by omega);rw[show((1:Nat):Int)=1 from rfl] at this;rw[this];obtain⟨b,ok⟩:=r;unfold tk1;cases b with
 |nil=>rfl
 |cons c t=>simp
theorem sc (c:Int)(t:List Int)(ok:Bool):tk1 ⟨c::t,ok⟩=([c],⟨t,ok⟩):=rfl
theorem uh (r:ae)(h:Byt r.fB):∃c r1,tk1 r=([c],r1)/\(0<=c/\c<256)/\Byt r1.fB/\r1.fB.length<=r.fB.length/\(r1.fOk=false\/(r.fB=c::r1.fB/\r1.fOk=r.fOk)):=by
 obtain⟨b,ok⟩:=r;cases b with
 |nil=>exact⟨0,⟨[],false⟩,rfl,by decide,.nil,Qj _,.inl rfl⟩
 |cons c t=>exact⟨c,⟨t,ok⟩,rfl,h.head,h.tail,by simp,.inr ⟨rfl,rfl⟩⟩
def vI (rs:List aL):List Int:=rs.flatMap λr=>r.fMany::bn r.fValue
theorem vJ {rs:List aL}{j:Nat}(h:j<rs.length):fY (rs.take (j+1))=fY (rs.take j)++Q8 rs[j].fMany.toNat rs[j].fValue:=by
 unfold fY;rw[Q6 h,List.flatMap_append,List.flatMap_singleton]
theorem tE (rs:List aL)(j:Nat):fY rs=fY (rs.take j)++fY (rs.drop j):=by
 unfold fY;rw[←List.flatMap_append,Q4]
theorem CB {b:List Int}{many:Nat}(hb:Byt b)(hl:b.length<140737488355328)(hm:1<=many/\many<=64):∃x,br ⟨b,true⟩ 1 (many:Int)=some x/\jn 1 b many x:=by
 unfold br;rw[if_neg (by decide),if_pos (by decide)];refine eW (I:=λs:List Ap×ae=>Byt s.2.fB/\s.2.fB.length<140737488355328/\(∀v∈s.1,Rgt v)/\s.1.length<=many/\∀l:List Ap,(∀v∈l,Rgt v)->l.length=many->b=ug l->∃j,j<=(cC l).length/\s.1=fY ((cC l).take j)/\s.2=⟨vI ((cC l).drop j),true⟩) (μ:=λs=>if s.2.fOk then s.2.fB.length+1 else 0) (Q:=jn 1 b many) ?_ ⟨hb,hl,by simp,by simp,λl _ _ h=>⟨0,by omega,rfl,by rw[h];rfl⟩⟩;rintro ⟨W,r⟩ ⟨h1,h2,h3,h4,h5⟩;dsimp only at*
 have a5:W.length=many\/r.fOk=false->jn 1 b many (W,r):=λh=>⟨λv hv=>(h3 v hv).ok,by dsimp only;omega,λl hr a1 Z=>by
  obtain⟨_,_,_,_,Z⟩:=eP Z
  have b0:b=ug l:=by
   rcases Z with⟨e,_⟩|⟨_,e⟩
   ·subst e;simp at a1;omega
   ·exact e
  obtain⟨j,g0,J,g2⟩:=h5 l hr a1 b0;subst g2;rcases h with h|h
  ·refine⟨?_,rfl⟩
   have h6:=tE (cC l) j;rw[ol.2.2,←J] at h6;have h7:=congrArg X6 h6;simp only[zw] at h7;have h8:fY ((cC l).drop j)=[]:=Q2 (by omega);rw[h8,Qp] at h6;exact h6.symm
  ·cases h⟩
 unfold lT jh bJ
 by_cases hlt:W.length<many
 ·rw [if_pos (decide_eq_true (by omega))]
  cases hok:r.fOk with
  |false=>right;exact⟨_,rfl,a5 (.inr hok)⟩
  | true=>
   left;rw[if_pos rfl,take_one,zh];obtain⟨rb,b5⟩:=r;dsimp only at*;subst hok;obtain⟨c,r1,e1,hc,a3,a0,a2⟩:=uh ⟨rb,true⟩ h1;replace a0:r1.fB.length<140737488355328:=by dsimp only at a0;omega
   dsimp only at a2;rw[e1];dsimp only;rw[da,zh];obtain⟨v,r',f1,f2,f3,f4,f5⟩:=tD a3 a0;obtain⟨cn,rfl⟩:=Q7 hc.1
   have hn:(if (Qe.wrap ((many:Int) - (W.length:Int)))<(Qe.wrap (cn:Int)) then Qe.wrap ((many:Int) - (W.length:Int)) else Qe.wrap (cn:Int))=((min cn (many - W.length):Nat):Int):=by
    rw[ak (by omega),ak (by omega)];split<;>omega
   rw[f1,zh];dsimp only;rw[hn,D2 v (by omega),zh,aQ (by simp;omega),zh];refine⟨_,rfl,⟨f3,by dsimp only;omega,λx hx=>?_,by simp;omega,λl hr a1 Z=>?_⟩,?_⟩
   ·rcases Qh.1 hx with hx|hx
    ·exact h3 x hx
    ·have:=(Zp.1 hx).2
     subst this;exact f2
   ·obtain⟨j,g0,J,g2⟩:=h5 l hr a1 Z
    obtain⟨rfl,_⟩:=ae.mk.inj g2;obtain⟨q1,q2,q3⟩:=ol (l:=l)
    have hj:j<(cC l).length:=by
     rcases Nat.lt_or_ge j (cC l).length with h|h
     ·exact h
     ·rw[Q3 h,q3] at J
      rw[J] at hlt;omega
    have hd:vI ((cC l).drop j)=(cC l)[j].fMany::(bn (cC l)[j].fValue++vI ((cC l).drop (j+1))):=by
     unfold vI;rw[Q0 hj,Z0];rfl
    have b1:=q1 _ (Q1 hj)
    have b2:((cn:Int)::r1.fB=(cC l)[j].fMany::(bn (cC l)[j].fValue++vI ((cC l).drop (j+1))))/\r1.fOk=true:=by
     rcases a2 with h|⟨h,h'⟩
     ·exfalso
      rw[hd,sc] at e1;rw[←(Prod.mk.inj e1).2] at h;cases h
     ·rw[←hd,←h];exact⟨rfl,h'⟩
    obtain⟨b3,a9⟩:=b2;obtain⟨b7,b4⟩:=List.cons.inj b3;obtain⟨c0,b6⟩:=r1;dsimp only at*;subst a9;have hv:=tC (hr _ b1.2.2) (ok:=true) b4 a3 a0;rw[hv] at f1;obtain⟨rfl,rfl⟩:=Prod.mk.inj (Option.some.inj f1);refine⟨j+1,by omega,?_,by simp⟩;have a6:=vJ hj;have a4:=tE (cC l) (j+1);rw[q3,a6,←J] at a4;have:=congrArg X6 a4;simp only[zw,Zb] at this;rw[a6,←J];congr 2;omega
   ·dsimp only
    rcases a2 with h|⟨h,h'⟩
    ·rw[if_neg (by rw[f5 h];decide)];simp
    ·have:=congrArg X6 h
     simp only[Q9] at this;simp only[if_true];split<;>omega
 ·right
  rw[if_neg (by simp;omega),if_neg (by decide)];exact⟨_,rfl,a5 (.inl (by omega))⟩
theorem vK {r:ae}(hb:Byt r.fB):fw r=some (if r.fB.length<8 then (0,⟨[],false⟩) else (dE (r.fB.take 8),⟨r.fB.drop 8,r.fOk⟩)):=by
 have key:∀(t:List Int) (W:ae),Byt t->t.length=8->aq (λs:(Int×Int)=>fR (t,W) s.1 s.2) (0,0)=some (dE t,W):=by
  intro t W ht hl;refine cf (λi=>(dE (t.take i),(i:Int))) 8 (by simp[dE]) (λi hi=>?_) ?_
  ·dsimp only
   unfold fR;have hi':i<t.length:=by omega
   have a1:=wI (t.take i) (ht.take i);have a0:=ht t[i] (Q1 hi')
   have hp:(256:Int)^(t.take i).length<=256^7:=by
    have:(t.take i).length<=7:=by simp;omega
    have h9:=Qy (show 0<256 by omega) this;have J:=Int.ofNat_le.2 h9;simpa[Zf] using J
   have Z:=vC (x:=dE (t.take i)) (k:=8) (by omega);rw[show((8:Nat):Int)=8 from rfl] at Z
   have e:dE (t.take (i+1))=dE (t.take i)*256+t[i]:=by
    rw[Q6 hi',qy]
   have e1:dE (t.take i)*2^8%18446744073709551616=dE (t.take i)*2^8:=by omega
   have e2:t[i]%18446744073709551616=t[i]:=by omega
   dsimp only;rw[if_pos (decide_eq_true (by omega)),aC hi',zh,bw (by omega),Z,cx,e,e1,e2,DU 8 (by omega) (by omega) (by omega) (by omega)]
   rfl
  ·unfold fR lB
   dsimp only;rw[if_neg (by rw[hl];simp),Q3 (by omega)];rfl
 unfold fw;have J:=wM (r:=r) (n:=8) (by omega);rw[show((8:Nat):Int)=8 from rfl] at J;rw[J,zh]
 by_cases h:r.fB.length<8
 ·rw[if_pos h,if_pos h,key _ _ (λc hc=>by rw[Zr hc];decide) (by simp)];rfl
 ·rw[if_neg h,if_neg h,key _ _ (hb.take _) (by simp;omega)]
theorem D3 {r:ae}(hb:Byt r.fB):∃x,eo r=some x/\(Byt x.2.fB/\x.2.fB.length<=r.fB.length):=by
 unfold eo;refine eW (I:=λs:Int×Int×ae=>∃k:Nat,s.2.1=(k:Int)/\k<=76/\Byt s.2.2.fB/\s.2.2.fB.length<=r.fB.length) (μ:=λs=>77 - s.2.1.toNat) (Q:=λx:Int×ae=>Byt x.2.fB/\x.2.fB.length<=r.fB.length) ?_ ⟨0,rfl,by omega,hb,Qj _⟩;rintro ⟨z,_,J⟩ ⟨k,rfl,hk,h,W⟩;dsimp only at*;unfold jf gm lR
 by_cases h70:(k:Int)<70
 ·rw[if_pos (decide_eq_true h70)]
  cases hok:J.fOk with
  |false=>right;exact⟨_,rfl,h,W⟩
  | true=>
   rw[if_pos rfl,take_one,zh];obtain⟨c,r2,e1,hc,Z,a0,_⟩:=uh J h;rw[e1];dsimp only;rw[da,zh,rh,zh]
   by_cases h128:c<128
   ·right;rw[if_pos (decide_eq_true h128)];exact⟨_,rfl,Z,by dsimp only;omega⟩
   ·left;rw[if_neg (by simpa using h128)]
    refine⟨_,rfl,⟨k+7,?_,by omega,Z,by dsimp only;omega⟩,?_⟩
    ·dsimp only;rw[ak (by omega)];rfl
    ·dsimp only;rw[ak (by omega)];omega
 ·right;rw[if_neg (by simpa using h70),if_neg (by decide)];exact⟨_,rfl,h,W⟩
theorem Jf:∀n:_root_.Fin 256,n.val&&&127=n.val%128:=by decide+kernel
theorem CC (q:Nat):∃(c:Nat) (t:List Int),fS q=(c:Int)::t/\c<256/\c%128=q%128/\((c<128/\q<128/\t=[])\/(128<=c/\128<=q/\t=fS (q/128))):=by
 by_cases h:q<128
 ·exact⟨q,[],pE h,by omega,rfl,.inl ⟨h,h,rfl⟩⟩
 ·exact⟨q%128+128,_,sa h,by omega,by omega,.inr ⟨by omega,by omega,rfl⟩⟩
theorem D4 {z:Nat}(hz:z<18446744073709551616)(rest:List Int):eo ⟨fS z++rest,true⟩=some ((z:Int),⟨rest,true⟩):=by
 unfold eo;have a9:(2:Nat)^64=18446744073709551616:=by decide
 refine my (I:=λs:Int×Int×ae=>∃i:Nat,i<=9/\s=(((z%2^(7*i):Nat):Int),((7*i:Nat):Int),⟨fS (z/2^(7*i))++rest,true⟩)) (μ:=λs=>77 - s.2.1.toNat) ?_ ⟨0,by omega,by simp[Nat.mod_one]⟩;rintro _ ⟨i,hi,rfl⟩;dsimp only;unfold jf gm;obtain⟨c,t,e1,Z,a2,a1⟩:=CC (z/2^(7*i))
 have a6:2^(7*i)*(z/2^(7*i)%128)+z%2^(7*i)<=z:=by
  have J:=Nat.div_add_mod z (2^(7*i));have h2:2^(7*i)*(z/2^(7*i)%128)<=2^(7*i)*(z/2^(7*i)):=Zd _ (Nat.mod_le _ _);omega
 have a0:z%2^(7*(i+1))=2^(7*i)*(z/2^(7*i)%128)+z%2^(7*i):=by
  rw[show 7*(i+1)=7*i+7 by omega,Nat.pow_add,Nat.mod_mul,show(2:Nat)^7=128 from rfl];omega
 have a4:z/2^(7*(i+1))=z/2^(7*i)/128:=by
  rw[show 7*(i+1)=7*i+7 by omega,Nat.pow_add,Nat.div_div_eq_div_mul]
 have a3:z%2^(7*i)<2^(7*i):=Nat.mod_lt _ (Nat.pow_pos (by decide))
 have a5:bOr .u64 ((z%2^(7*i):Nat):Int) (eu .u64 (X3.wrap (dI .u8 (c:Int) 127)) ((7*i:Nat):Int))=((z%2^(7*(i+1)):Nat):Int):=by
  have J:dI .u8 (c:Int) 127=((c%128:Nat):Int):=by
   have:=Jf ⟨c,Z⟩;simp only at this;rw[show(127:Int)=((127:Nat):Int) from rfl,I7 Z (by omega),this]
  rw[J,a2,cx,vC (by omega)]
  have h2:(((z/2^(7*i)%128:Nat):Int))%18446744073709551616=((z/2^(7*i)%128:Nat):Int):=by
   generalize z/2^(7*i)=q;omega
  have h3:(((z/2^(7*i)%128:Nat):Int))*2^(7*i)=((2^(7*i)*(z/2^(7*i)%128):Nat):Int):=by
   rw[Int.natCast_mul,Zf,X7];rfl
  rw[h2,h3]
  have h4:((2^(7*i)*(z/2^(7*i)%128):Nat):Int)%18446744073709551616=((2^(7*i)*(z/2^(7*i)%128):Nat):Int):=by
   generalize 2^(7*i)*(z/2^(7*i)%128)=u at*;omega
  rw[h4,FY (by omega) (by omega),Nat.or_comm,←Qw a3,a0]
 rw[if_pos (decide_eq_true (by omega)),if_pos rfl,take_one,zh,e1,Qi,sc];dsimp only;rw[da,zh,rh,zh,a5];rcases a1 with⟨g1,W,rfl⟩|⟨g1,W,rfl⟩
 ·right
  rw[if_pos (decide_eq_true (by omega))]
  have:z%2^(7*(i+1))=z:=by
   apply Nat.mod_eq_of_lt;rw[show 7*(i+1)=7*i+7 by omega,Nat.pow_add,Nat.mul_comm];have:=(Nat.div_lt_iff_lt_mul (Nat.pow_pos (n:=7*i) (show 0<2 by decide))).1 W;exact this
  rw[this];rfl
 ·left
  rw[if_neg (by simp;omega)];refine⟨_,rfl,⟨i+1,?_,?_⟩,?_⟩
  ·have J:128*2^(7*i)<=z:=(Nat.le_div_iff_mul_le (Nat.pow_pos (by decide))).1 W
   rcases Nat.lt_or_ge i 9 with h|h
   ·omega
   ·have:i=9:=by omega
    subst this;have:(128:Nat)*2^(7*9)=1180591620717411303424:=by decide
    omega
  ·rw[a4,ak (by omega)]
   congr 2
  ·dsimp only;rw[ak (by omega)];omega
theorem HS {a:Int}(J:cL a):fh .i64 a (-1)= -a - 1/\fh .i64 a 0=a:=by
 unfold fh;rw[kR,kR]
 have W:((Qk 64 a).toNat:Int)=a%18446744073709551616:=by
  rw[Z5];omega
 constructor
 ·show(((Qk 64 a^^^Qk 64 (-1)).toNat:Nat)+9223372036854775808:Int)%18446744073709551616 - 9223372036854775808=_
  have h:Qk 64 (-1)=BitVec.allOnes 64:=by decide
  rw[h,BitVec.xor_allOnes,BitVec.toNat_not];have:=(Qk 64 a).isLt;have e:(2:Nat)^64=18446744073709551616:=by decide
  unfold cL at J;omega
 ·show(((Qk 64 a^^^Qk 64 0).toNat:Nat)+9223372036854775808:Int)%18446744073709551616 - 9223372036854775808=_
  have h:Qk 64 0=0#64:=by decide
  rw[h,BitVec.xor_zero];unfold cL at J;omega
theorem MD {d:Int}(h:cL d):fh .i64 (Qe.wrap (aP .u64 (zig d:Int) 1)) (Qe.wrap (0 - (Qe.wrap (dI .u64 (zig d:Int) 1))))=d:=by
 have J:=pF h;have h1:aP .u64 (zig d:Int) 1=((zig d/2:Nat):Int):=by have:=oS (x:=(zig d:Int)) (k:=1) (by omega);simpa using this
 have h2:dI .u64 (zig d:Int) 1=((zig d%2:Nat):Int):=by
  rw[show(1:Int)=((1:Nat):Int) from rfl,GT J (by omega),Nat.and_one_is_mod]
 rw[h1,h2,ak (n:=((zig d/2:Nat):Int)) (by omega),ak (n:=((zig d%2:Nat):Int)) (by omega)];have Z:cL ((zig d/2:Nat):Int):=by unfold cL;omega
 obtain⟨W,g2⟩:=HS Z;unfold zig at*
 by_cases hd:d<0
 ·rw[if_pos hd] at*
  have:(0 - (((-2*d - 1).toNat%2:Nat):Int))= -1:=by omega
  rw[this,show Qe.wrap (-1)= -1 from by decide,W];omega
 ·rw[if_neg hd] at*
  have:(0 - (((2*d).toNat%2:Nat):Int))=0:=by omega
  rw[this,show Qe.wrap 0=0 from by decide,g2];omega
theorem D5 {n m:Int}(h:cL m):Qe.wrap (n+Qe.wrap (m - n))=m:=by
 rw[kR,kR];unfold cL at h;omega
theorem HT {v:Ap}(h:Rgt v)(J:v.fKind=2):v=gU v.fInt:=by
 cases h<;>first|rfl|(simp at J)
theorem qm {l:List Ap}(h:kS l=true)(W:∀v∈l,Rgt v):∀v∈l,v=gU v.fInt/\cL v.fInt:=λv J=>by
 have:=Qr.1 h v J;exact⟨HT (W v J) (by simpa using this),(W v J).ok.int⟩
theorem AU {b:List Int}{many:Nat}(hb:Byt b)(hl:b.length<140737488355328)(hm:1<=many/\many<=64):∃x,br ⟨b,true⟩ 2 (many:Int)=some x/\jn 2 b many x:=by
 unfold br;rw[if_neg (by decide),if_neg (by decide),if_pos (by decide),vK hb,zh];unfold dK;rw[zh,aQ (by simp),zh];generalize J:(if ({ fB:=b,fOk:=true }:ae).fB.length<8 then ((0:Int),({ fB:=[],fOk:=false }:ae)) else (dE (({ fB:=b,fOk:=true }:ae).fB.take 8),⟨({ fB:=b,fOk:=true }:ae).fB.drop 8,true⟩))=x0
 have a5:Byt x0.2.fB/\x0.2.fB.length<140737488355328:=by
  rw[←J];dsimp only;split
  ·exact⟨.nil,by simp⟩
  ·exact⟨hb.drop _,by simp;omega⟩
 refine eW (I:=λs:List Ap×Int×ae=>Byt s.2.2.fB/\s.2.2.fB.length<140737488355328/\(∀v∈s.1,VOK v)/\s.1.length<=many/\∀l:List Ap,(∀v∈l,Rgt v)->l.length=many->kS l=true->b=om (l.map (·.fInt))->∃k,s.1.length=k+1/\s.1=l.take (k+1)/\s.2.1=(l.map (·.fInt)).getD k 0/\s.2.2=⟨((Qd (many - 1)).drop k).flatMap (mf (l.map (·.fInt))),true⟩) (μ:=λs=>many - s.1.length) (Q:=jn 2 b many) ?_ ⟨a5.1,a5.2,λv hv=>?_,by simp;omega,λl hr a0 hi W=>?_⟩
 ·rintro ⟨a3,n,r⟩ ⟨h1,h2,h3,h4,h5⟩
  dsimp only at*
  have a6:a3.length=many\/r.fOk=false->jn 2 b many (a3,r):=λh=>⟨h3,by dsimp only;omega,λl hr a0 W=>by
   obtain⟨_,_,_,hi,W⟩:=eP W
   have a9:b=om (l.map (·.fInt)):=by
    rcases W with⟨e,_⟩|⟨_,e⟩
    ·subst e;simp at a0;omega
    ·exact e
   obtain⟨k,g1,g2,g3,g4⟩:=h5 l hr a0 (hi (.inl rfl)) a9;subst g4;rcases h with h|h
   ·rw[←g1,h,←a0,Qb] at g2;exact⟨g2,rfl⟩
   ·cases h⟩
  unfold lU ji bJ
  by_cases hlt:a3.length<many
  ·rw [if_pos (decide_eq_true (by omega))]
   cases hok:r.fOk with
   |false=>right;exact⟨_,rfl,a6 (.inr hok)⟩
   | true=>
    left;rw[if_pos rfl];obtain⟨⟨z,r'⟩,e1,e2,e3⟩:=D3 h1;rw[e1,zh];unfold dK;rw[zh,aQ (by simp;omega),zh];dsimp only at e2 e3 ⊢;refine⟨_,rfl,⟨e2,by dsimp only;omega,λx J=>?_,by simp;omega,λl hr a0 hi W=>?_⟩,by simp;omega⟩
    ·rcases Qh.1 J with J|J
     ·exact h3 x J
     ·have:x=gU (Qe.wrap (n+(fh .i64 (Qe.wrap (aP .u64 z 1)) (Qe.wrap (0 - (Qe.wrap (dI .u64 z 1))))))):=by simpa using J
      subst this;exact(Rgt.int _ (lY _)).ok
    ·obtain⟨k,g1,g2,g3,g4⟩:=h5 l hr a0 hi W
     have hk:k+1<l.length:=by omega
     have a1:=qm hi hr;have Z:∀i (h:i<l.length),(l.map (·.fInt)).getD i 0=l[i].fInt:=λi h=>by rw[Bv (by simpa using h)];simp
     have hd:(Qd (many - 1)).drop k=k::(Qd (many - 1)).drop (k+1):=by
      rw[Q0 (by simp;omega)];simp
     rw[hd,Z0] at g4
     have b0:mf (l.map (·.fInt)) k=fS (zig (Qe.wrap (l[k+1].fInt - l[k].fInt))):=by
      unfold mf;rw[Z _ hk,Z _ (by omega)]
     rw[b0] at g4;rw[g4,D4 (pF (lY _))] at e1;obtain⟨rfl,rfl⟩:=Prod.mk.inj (Option.some.inj e1);rw[MD (lY _),g3,Z _ (by omega),D5 (a1 _ (Q1 hk)).2];refine⟨k+1,by simp;omega,?_,(Z _ hk).symm,rfl⟩;dsimp only;rw[Q6 hk,g2];congr 2;exact(a1 _ (Q1 hk)).1.symm
  ·right
   rw[if_neg (by simp;omega),if_neg (by decide)];exact⟨_,rfl,a6 (.inl (by omega))⟩
 ·have:v=gU (Qe.wrap x0.1):=by simpa using hv
  subst this;exact(Rgt.int _ (lY _)).ok
 ·have h0:0<l.length:=by omega
  have a1:=qm hi hr;have Z:∀i (h:i<l.length),(l.map (·.fInt)).getD i 0=l[i].fInt:=λi h=>by rw[Bv (by simpa using h)];simp
  have a4:=(a1 _ (Q1 h0)).2
  have a2:b=be8 (l[0].fInt%18446744073709551616)++(Qd (many - 1)).flatMap (mf (l.map (·.fInt))):=by
   rw[W];unfold om;rw[Z 0 h0,Qt,a0]
  have b1: ¬ b.length<8:=by rw[a2];simp[ce]
  dsimp only at J;rw[if_neg b1] at J;have h1:b.take 8=be8 (l[0].fInt%18446744073709551616):=by rw[a2];exact Z1 (ce _)
  have h2:b.drop 8=(Qd (many - 1)).flatMap (mf (l.map (·.fInt))):=by rw[a2];exact Z2 (ce _)
  rw[h1,h2,uS (by omega) (by omega)] at J;subst J;refine⟨0,rfl,?_,?_,rfl⟩
  ·dsimp only
   rw[Q6 h0,uT a4];simp only[List.take_zero,Ql];congr 1;exact(a1 _ (Q1 h0)).1.symm
  ·dsimp only;rw[Z 0 h0,uT a4]
theorem xL (r:ae)(many w:Nat):(pD r many w).1.length=many/\(∀x∈(pD r many w).1,∃n:Nat,x=(n:Int)/\n<18446744073709551616):=by
  unfold pD;split
  ·exact⟨by simp,λx J=>⟨0,(Zp.1 J).2,by decide⟩⟩
  split
  ·exact⟨by simp,λx J=>⟨0,(Zp.1 J).2,by decide⟩⟩
  · rename_i h _
    refine⟨by simp,λx J=>?_⟩;obtain⟨i,_,rfl⟩:=Qz.1 J;refine⟨_,rfl,?_⟩;have h1:=nB (λk=>dH r.fB (i*w+k)) w;have Z:(2:Nat)^w<=2^64:=Qy (by decide) (by omega);have W:(2:Nat)^64=18446744073709551616:=by decide
    unfold unp;omega
theorem ut {pl:List Int}{w:Nat}(Z:w<=64)(h:∀x∈pl,0<=x/\x<2^w):pD ⟨d5 pl w,true⟩ pl.length w=(pl,⟨[],true⟩):=by
  have W:(d5 pl w).length=(pl.length*w+7)/8:=i6 _ _ _;unfold pD;rw[if_neg (by omega),if_neg (by dsimp only;omega)];dsimp only;congr 1
  · apply List.ext_getElem
    ·simp
    · intro i h1 J
      have:=Ct pl w i [] J (h _ (Q1 J));rw[Qp] at this;simp[this]
  ·rw[←W,Zg]
theorem CD {b:List Int}{many:Nat}(hb:Byt b)(hl:b.length<140737488355328)(hm:1<=many/\many<=64):∃x,br ⟨b,true⟩ 3 (many:Int)=some x/\jn 3 b many x:=by
  unfold br;rw[if_neg (by decide),if_neg (by decide),if_neg (by decide),if_pos (by decide),take_one,zh];obtain⟨c,r1,e1,hc,b0,c0,c1⟩:=uh ⟨b,true⟩ hb;rw[e1];dsimp only at*;rw[da,zh];obtain⟨cn,rfl⟩:=Q7 hc.1
  refine eW (I:=λs:List Ap×Int×ae=>Byt s.2.2.fB/\s.2.2.fB.length<140737488355328/\(∀v∈s.1,Rgt v)/\s.1.length<=cn/\s.2.1=(s.1.length:Int)/\∀l:List Ap,(∀v∈l,Rgt v)->l.length=many->b=nU l->s.1=(aX l).take s.1.length/\cn=(aX l).length/\s.2.2=⟨((aX l).drop s.1.length).flatMap bn++d5 (l.map λv=>(jY (aX l) v:Int)) (wid ((aX l).length - 1)),true⟩) (μ:=λs=>cn - s.1.length) (Q:=jn 3 b many) ?_ ⟨b0,by dsimp only;omega,by simp,by simp,rfl,λl h Z J=>?_⟩
  · rintro ⟨W,wn,r⟩ ⟨h1,h2,h3,h4,b1,h5⟩
    dsimp only at*;subst b1;unfold lW
    by_cases hlt:W.length<cn
    · left
      rw[if_pos (decide_eq_true (by omega))];obtain⟨v,r',f1,f2,f3,f4,f5⟩:=tD h1 h2;rw[f1,zh,aQ (by simp;omega),zh];refine⟨_,rfl,⟨f3,by dsimp only;omega,λx hx=>?_,by simp;omega,?_,λl h Z J=>?_⟩,by simp;omega⟩
      · rcases Qh.1 hx with hx|hx
        ·exact h3 x hx
        · have:x=v:=by simpa using hx
          subst this;exact f2
      ·dsimp only;rw[bZ];simp;omega
      · obtain⟨g1,g2,g3⟩:=h5 l h Z J
        have hk:W.length<(aX l).length:=by omega
        obtain⟨w1,w2,w3⟩:=gn h;rw[Q0 hk,Z0,Q5] at g3;subst g3;have hv:=tC (h _ ((w2 _).1 (Q1 hk))) (ok:=true) rfl h1 h2;rw[hv] at f1;obtain⟨rfl,rfl⟩:=Prod.mk.inj (Option.some.inj f1);refine⟨?_,g2,by simp⟩;simp only[zw,Qc];rw[Q6 hk,←g1]
    · right
      rw[if_neg (by simp;omega)];unfold lV
      have a4:X3.wrap (Qe.wrap ((if (W.length:Int)<1 then 1 else (W.length:Int)) - 1))=((W.length - 1:Nat):Int):=by
        rw[ak (by split<;>omega),cx];split<;>omega
      have a6:wid (W.length - 1)<=64:=ri (Zi (show W.length - 1<256 by omega) (by decide));rw[a4,len_eq (by omega),zh,uq h1 (by omega),zh];obtain⟨u1,u2⟩:=xL r many (wid (W.length - 1))
      have a3:∀l:List Ap,(∀v∈l,Rgt v)->l.length=many->b=nU l->W=aX l/\pD r many (wid (W.length - 1))=(l.map (λv=>(jY (aX l) v:Int)),⟨[],true⟩):=λl h Z J=>by
        obtain⟨g1,g2,g3⟩:=h5 l h Z J;obtain⟨w1,w2,w3⟩:=gn h;have e2:W.length=(aX l).length:=by omega
        rw[e2,Qb] at g1;refine⟨g1,?_⟩;rw[e2,Zg] at g3;simp only[List.flatMap_nil,Ql] at g3;rw[g3,e2,←Z]
        have:=ut (pl:=l.map λv=>(jY (aX l) v:Int)) (w:=wid ((aX l).length - 1)) (by rw[←e2];exact a6) (λx hx=>by
          obtain⟨v,hv,rfl⟩:=Qz.1 hx;have hp:=nC ((w2 v).2 hv);have b7:=DY ((aX l).length - 1);refine⟨by omega,?_⟩;have:((jY (aX l) v:Nat):Int)<((2^wid ((aX l).length - 1):Nat):Int):=Int.ofNat_lt.2 (by omega)
          rwa[Zf] at this)
        rw[Qt] at this;exact this
      generalize pD r many (wid (W.length - 1))=U at*;obtain⟨pl,r2⟩:=U;dsimp only at*
      have b2:  ∃x,aq (λs:(List Ap×Int)=>jj W (pl,r2) s.1 s.2) ([],0)=some x/\jn 3 b many x:=by
        refine eW (I:=λs:List Ap×Int=>(∀v∈s.1,Rgt v)/\s.1.length<=many/\s.2=(s.1.length:Int)/\∀l:List Ap,(∀v∈l,Rgt v)->l.length=many->b=nU l->s.1=l.take s.1.length) (μ:=λs=>many - s.1.length) (Q:=jn 3 b many) ?_ ⟨by simp,by simp,rfl,λl _ _ _=>by simp⟩;rintro ⟨a0,an⟩ ⟨k1,k2,b4,k3⟩;dsimp only at*;subst b4;unfold jj bJ;dsimp only
        by_cases hlt2:a0.length<many
        · have hi:a0.length<pl.length:=by omega
          obtain⟨n,a2,c2⟩:=u2 _ (Q1 hi);have e3:X3.wrap (W.length:Int)=(W.length:Int):=by rw[cx];omega
          rw[if_pos (decide_eq_true (by omega)),aC hi,zh,e3,a2]
          by_cases hge:W.length<=n
          · right
            rw[if_pos (decide_eq_true (by omega))];refine⟨_,rfl,by simp,by simp,λl h Z J=>?_⟩;exfalso;obtain⟨_,_,_,_,J⟩:=eP J
            have a1:b=nU l:=by
              rcases J with⟨e,_⟩|⟨_,e⟩
              ·subst e;simp at Z;omega
              ·exact e
            obtain⟨g1,g2⟩:=a3 l h Z a1;obtain⟨rfl,_⟩:=Prod.mk.inj g2;have hp:=nC (((gn h).2.1 _).2 (Q1 (show a0.length<l.length by omega)));simp only[Zv] at a2;rw[g1] at hge;omega
          · left
            rw[if_neg (by simp;omega),aC (by omega),zh,aQ (by simp;omega),zh];refine⟨_,rfl,⟨λx hx=>?_,by simp;omega,?_,λl h Z J=>?_⟩,by simp;omega⟩
            · rcases Qh.1 hx with hx|hx
              ·exact k1 x hx
              · have:x=W[n]:=by simpa using hx
                subst this;exact h3 _ (Q1 _)
            ·dsimp only;rw[bw (by omega)];simp
            · have q:=k3 l h Z J
              obtain⟨g1,g2⟩:=a3 l h Z J;obtain⟨rfl,_⟩:=Prod.mk.inj g2;have hk:a0.length<l.length:=by omega
              have a5:=((gn h).2.1 _).2 (Q1 hk);simp only[Zv] at a2;have b6:n=jY (aX l) l[a0.length]:=by omega
              subst g1;subst b6;dsimp only;simp only[zw,Qc];rw[Q6 hk,←q,Ga a5]
        · right
          rw[if_neg (by simp;omega)];refine⟨_,rfl,λv hv=>(k1 v hv).ok,by dsimp only;omega,λl h Z J=>?_⟩;obtain⟨_,_,_,_,J⟩:=eP J
          have a1:b=nU l:=by
            rcases J with⟨e,_⟩|⟨_,e⟩
            ·subst e;simp at Z;omega
            ·exact e
          have q:=k3 l h Z a1;obtain⟨g1,g2⟩:=a3 l h Z a1;obtain⟨_,rfl⟩:=Prod.mk.inj g2;have:a0.length=l.length:=by omega
          rw[this,Qb] at q;exact⟨q,rfl⟩
      obtain⟨x,a9,b5⟩:=b2;rw[a9];exact⟨x,rfl,b5⟩
  · obtain⟨w1,w2,w3⟩:=gn h
    have b3:b=(((aX l).length:Nat):Int)::((aX l).flatMap bn++d5 (l.map λv=>(jY (aX l) v:Int)) (wid ((aX l).length - 1))):=J;subst b3;rw[sc] at e1;obtain⟨e2,e3⟩:=Prod.mk.inj e1;refine⟨by simp,?_,?_⟩
    ·have:=(List.cons.inj e2).1;omega
    ·rw[←e3];rfl
theorem CE {b:List Int}{many:Nat}{kind:Int}(hk:kind≠0/\kind≠1/\kind≠2/\kind≠3)(hb:Byt b)(hm:1<=many/\many<=64):∃x,br ⟨b,true⟩ kind (many:Int)=some x/\jn kind b many x:=by
  unfold br;rw[if_neg (by simpa using hk.1),if_neg (by simpa using hk.2.1),if_neg (by simpa using hk.2.2.1),if_neg (by simpa using hk.2.2.2),vK hb,zh];dsimp only;generalize h:(if b.length<8 then ((0:Int),({ fB:=[],fOk:=false }:ae)) else (dE (b.take 8),⟨b.drop 8,true⟩))=x0
  have a9:Byt x0.2.fB:=by
    rw[←h];split
    ·exact .nil
    ·exact hb.drop _
  rw[take_one,zh];obtain⟨c,r1,e1,hc,b0,b3,b4⟩:=uh x0.2 a9;rw[e1];dsimp only;obtain⟨cn,rfl⟩:=Q7 hc.1;rw[da,zh,ak (by omega),uq b0 (by omega),zh];obtain⟨u1,u2⟩:=xL r1 many cn
  have a4:∀l:List Ap,(∀v∈l,Rgt v)->l.length=many->kS l=true->b=ot (l.map (·.fInt))->x0.1=mT (l.map (·.fInt))%18446744073709551616/\pD r1 many cn=(b8 (l.map (·.fInt)),⟨[],true⟩):=λl hr Z hi W=>by
    have a1:=qm hi hr;have h':∀x∈l.map (·.fInt),cL x:=λx h=>by obtain⟨v,hv,rfl⟩:=Qz.1 h;exact(a1 v hv).2
    have hu:=ou h';obtain⟨hw,a5⟩:=lZ hu
    have a2:b=be8 (mT (l.map (·.fInt))%18446744073709551616)++((d6 (b8 (l.map (·.fInt))):Nat):Int)::d5 (b8 (l.map (·.fInt))) (d6 (b8 (l.map (·.fInt)))):=by
      rw[W];unfold ot;simp
    have h8: ¬ b.length<8:=by rw[a2];simp[ce]
    rw[if_neg h8] at h;have h1:b.take 8=be8 (mT (l.map (·.fInt))%18446744073709551616):=by rw[a2];exact Z1 (ce _)
    have h2:b.drop 8=((d6 (b8 (l.map (·.fInt))):Nat):Int)::d5 (b8 (l.map (·.fInt))) (d6 (b8 (l.map (·.fInt)))):=by rw[a2];exact Z2 (ce _)
    rw[h1,h2,uS (by omega) (by omega)] at h;subst h;dsimp only at e1;rw[sc] at e1;obtain⟨e3,e4⟩:=Prod.mk.inj e1;have e5:cn=d6 (b8 (l.map (·.fInt))):=by have:=(List.cons.inj e3).1;omega
    subst e4;refine⟨rfl,?_⟩
    have:=ut (pl:=b8 (l.map (·.fInt))) (w:=d6 (b8 (l.map (·.fInt)))) hw (λx h=>by
      have h3:=hu x h;have h4:=DY x.toNat;have h5:=a5 x h;have h6:(2:Nat)^wid x.toNat<=2^d6 (b8 (l.map (·.fInt))):=Qy (by decide) h5;refine⟨h3.1,?_⟩;have:((x.toNat:Nat):Int)<((2^d6 (b8 (l.map (·.fInt))):Nat):Int):=Int.ofNat_lt.2 (by omega);rw[Zf] at this;have e:((x.toNat:Nat):Int)=x:=by omega
      rw[e] at this
      exact this)
    have b1:(b8 (l.map (·.fInt))).length=many:=by simp[b8,Z]
    rw[b1] at this;rw[e5];exact this
  generalize pD r1 many cn=U at*;obtain⟨pl,r2⟩:=U;obtain⟨n0,rn⟩:=x0;dsimp only at*;refine eW (I:=λs:List Ap×Int=>(∀v∈s.1,Rgt v)/\s.1.length<=many/\s.2=(s.1.length:Int)/\∀l:List Ap,(∀v∈l,Rgt v)->l.length=many->kS l=true->b=ot (l.map (·.fInt))->s.1=l.take s.1.length) (μ:=λs=>many - s.1.length) (Q:=jn kind b many) ?_ ⟨by simp,by simp,rfl,λl _ _ _ _=>by simp⟩;rintro ⟨J,an⟩ ⟨k1,k2,b2,k3⟩;dsimp only at*;subst b2;unfold lX bJ;dsimp only
  by_cases hlt2:J.length<many
  · have hi:J.length<pl.length:=by omega
    left;unfold dK;rw[if_pos (decide_eq_true (by omega)),aC hi,zh,zh,aQ (by simp;omega),zh];refine⟨_,rfl,⟨λx h=>?_,by simp;omega,?_,λl hr Z a0 W=>?_⟩,by simp;omega⟩
    · rcases Qh.1 h with h|h
      ·exact k1 x h
      · have:x=gU (Qe.wrap (X3.wrap (n0+pl[J.length]))):=by simpa using h
        subst this;exact .int _ (lY _)
    ·dsimp only;rw[bw (by omega)];simp
    · have q:=k3 l hr Z a0 W
      obtain⟨g1,g2⟩:=a4 l hr Z a0 W;obtain⟨rfl,_⟩:=Prod.mk.inj g2;have a1:=qm a0 hr;have hk:J.length<l.length:=by omega
      have h1:=a1 _ (Q1 hk);dsimp only;simp only[zw,Qc];rw[Q6 hk,←q];congr 1
      have e9:Qe.wrap (X3.wrap (n0+(b8 (l.map (·.fInt)))[J.length]))=l[J.length].fInt:=by
        have:(b8 (l.map (·.fInt)))[J.length]=l[J.length].fInt - mT (l.map (·.fInt)):=by simp[b8]
        rw[this,g1,cx,kR];have:=h1.2;unfold cL at this;omega
      rw[e9];congr 1;exact h1.1.symm
  · right
    rw[if_neg (by simp;omega)];refine⟨_,rfl,λv hv=>(k1 v hv).ok,by dsimp only;omega,λl hr Z W=>?_⟩;obtain⟨b5,_,_,a0,W⟩:=eP W;have a6:kind=4:=by omega
    subst a6
    have a3:b=ot (l.map (·.fInt)):=by
      rcases W with⟨e,_⟩|⟨_,e⟩
      ·subst e;simp at Z;omega
      ·exact e
    have q:=k3 l hr Z (a0 (.inr rfl)) a3;obtain⟨g1,g2⟩:=a4 l hr Z (a0 (.inr rfl)) a3;obtain⟨_,rfl⟩:=Prod.mk.inj g2;have:J.length=l.length:=by omega
    rw[this,Qb] at q;exact⟨q,rfl⟩
theorem xM {b:List Int}{many:Nat}(kind:Int)(h:Byt b)(W:b.length<140737488355328)(J:1<=many/\many<=64):∃x,br ⟨b,true⟩ kind (many:Int)=some x/\jn kind b many x:=by
  by_cases h0:kind=0
  ·subst h0;exact AT h W J
  by_cases h1:kind=1
  ·subst h1;exact CB h W J
  by_cases h2:kind=2
  ·subst h2;exact AU h W J
  by_cases h3:kind=3
  ·subst h3;exact CD h W J
  ·exact CE ⟨h0,h1,h2,h3⟩ h J
open Option renaming bind_some→zh,bind_assoc→Zm,map_some→X9
open List renaming length_append→zw,getElem?_eq_getElem→Jn,drop_eq_getElem_cons→Q0,getElem_mem→Q1,eq_nil_of_length_eq_zero→Q2,take_of_length_le→Q3,take_append_drop→Q4,append_assoc→Q5,take_succ_eq_append_getElem→Q6,replicate→Q8,length_cons→Q9,drop_of_length_le→Qa,take_length→Qb,length_singleton→Qc,range→Qd,map_append→Qf,mem_append→Qh,cons_append→Qi,nil_append→Ql,drop_left→Qo,append_nil→Qp,getElem?_eq_some_iff→Qq,all_eq_true→Qr,pairwise_append→Qs,length_map→Qt,length_pos_iff→Qu,getElem_of_mem→Qv,mem_map→Qz,flatMap_cons→Z0,take_left'→Z1,drop_left'→Z2,mem_cons→Z4,drop_zero→Z7,mem_singleton→Z8,take_append_of_le_length→Za,length_replicate→Zb,drop_length→Zg,getElem?_append_right→Zj,flatten_append→Zk,map_congr_left→Zl,getElem?_append_left→Zn,pairwise_iff_getElem→Zo,mem_replicate→Zp,pairwise_cons→Zq,eq_of_mem_replicate→Zr,take_add_one→Zs,mem_range→Zt,length_eq_one_iff→Zu,getElem_map→Zv,length_take→Zw,length_drop→Zx,singleton_append→Zy,foldl_cons→Zz,take_left→X4,length→X6,map_cons→Xa
open Nat renaming le_refl→Qj,two_pow_add_eq_or_of_lt→Qw,pow_le_pow_right→Qy,strongRecOn→Z6,mul_le_mul→Z9,mul_le_mul_left→Zd,lt_of_lt_of_le→Zi
open Bool renaming and_eq_true→Qm,not_eq_true'→Qn,false_eq_true→Qx,eq_false_or_eq_true→Z3,and_eq_false_iff→Zc,or_eq_false_iff→Ze,not_true→X8
open Int renaming eq_ofNat_of_zero_le→Q7,emod_eq_of_lt→Qg,natCast_pow→Zf,fdiv_eq_ediv_of_nonneg→Zh,mul_comm→X7
open BitVec renaming ofInt→Qk,toNat_ofInt→Z5
open IntKind renaming i64→Qe,u64→X3,u8→X5,u32→Xb
open Classical in
noncomputable def dec (kind:Int) (b:List Int) (many:Int):List Ap×Int:=
 if kind<0\/4<kind then ([],62) else if many<0\/64<many then ([],61) else
 if h:∃l:List Ap,(∀v∈l,Rgt v)/\(l.length:Int)=many/\enc kind l=(b,0) then (h.choose,0) else ([],60)
theorem zS {a b:List Int}(W:a.length<=4611686018427387903):fH a b=some (decide (a=b)):=by
 unfold fH
 by_cases h:a.length=b.length
 ·rw [if_neg (by simp;omega)]
  have:=zH (f:=λs:Int=>fu a b s) (a.zip b) (λp=>p.1==p.2) false true (λi hi J=>?_) (λi hi J=>?_) ?_
  ·rw [this]
   have e:(a.zip b).all (λp=>p.1==p.2)=decide (a=b):=by
    clear this W
    induction a generalizing b with
    |nil=>cases b with
     |nil=>rfl
     |cons _ _=>simp at h
    | cons x a ih=>cases b with
     |nil=>simp at h
     |cons y b=>
      rw[List.zip_cons_cons,List.all_cons,ih (by simpa using h)]
      by_cases e:x=y
      ·simp[e]
      ·simp[e]
   rw[e];cases decide (a=b)<;>rfl
  ·simp only[List.length_zip] at hi
   simp only[List.getElem_zip,beq_iff_eq] at J;unfold fu;rw[if_pos (decide_eq_true (by omega)),aC (by omega),zh,aC (by omega),zh,if_neg (by simpa using J),bw (by omega)]
  ·simp only[List.length_zip] at hi
   simp only[List.getElem_zip,beq_eq_false_iff_ne] at J;unfold fu;rw[if_pos (decide_eq_true (by omega)),aC (by omega),zh,aC (by omega),zh,if_pos (by simpa using J)];rfl
  ·unfold fu mO
   rw[if_neg (by simp;omega)];rfl
 ·rw[if_pos (by simp;omega)]
  have:a≠b:=λe=>h (by rw[e]);simp[this]
theorem yb {kind:Int}{l:List Ap}:(enc kind l).2=0->l.all right=true/\l.length<=64:=λh=>by
 have:enc kind l=((enc kind l).1,0):=Prod.ext rfl h;obtain⟨_,W,J,_⟩:=eP this;exact⟨J,W⟩
theorem oV (l:List Int)(w:Nat):(d5 l w).length=(l.length*w+7)/8:=i6 _ _ _
theorem Gc {kind:Int}{l:List Ap}(h:∀v∈l,Rgt v)(Z:l.length<=64):(pG kind l).length<=100000:=by
 obtain⟨w1,w2,w3⟩:=gn h;unfold pG;split
 ·obtain⟨h1,h2,_⟩:=ol (l:=l)
  have:=o7 (cC l) (λr=>r.fMany::bn r.fValue) 67 λx W=>by
   have:=(gJ (h _ (h1 x W).2.2)).2;simp;omega
  unfold ug;omega
 split
 ·have:=o7 (Qd ((l.map (·.fInt)).length - 1)) (mf (l.map (·.fInt))) 10 λx _=>nS (pF (lY _))
  unfold om;simp only[zw,ce,List.length_range,Qt] at*;omega
 split
 ·have h1:=kQ (l:=aX l) λv J=>h v ((w2 v).1 J)
  have a1:wid ((aX l).length - 1)<=64:=ri (Zi (show(aX l).length - 1<64 by omega) (by decide));have:=Z9 Z a1;unfold nU;simp only[Q9,zw,oV,Qt];omega
 split
 ·by_cases hi:∀x∈l.map (·.fInt),cL x
  ·have hu:=ou hi
   have:=Z9 Z (lZ hu).1;have a0:(b8 (l.map (·.fInt))).length=l.length:=by simp[b8]
   unfold ot;simp only[zw,ce,Qc,oV,a0];omega
  ·exfalso
   apply hi;intro x W;obtain⟨v,J,rfl⟩:=Qz.1 W;exact(h v J).ok.int
 ·have:=kQ h
  unfold mU;omega
theorem Bx (kind:Int){l:List Ap}(h:∀v∈l,VOK v):(enc kind l).1.length<=100000:=by
 unfold enc
 repeat' split
 all_goals first|exact Nat.zero_le _|skip
 rename_i W J _ _;exact Gc (rk h (by simpa using J)) (by omega)
theorem D6 {kind:Int}{b:List Int}{many:Nat}{g:List Ap}{ok:Bool}(hk:0<=kind/\kind<=4)(hm:many<=64)(hg:∀v∈g,VOK v)(hx:∀l:List Ap,(∀v∈l,Rgt v)->l.length=many->enc kind l=(b,0)->g=l/\ok=true):
  (if (!ok)=true\/(enc kind g).2≠0\/g.length≠many\/(enc kind g).1≠b then ([],60) else (g,0))=dec kind b (many:Int):=by
 unfold dec;rw[if_neg (show ¬ (kind<0\/4<kind) by omega),if_neg (show ¬ ((many:Int)<0\/64<(many:Int)) by omega)]
 by_cases h:∃l:List Ap,(∀v∈l,Rgt v)/\(l.length:Int)=(many:Int)/\enc kind l=(b,0)
 ·rw[dif_pos h]
  obtain⟨c1,c2,J⟩:=h.choose_spec;obtain⟨e1,e2⟩:=hx _ c1 (by omega) J;rw[←e1] at c2 J;rw[if_neg,e1];rintro (h1|h1|h1|h1)
  ·rw[e2] at h1;cases h1
  ·rw[J] at h1;exact h1 rfl
  ·omega
  ·rw[J] at h1;exact h1 rfl
 ·rw[dif_neg h,if_pos]
  apply Classical.byContradiction;intro W;apply h;have Z:(enc kind g).2=0:=Classical.byContradiction λh=>W (.inr (.inl h));have n3:g.length=many:=Classical.byContradiction λh=>W (.inr (.inr (.inl h)));have n4:(enc kind g).1=b:=Classical.byContradiction λh=>W (.inr (.inr (.inr h)));exact⟨g,rk hg (yb Z).1,by omega,Prod.ext n4 Z⟩
theorem tF {kind many:Int}{b:List Int}(h:kind<0\/4<kind):dec kind b many=([],62):=by unfold dec;rw[if_pos h]
theorem tG {kind many:Int}{b:List Int}(J: ¬ (kind<0\/4<kind))(h:many<0\/64<many):dec kind b many=([],61):=by unfold dec;rw[if_neg J,if_pos h]
theorem D7 {b:List Int}(kind many:Int)(hb:Byt b)(hl:b.length<=1048576):j7 kind b many=some (dec kind b many):=by
 have a1:jQ kind b many true=some ([],62):=rfl;have a0:jP kind b many true=some ([],61):=rfl;unfold j7
 by_cases h0:kind<0
 ·rw[if_pos (by simpa using h0),a1,tF (.inl h0)]
 by_cases h4:4<kind
 ·rw[if_neg (by simpa using h0),decide_eq_true h4,a1,tF (.inr h4)]
 have hk: ¬ (kind<0\/4<kind):=by omega
 rw[if_neg (by simpa using h0),decide_eq_false h4];unfold jQ;rw[if_neg (by decide)]
 by_cases m0:many<0
 ·rw[if_pos (by simpa using m0),a0,tG hk (.inl m0)]
 by_cases m64:64<many
 ·rw[if_neg (by simpa using m0),decide_eq_true m64,a0,tG hk (.inr m64)]
 rw[if_neg (by simpa using m0),decide_eq_false m64];unfold jP;rw[if_neg (by decide)];obtain⟨n,rfl⟩:=Q7 (show 0<=many by omega);have J:∀g x,ii g x=some (if x=true then ([],60) else (g,0)):=λg x=>by cases x<;>rfl
 have key:∀(g:List Ap) (r:ae),(∀v∈g,VOK v)->g.length<=1048576->jO kind b (n:Int) g r=some (if (!r.fOk)=true\/(enc kind g).2≠0\/g.length≠n\/(enc kind g).1≠b then ([],60) else (g,0)):=by
  intro g r Z a4;unfold jO;rw[ql kind Z a4,zh]
  by_cases e1:(!r.fOk)=true
  ·rw[if_pos e1,J,if_pos rfl,if_pos (.inl e1)]
  by_cases e2:(enc kind g).2=0
  ·by_cases e3:g.length=n
   ·rw[if_neg e1,if_neg (by simpa using e2),if_neg (by simpa using by omega),zS (by have:=Bx kind Z;omega),zh,J]
    by_cases e4:(enc kind g).1=b
    ·rw[if_neg (by simpa using e4),if_neg]
     rintro (h|h|h|h)
     ·exact e1 h
     ·exact h e2
     ·exact h e3
     ·exact h e4
    ·rw[if_pos (by simpa using e4),if_pos (.inr (.inr (.inr e4)))]
   ·rw[if_neg e1,if_neg (by simpa using e2),if_pos (by simp;omega),J,if_pos rfl,if_pos (.inr (.inr (.inl e3)))]
  ·rw[if_neg e1,if_pos (by simpa using e2),J,if_pos rfl,if_pos (.inr (.inl e2))]
 by_cases n0:n=0
 ·subst n0
  rw[if_neg (by decide),key _ _ (by simp) (by simp),D6 (by omega) (by omega) (by simp) λl _ h2 _=>⟨(Q2 h2).symm,rfl⟩]
 ·obtain⟨x,a5,W,a3,a2⟩:=xM (b:=b) (many:=n) kind hb (by omega) (by omega)
  rw[if_pos (by simp;omega),a5,zh,key _ _ W a3,D6 (by omega) (by omega) W a2]
theorem Gd {kind:Int}{l:List Ap}(h:∀v∈l,Rgt v)(hl:l.length<=64):Byt (pG kind l):=by
 obtain⟨w1,w2,w3⟩:=gn h
 have Z:∀{O:Type} (xs:List O) (f:O->List Int),(∀x∈xs,Byt (f x))->Byt (xs.flatMap f):=λxs f hf c hc=>by
  obtain⟨x,J,hc⟩:=List.mem_flatMap.1 hc;exact hf x J c hc
 unfold pG;split
 ·obtain⟨h1,h2,_⟩:=ol (l:=l)
  exact Z _ _ λx J=> .cons (by have:=h1 x J;omega) (pB (h _ (h1 x J).2.2))
 split
 ·exact Byt.app (tA _) (Z _ _ λx _=>D1 _)
 split
 ·exact .cons (by omega) (.app (Z _ _ λv W=>pB (h v ((w2 v).1 W))) (vD _ _))
 split
 ·have hi:∀x∈l.map (·.fInt),cL x:=λx J=>by
   obtain⟨v,W,rfl⟩:=Qz.1 J;exact(h v W).ok.int
  have:=(lZ (ou hi)).1;exact .app (.app (tA _) (.cons (by omega) .nil)) (vD _ _)
 ·exact Z _ _ λv W=>pB (h v W)
theorem wS (kind:Int){l:List Ap}(h:∀v∈l,VOK v):Byt (enc kind l).1:=by
 unfold enc
 repeat' split
 all_goals first|exact .nil|skip
 rename_i W J _ _;exact Gd (rk h (by simpa using J)) (by omega)
theorem ui {kind:Int}{l:List Ap}{b:List Int}(h:∀v∈l,VOK v)(J:enc kind l=(b,0)):∀v∈l,Rgt v:=rk h (eP J).2.2.1
theorem HU {kind:Int}{l J:List Ap}{b:List Int}(h:∀v∈l,Rgt v)(h':∀v∈J,Rgt v)(hl:J.length=l.length)(W:enc kind l=(b,0))(a0:enc kind J=(b,0)):J=l:=by
 by_cases h0:l.length=0
 ·rw[Q2 h0,Q2 (hl.trans h0)]
 have hb:Byt b:=by have:=wS kind λv Z=>(h v Z).ok;rw[W] at this;exact this
 have a1:b.length<=100000:=by have:=Bx kind λv Z=>(h v Z).ok;rw[W] at this;exact this
 obtain⟨x,_,_,_,hx⟩:=xM (b:=b) (many:=l.length) kind hb (by omega) ⟨by omega,(eP W).2.1⟩;rw[←(hx l h rfl W).1,←(hx J h' hl a0).1]
theorem HV {kind:Int}{l:List Ap}{b:List Int}(h:∀v∈l,VOK v)(J:enc kind l=(b,0)):dec kind b (l.length:Int)=(l,0):=by
 have W:=ui h J;obtain⟨k1,k2,_⟩:=eP J;unfold dec;rw[if_neg (show ¬ (kind<0\/4<kind) by omega),if_neg (show ¬ ((l.length:Int)<0\/64<(l.length:Int)) by omega)];have Z:∃l':List Ap,(∀v∈l',Rgt v)/\(l'.length:Int)=(l.length:Int)/\enc kind l'=(b,0):=⟨l,W,rfl,J⟩
 rw[dif_pos Z];obtain⟨c1,c2,c3⟩:=Z.choose_spec;rw[HU W c1 (by omega) J c3]
theorem D8 (kind:Int)(b:List Int)(many:Int):(∃l:List Ap,dec kind b many=(l,0)/\(∀v∈l,Rgt v)/\(l.length:Int)=many/\enc kind l=(b,0))\/(∃e,dec kind b many=([],e)/\e≠0):=by
 unfold dec;split
 ·right;exact⟨62,rfl,by decide⟩
 split
 ·right;exact⟨61,rfl,by decide⟩
 split
 ·rename_i h
  left;exact⟨_,rfl,h.choose_spec⟩
 ·right;exact⟨60,rfl,by decide⟩
def yx (l:List Ap)(s:Int×Int)(k:Nat):Int×Int:=if (enc (k:Int) l).2=0/\(s.2<0\/((enc (k:Int) l).1.length:Int)<s.2) then ((k:Int),((enc (k:Int) l).1.length:Int)) else s
def i7 (l:List Ap)(n:Nat):Int×Int:=(Qd n).foldl (yx l) (0,-1)
def zT (l:List Ap):Int:=(i7 l 5).1
theorem vL (l:List Ap)(n:Nat):i7 l (n+1)=yx l (i7 l n) n:=by simp[i7,List.range_succ]
theorem CF (l:List Ap)(n:Nat):((i7 l n).2<0/\(i7 l n).1=0/\∀k:Nat,k<n->(enc (k:Int) l).2≠0)\/(0<=(i7 l n).2/\(∃k:Nat,k<n/\(i7 l n).1=(k:Int))/\(enc (i7 l n).1 l).2=0/\(i7 l n).2=((enc (i7 l n).1 l).1.length:Int)/\∀k:Nat,k<n->(enc (k:Int) l).2=0->(i7 l n).2<=((enc (k:Int) l).1.length:Int)):=by
 induction n with
 |zero=>left;exact⟨show((-1:Int))<0 by decide,rfl,λk hk=>by omega⟩
 | succ n ih=>
  rw[vL];generalize i7 l n=s at*;unfold yx
  by_cases h:(enc (n:Int) l).2=0/\(s.2<0\/((enc (n:Int) l).1.length:Int)<s.2)
  ·rw[if_pos h]
   right;refine⟨by dsimp only;omega,⟨n,by omega,rfl⟩,h.1,rfl,λk hk J=>?_⟩;dsimp only;rcases ih with⟨W,_,i2⟩|⟨W,_,_,i4,Z⟩
   ·by_cases e:k=n
    ·subst e;omega
    ·exact absurd J (i2 k (by omega))
   ·by_cases e:k=n
    ·subst e;omega
    ·have:=Z k (by omega) J
     omega
  ·rw[if_neg h]
   rcases ih with⟨W,i0,i2⟩|⟨W,⟨k0,a1,a0⟩,i3,i4,Z⟩
   ·left
    refine⟨W,i0,λk hk J=>?_⟩
    by_cases e:k=n
    ·subst e;exact h ⟨J,.inl W⟩
    ·exact i2 k (by omega) J
   ·right
    refine⟨W,⟨k0,by omega,a0⟩,i3,i4,λk hk J=>?_⟩
    by_cases e:k=n
    ·subst e
     rcases Int.lt_or_le ((enc (k:Int) l).1.length:Int) s.2 with h2|h2
     ·exact absurd ⟨J,.inr h2⟩ h
     ·exact h2
    ·exact Z k (by omega) J
theorem HW {l:List Ap}(h:∀v∈l,VOK v)(J:l.length<=1048576):nN l=some (zT l):=by
 unfold nN;refine cf (λi=>((i7 l i).1,(i7 l i).2,(i:Int))) 5 rfl (λi hi=>?_) ?_
 ·dsimp only
  rw[vL];generalize i7 l i=s;unfold q9 ld nw yx;rw[if_pos (decide_eq_true (by omega)),ql _ h J,zh,bw (by omega)]
  by_cases e:(enc (i:Int) l).2=0
  ·rw[if_pos (by simpa using e)]
   by_cases e2:s.2<0
   ·rw[if_pos (decide_eq_true e2),if_pos rfl,if_pos ⟨e,.inl e2⟩]
   ·rw[if_neg (by simpa using e2)]
    by_cases e3:((enc (i:Int) l).1.length:Int)<s.2
    ·rw[if_pos (decide_eq_true e3),if_pos ⟨e,.inr e3⟩]
    ·rw[if_neg (by simpa using e3),if_neg (λh=>by rcases h.2 with h|h<;>contradiction)]
  ·rw[if_neg (by simpa using e),if_neg (by decide),if_neg (λh=>e h.1)]
 ·rfl
theorem HX {l:List Ap}:(enc 0 l).2≠0->∀k:Int,0<=k/\k<=4->(enc k l).2≠0:=by
 intro h k Z;unfold enc at*;rw[if_neg (show ¬ ((0:Int)<0\/4<(0:Int)) by omega)] at h;rw[if_neg (show ¬ (k<0\/4<k) by omega)];split
 ·decide
 split
 ·decide
 rename_i W J;rw[if_neg W,if_neg J,if_neg (λh=>by omega)] at h;exfalso;apply h;split<;>rfl
theorem O8 {l:List Ap}:(enc (zT l) l).2=(enc 0 l).2/\(enc (zT l) l).1.length<=(enc 0 l).1.length:=by
 unfold zT;rcases CF l 5 with⟨_,h,_⟩|⟨_,⟨k,W,Z⟩,h,q2,q3⟩
 ·rw[h];exact⟨rfl,Qj _⟩
 ·have e:(enc 0 l).2=0:=Classical.byContradiction λJ=>HX J (i7 l 5).1 (by omega) h
  have:=q3 0 (by omega) e;rw[show((0:Nat):Int)=0 from rfl] at this;exact⟨by rw[h,e],by omega⟩
def U32 (x:Int):Prop:=0<=x/\x<4294967296
theorem zU (x:Int):U32 (Xb.wrap x):=by rw[wH];unfold U32;omega
theorem wT (x y:Int):U32 (fh .u32 x y):=zU _
theorem ME (x:Int):∃n:Nat,dI .u32 x 15=(n:Int)/\n<16:=by
 unfold dI;rw[wH,BitVec.toNat_and];have h:(Qk Xb.bits 15).toNat=15:=by decide
 rw[h];have:(Qk Xb.bits x).toNat&&&15<=15:=Nat.and_le_right;exact⟨_,by rw[Qg (by omega) (by omega)],by omega⟩
theorem Jg {t:List Int}(h:t.length=16)(W:∀x∈t,U32 x)(x:Int):∃(j:Nat) (y:Int),ix t (dI .u32 x 15)=some j/\t[j]? =some y/\U32 y:=by
 obtain⟨n,Z,h2⟩:=ME x;have J:n<t.length:=by omega
 exact⟨n,t[n],by rw[Z];exact nQ J,Jn J,W _ (Q1 J)⟩
theorem D9 {b t:List Int}(hl:b.length<4611686018427387904)(h:t.length=16)(J:∀x∈t,U32 x):∃n,po b t=some n/\U32 n:=by
 unfold po;refine eW (λs=>U32 s.1/\∃i:Nat,s.2=(i:Int)/\i<=b.length) (λs=>((b.length:Int) - s.2).toNat) U32 ?_ ⟨⟨by decide,by decide⟩,0,rfl,by omega⟩;rintro ⟨x,i'⟩ ⟨hx,i,hi,hi'⟩;dsimp only at hi;subst hi;dsimp only;unfold th
 by_cases hlt:i<b.length
 ·left
  rw[if_pos (by simpa using hlt),aC hlt,zh];obtain⟨j,y,Z,W,h3⟩:=Jg h J (fh .u32 x (Xb.wrap b[i]));rw[Z,zh,W,zh];obtain⟨j',z,k1,k2,k3⟩:=Jg h J (fh .u32 y (aP .u32 (fh .u32 x (Xb.wrap b[i])) 4));rw[k1,zh,k2,zh,bw (by omega)];exact⟨_,rfl,⟨wT _ _,i+1,rfl,by omega⟩,by dsimp only;omega⟩
 ·right
  rw[if_neg (by simpa using hlt)];exact⟨_,rfl,wT _ _⟩
theorem Jh {b:List Int}(hl:b.length<4611686018427387904):∃n,iS b=some n/\U32 n:=by
 unfold iS;refine eW (λs=>(∃i:Nat,s.1=(i:Int)/\i<=16)/\s.2.length=16/\∀x∈s.2,U32 x) (λs=>(16 - s.1).toNat) U32 ?_ ⟨⟨0,rfl,by omega⟩,by simp,λx J=>by rw[Zr J];exact⟨by decide,by decide⟩⟩;rintro ⟨i',t⟩ ⟨⟨i,hi,hi'⟩,ht,hu⟩;dsimp only at hi ht hu;subst hi;dsimp only;unfold tp
 by_cases hlt:i<16
 ·left
  rw[if_pos (by simpa using by omega)]
  have:∃r,aq (λs:(Int×Int)=>pp (i:Int) t s.1 s.2) (Xb.wrap (i:Int),0)=some r/\∃v,U32 v/\r= .inl (((i+1:Nat):Int),t.set i v):=by
   refine eW (λs=>U32 s.1/\∃i:Nat,s.2=(i:Int)/\i<=4) (λs=>(4 - s.2).toNat) _ ?_ ⟨zU _,0,rfl,by omega⟩;rintro ⟨x,q'⟩ ⟨J,q,Z,a1⟩;dsimp only at Z;subst Z;dsimp only;unfold pp
   by_cases hql:q<4
   ·left
    rw[if_pos (by simpa using by omega),bw (by omega)];exact⟨_,rfl,⟨wT _ _,q+1,rfl,by omega⟩,by dsimp only;omega⟩
   ·right
    rw[if_neg (by simpa using by omega)];unfold tn tj;have a0:i<t.length:=by omega
    rw[nQ a0,zh,Jn a0,zh,bw (by omega)];exact⟨_,rfl,x,J,rfl⟩
  obtain⟨r,W,v,hv,rfl⟩:=this;refine⟨_,W,⟨⟨i+1,rfl,by omega⟩,by simpa using ht,λx J=>?_⟩,by dsimp only;omega⟩;rcases List.mem_or_eq_of_mem_set J with h|h
  ·exact hu x h
  ·rw[h];exact hv
 ·right
  rw[if_neg (by simpa using by omega)];obtain⟨n,W,h2⟩:=D9 hl ht hu;exact⟨n,by rw[W];rfl,h2⟩
noncomputable def mq (b:List Int):Int:=(iS b).getD 0
theorem zV {b:List Int}(J:b.length<4611686018427387904):iS b=some (mq b)/\U32 (mq b):=by
 obtain⟨n,W,h⟩:=Jh J;unfold mq;rw[W];exact⟨rfl,h⟩
def be4 (n:Int):List Int:=[n/2^24%256,n/2^16%256,n/2^8%256,n%256]
theorem wU (n:Int):Byt (be4 n):=by
 unfold be4;exact .cons (by omega) (.cons (by omega) (.cons (by omega) (.cons (by omega) .nil)))
theorem et (n:Int):(be4 n).length=4:=rfl
theorem CG {x:Int}{k:Nat}(h:k<=32):aP .u32 x (k:Int)=x/2^k:=by
 unfold aP;rw[Zh _ (Int.le_of_lt (Int.pow_pos (by decide)))];congr 2;simp[IntKind.bits];omega
theorem CH {x:Int}{k:Nat}(h:k<=64):aP .i64 x (k:Int)=x/2^k:=by
 unfold aP;rw[Zh _ (Int.le_of_lt (Int.pow_pos (by decide)))];congr 2;simp[IntKind.bits];omega
noncomputable def kE (b:List Int):List Int:=b++be4 (mq b)
theorem xN {b:List Int}(W:b.length<=1000000000000):jy b=some (kE b):=by
 unfold jy;rw[(zV (b:=b) (by omega)).1,zh,bZ,bZ,bZ,bZ];have h:=CG (x:=mq b) (k:=24) (by omega);have e2:=CG (x:=mq b) (k:=16) (by omega);have J:=CG (x:=mq b) (k:=8) (by omega);rw[show((24:Nat):Int)=24 from rfl] at h;rw[show((16:Nat):Int)=16 from rfl] at e2;rw[show((8:Nat):Int)=8 from rfl] at J;rw[h,e2,J,aQ (by simp;omega),zh]
 rfl
theorem Ea {v:Ap}(h:Rgt v):n7 v=some (bn v):=by
 unfold n7;rw[rf (l:=[v]) (λx J=>by rw[Z8.1 J];exact h) (by simp),zh];simp only[rW,Qc,Z0,List.flatMap_nil,Qp];rw[qi,zh]
def qz:List Ap->Ap
 |[]=>jX
 |v::l=>l.foldl (λm x=>if ltV x m then x else m) v
def qC:List Ap->Ap
 |[]=>jX
 |v::l=>l.foldl (λm x=>if ltV m x then x else m) v
theorem zW (a b:Ap):0<uV a b↔ltV b a=true:=by
 unfold uV;split
 ·rename_i h;simp[zQ h]
 ·split
  ·rename_i h;simp[h]
  ·rename_i h;simp at h;simp[h]
theorem tH {f:Ap->Ap->Ap}(J:∀m x,f m x=m\/f m x=x):∀(l:List Ap) (v:Ap),l.foldl f v∈v::l
 |[],v=>by simp
 | x::l,v=>by
  have:=tH J l (f v x);rw[Zz];rcases J v x with h|h
  ·rw[h] at this ⊢
   rcases Z4.1 this with h'|h'
   ·rw[h'];simp
   ·simp[h']
  ·rw[h] at this ⊢
   simp[this]
theorem uW {l:List Ap}(h:l≠[]):qz l∈l:=by
 cases l with
 |nil=>exact absurd rfl h
 |cons v l=>exact tH (λm x=>by split<;>simp) l v
theorem uX {l:List Ap}(h:l≠[]):qC l∈l:=by
 cases l with
 |nil=>exact absurd rfl h
 |cons v l=>exact tH (λm x=>by split<;>simp) l v
theorem CI {l:List Ap}(h:l≠[])(J:l.length<=1048576):fq l b9=some (qz l):=by
 cases l with
 |nil=>exact absurd rfl h
 |cons v r=>
 unfold fq;rw[if_neg (by simp;omega)];unfold ly;rw[da,zh];refine cf (λi=>(((i+1:Nat):Int),(r.take i).foldl (λm x=>if ltV x m then x else m) v)) r.length (by simp) (λi hi=>?_) ?_
 ·dsimp only
  unfold iC;have hi':i+1<(v::r).length:=by simp;omega
  simp only[Q9] at J;rw[if_pos (by simpa using by omega),aC hi',zh,dQ,zh];rw[mR hi];unfold iB;have e:(v::r)[i+1]=r[i]:=rfl;rw[e,bw (by omega)]
  by_cases hc:ltV r[i] ((r.take i).foldl (λm x=>if ltV x m then x else m) v)=true
  ·rw[if_pos (decide_eq_true ((mp _ _).2 hc)),zh,if_pos hc]
  ·rw[if_neg (by simpa using λh=>hc ((mp _ _).1 h)),if_neg hc]
 ·unfold iC lx
  dsimp only;rw[if_neg (by simp),Qb]
  rfl
theorem CJ {l:List Ap}(h:l≠[])(J:l.length<=1048576):ft l b9=some (qC l):=by
 cases l with
 |nil=>exact absurd rfl h
 |cons v r=>
 unfold ft;rw[if_neg (by simp;omega)];unfold lA;rw[da,zh];refine cf (λi=>(((i+1:Nat):Int),(r.take i).foldl (λm x=>if ltV m x then x else m) v)) r.length (by simp) (λi hi=>?_) ?_
 ·dsimp only
  unfold iE;have hi':i+1<(v::r).length:=by simp;omega
  simp only[Q9] at J;rw[if_pos (by simpa using by omega),aC hi',zh,dQ,zh];rw[mR hi];unfold iD;have e:(v::r)[i+1]=r[i]:=rfl;rw[e,bw (by omega)]
  by_cases hc:ltV ((r.take i).foldl (λm x=>if ltV m x then x else m) v) r[i]=true
  ·rw[if_pos (decide_eq_true ((zW _ _).2 hc)),zh,if_pos hc]
  ·rw[if_neg (by simpa using λh=>hc ((zW _ _).1 h)),if_neg hc]
 ·unfold iE lz
  dsimp only;rw[if_neg (by simp),Qb]
  rfl
def lu (l:List Ap):Nat:=(l.filter λv=>v.fKind==0).length
def CK (kind:Int)(l:List Ap):bg:=⟨kind,(l.length:Int),qz l,qC l,(lu l:Int),0⟩
theorem sd (i:bg):∀(l:List Ap) (n:Nat),n+l.length<=1048576->eK (λ(s:bg) (x:Ap)=>eM s x) { i with fNulls:=(n:Int) } l=some ({ i with fNulls:=((n+lu l:Nat):Int) },true)
 |[],n,_=>by simp[eK,lu]
 | v::l,n,h=>by
  simp only[Q9] at h;simp only[eK]
  by_cases hv:(v.fKind==0)=true
  ·have e:eM { i with fNulls:=(n:Int) } v=some ({ i with fNulls:=((n+1:Nat):Int) },true):=by
    unfold eM;rw[if_pos hv,bw (by omega)]
   rw[e,zh,if_pos rfl,sd i l (n+1) (by omega)];simp only[lu,List.filter_cons,hv,if_true,Q9];congr 4;omega
  ·have e:eM { i with fNulls:=(n:Int) } v=some ({ i with fNulls:=(n:Int) },true):=by
    unfold eM;rw[if_neg hv]
   rw[e,zh,if_pos rfl,sd i l n (by omega)];simp only[lu,List.filter_cons,hv,Qx,if_false]
theorem uY (l:List Ap):lu l<=l.length:=List.length_filter_le _ _
theorem By {l:List Ap}(kind:Int)(h:l≠[])(J:l.length<=1048576):jN kind l=some (CK kind l):=by
 unfold jN iu;rw[CI h J,zh,CJ h J,zh,zh];rw[show(⟨kind,(l.length:Int),qz l,qC l,0,0⟩:bg)={ (⟨kind,(l.length:Int),qz l,qC l,0,0⟩:bg) with fNulls:=((0:Nat):Int) } from rfl,sd _ l 0 (by omega),zh,if_pos rfl,Nat.zero_add]
 rfl
theorem Eb {kind:Int}{l:List Ap}(h:∀v∈l,Rgt v)(Z:l.length<=64):(pG kind l).length<=60000:=by
 obtain⟨w1,w2,w3⟩:=gn h;unfold pG;split
 ·obtain⟨h1,h2,_⟩:=ol (l:=l)
  have:=o7 (cC l) (λr=>r.fMany::bn r.fValue) 67 λx W=>by
   have:=(gJ (h _ (h1 x W).2.2)).2;simp;omega
  unfold ug;omega
 split
 ·have:=o7 (Qd ((l.map (·.fInt)).length - 1)) (mf (l.map (·.fInt))) 10 λx _=>nS (pF (lY _))
  unfold om;simp only[zw,ce,List.length_range,Qt] at*;omega
 split
 ·have h1:=kQ (l:=aX l) λv J=>h v ((w2 v).1 J)
  have a1:wid ((aX l).length - 1)<=64:=ri (Zi (show(aX l).length - 1<64 by omega) (by decide));have:=Z9 Z a1;unfold nU;simp only[Q9,zw,oV,Qt];omega
 split
 ·by_cases hi:∀x∈l.map (·.fInt),cL x
  ·have hu:=ou hi
   have:=Z9 Z (lZ hu).1;have a0:(b8 (l.map (·.fInt))).length=l.length:=by simp[b8]
   unfold ot;simp only[zw,ce,Qc,oV,a0];omega
  ·exfalso
   apply hi;intro x W;obtain⟨v,J,rfl⟩:=Qz.1 W;exact(h v J).ok.int
 ·have:=kQ h
  unfold mU;omega
theorem uZ {kind:Int}{l:List Ap}{b:List Int}(h:∀v∈l,VOK v)(J:enc kind l=(b,0)):b.length<=60000:=by
 obtain⟨_,W,_,_,Z⟩:=eP J;rcases Z with⟨_,rfl⟩|⟨_,rfl⟩
 ·simp
 ·exact Eb (ui h J) W
def be2 (n:Nat):List Int:=[((n/256:Nat):Int),((n%256:Nat):Int)]
def fE (k m z:Int)(v w:Ap)(d:List Int):List Int:=k::m::z::(bn v++(bn w++(be2 d.length++d)))
def ke (kind:Int)(l:List Ap):Int:=if kind= -1 then zT l else kind
def kF (k:Int)(l:List Ap):List Int:=fE k (l.length:Int) (lu l:Int) (qz l) (qC l) (enc k l).1
noncomputable def wr (kind:Int) (l:List Ap):List Int×Int:=
 if l=[] then ([],70) else if (enc (ke kind l) l).2≠0 then ([],(enc (ke kind l) l).2) else (kE (kF (ke kind l) l),0)
theorem Ec {k m z:Int}{v w:Ap}{d:List Int}(hk:0<=k/\k<=4)(hm:1<=m/\m<=64)(Z:0<=z/\z<=m)(h:Rgt v)(J:Rgt w)(W:Byt d)(hl:d.length<65536):Byt (fE k m z v w d):=by
 unfold fE be2;refine .cons (by omega) (.cons (by omega) (.cons (by omega) (.app (pB h) (.app (pB J) (.app (.cons (by omega) (.cons (by omega) .nil)) W)))))
theorem qn {k m z:Int}{v w:Ap}{d:List Int}:(fE k m z v w d).length=5+(bn v).length+(bn w).length+d.length:=by
 unfold fE be2;simp;omega
theorem Ge {l:List Ap}(kind:Int)(h:∀v∈l,VOK v)(Z:l.length<=1048576):lQ kind l=some (wr kind l):=by
 have key:∀k,l≠[]->lf l k=some (if (enc k l).2≠0 then ([],(enc k l).2) else (kE (kF k l),0)):=by
  intro k J;unfold lf;rw[ql k h Z,zh]
  by_cases he:(enc k l).2=0
  ·have a0:enc k l=((enc k l).1,0):=Prod.ext rfl he
   obtain⟨W,b1,_⟩:=eP a0;have hR:=ui h a0;have a9:=hR _ (uW J);have a6:=hR _ (uX J);have b0:=uZ h a0;have b2:=wS k h;have hn:=uY l;have h0:0<l.length:=Qu.2 J;have l1:=(gJ a9).2;have l2:=(gJ a6).2;rw[if_neg (by simpa using he),if_neg (by simpa using he),By k J Z,zh];have e8:=CH (x:=((enc k l).1.length:Int)) (k:=8) (by omega);rw[show((8:Nat):Int)=8 from rfl] at e8;simp only[CK];rw[Ea a9,zh,aQ (by simp;omega),zh,Ea a6,zh,aQ (by simp;omega),zh,aQ (by simp;omega),zh,aQ (by simp;omega),zh]
   have e:([X5.wrap k,X5.wrap (l.length:Int),X5.wrap (lu l:Int)]++bn (qz l)++bn (qC l)++[X5.wrap (aP .i64 ((enc k l).1.length:Int) 8),X5.wrap ((enc k l).1.length:Int)]++(enc k l).1)=kF k l:=by
    unfold kF fE be2;rw[bZ,bZ,bZ,bZ,bZ,e8];have a1:k%256=k:=by omega
    have a2:(l.length:Int)%256=(l.length:Int):=by omega
    have a3:(lu l:Int)%256=(lu l:Int):=by omega
    have a4:((enc k l).1.length:Int)/2^8%256=(((enc k l).1.length/256:Nat):Int):=by omega
    have a5:((enc k l).1.length:Int)%256=(((enc k l).1.length%256:Nat):Int):=by omega
    rw[a1,a2,a3,a4,a5];simp
   have s2:(kF k l).length<=1000000000000:=by unfold kF;rw[qn];omega
   rw[e,xN s2,zh]
  ·rw[if_pos (by simpa using he),if_pos he]
 unfold lQ wr
 by_cases J:l=[]
 ·subst J;rfl
 ·have h0:0<l.length:=Qu.2 J
  rw[if_neg (by simp;omega),if_neg J];unfold ke
  by_cases W:kind= -1
  ·rw[if_pos (by simpa using W),if_pos W,HW h Z,zh,key _ J]
  ·rw[if_neg (by simpa using W),if_neg W,key _ J]
theorem u3 {b:List Int}(W:Byt b)(hl:b.length<140737488355328):kq b=some (match bI b with|some (v,n)=>(v,b.drop n,true)|none=>(jX,[],false)):=by
 unfold kq
 have step:∀k,1<=k->k<=b.length->k<=66->lj b (k:Int)=match bI (b.take k) with|some (v,n)=>(if n=k then some (.inr (v,b.drop k,true)) else some (.inl ((k+1:Nat):Int)))|none=>some (.inl ((k+1:Nat):Int)):=by
  intro k J Z h3;have hs:=d4 (xs:=b) (lo:=0) (hi:=k) (by omega) Z;rw[show((0:Nat):Int)=0 from rfl] at hs;unfold lj lh;rw[if_pos (by simpa using by omega),if_pos (by simp;omega),hs,zh,aQ (by simp;omega),zh,Z7,Zy,qj (W.take _),zh,ga Z,bw (by omega)];have a0:(b.take k).length=k:=by simp;omega
  cases hp:bI (b.take k) with
  |none=>rfl
  |some x=>
   obtain⟨v,n⟩:=x;simp only[a0]
   by_cases e:n=k
   ·rw[if_pos e,if_pos e];rfl
   ·rw[if_neg e,if_neg e];rfl
 cases hp:bI b with
 | some x=>
  obtain⟨v,n⟩:=x;have hn:=pC W hp;refine cf (λi=>((i+1:Nat):Int)) (n - 1) rfl (λi hi=>?_) ?_
  ·rw[step (i+1) (by omega) (by omega) (by omega)]
   cases hq:bI (b.take (i+1)) with
   |none=>rfl
   |some y=>
    obtain⟨v',n'⟩:=y;obtain⟨J,Z⟩:=oT W hq;rw[hp] at J;simp only[Option.some.injEq,Prod.mk.injEq] at J;omega
  ·have e:n - 1+1=n:=by omega
   rw[e,step n (by omega) (by omega) (by omega),sH W hp (Qj _)];simp
 | none=>
  refine cf (λi=>((i+1:Nat):Int)) (min b.length 66) rfl (λi hi=>?_) ?_
  ·rw[step (i+1) (by omega) (by omega) (by omega)]
   cases hq:bI (b.take (i+1)) with
   |none=>rfl
   |some y=>
    obtain⟨v',n'⟩:=y;obtain⟨J,Z⟩:=oT W hq;rw[hp] at J;cases J
  ·have e0:lh b ((min b.length 66+1:Nat):Int) false=some (.inr (jX,[],false)):=rfl
   unfold lj;split
   ·have:decide (((min b.length 66+1:Nat):Int)<=66)=false:=by
     rename_i h;simp at h ⊢;omega
    rw[this,e0]
   ·exact e0
theorem orI {a b:Nat}(Z:a<65536)(J:b<65536):bOr .i64 (a:Int) (b:Int)=((a|||b:Nat):Int):=by
 unfold bOr
 have W:(Qk Qe.bits (a:Int)).toNat=a:=by
  show(Qk 64 (a:Int)).toNat=a;rw[Z5];omega
 have h:(Qk Qe.bits (b:Int)).toNat=b:=by
  show(Qk 64 (b:Int)).toNat=b;rw[Z5];omega
 rw[BitVec.toNat_or,W,h];have:a|||b<2^16:=Nat.or_lt_two_pow (by simpa using Z) (by simpa using J)
 have e:(2:Nat)^16=65536:=by decide
 rw[ak (by omega)]
theorem Ed {x y:Int}(J:0<=x/\x<256)(h:0<=y/\y<256):bOr .i64 (eu .i64 (Qe.wrap x) 8) (Qe.wrap y)=((x.toNat*256+y.toNat:Nat):Int):=by
 rw[rg J,rg h];obtain⟨a,rfl⟩:=Q7 J.1;obtain⟨b,rfl⟩:=Q7 h.1
 have e:eu .i64 (a:Int) 8=((2^8*a:Nat):Int):=by
  unfold eu;have:(2:Int)^(min (8:Int).toNat Qe.bits)=256:=by decide
  rw[this,ak (by omega)];omega
 rw[e,orI (by omega) (by omega),←Qw (by omega)];simp only[Int.toNat_natCast];omega
structure Blk (b:List Int)(k m z:Int)(v w:Ap)(d r:List Int):Prop where
 eq:b=fE k m z v w d++r
 hk:0<=k/\k<=4
 hm:1<=m/\m<=64
 hz:0<=z/\z<=m
 hv:Rgt v
 hw:Rgt w
 hd:d.length<65536
 hr:4<=r.length
def yz (k m z:Int)(v w:Ap)(d:List Int):bg:=⟨k,m,v,w,z,((fE k m z v w d).length+4:Nat)⟩
theorem Blk.parts {b:List Int}{k m z k' m' z':Int}{v w:Ap}{d r:List Int}(h:Blk (k::m::z::b) k' m' z' v w d r):k=k'/\m=m'/\z=z'/\bI b=some (v,(bn v).length)/\bI (b.drop (bn v).length)=some (w,(bn w).length)/\(b.drop (bn v).length).drop (bn w).length=be2 d.length++(d++r):=by
 have:=h.eq;unfold fE at this;simp only[Qi,List.cons.injEq,Q5] at this;obtain⟨h1,Z,W,J⟩:=this;refine⟨h1,Z,W,?_,?_,?_⟩
 ·rw[J,od h.hv]
 ·rw[J,Qo,od h.hw]
 ·rw[J,Qo,Qo]
theorem Blk.one {b:List Int}{k m z k' m' z':Int}{v w v' w':Ap}{d r Z r':List Int}(h:Blk b k m z v w d r)(h':Blk b k' m' z' v' w' Z r'):k=k'/\m=m'/\z=z'/\v=v'/\w=w'/\d=Z/\r=r':=by
 have e:=h.eq;unfold fE at e;simp only[Qi] at e;rw[e] at h h';obtain⟨a1,a2,a3,a4,a5,a6⟩:=h.parts;obtain⟨b1,b2,b3,b4,W,J⟩:=h'.parts;rw[a4] at b4;simp only[Option.some.injEq,Prod.mk.injEq] at b4;obtain⟨rfl,_⟩:=b4;rw[a5] at W;simp only[Option.some.injEq,Prod.mk.injEq] at W;obtain⟨rfl,_⟩:=W;rw[a6] at J;unfold be2 at J;simp only[Qi,Ql,List.cons.injEq] at J;have a0:d.length=Z.length:=by omega
 obtain⟨c1,c2⟩:=List.append_inj J.2.2 a0;exact⟨b1,b2,b3,rfl,rfl,c1,c2⟩
abbrev zX:bg:=⟨0,0,Ap.zero,Ap.zero,0,0⟩
theorem HY {b:List Int}(hb:Byt b)(hl:b.length<=1000000000000):
  (∃k m z v w d r,Blk b k m z v w d r/\iT b=some (yz k m z v w d,d,true))\/(iT b=some (zX,[],false)/\∀k m z v w d r,¬ Blk b k m z v w d r):=by
 have fS:∀{b:List Int},b.length<3->∀k m z v w d r,¬ Blk b k m z v w d r:=by
  intro b hs k m z v w d r h;have:=h.eq;rw[this] at hs;simp[qn] at hs;omega
 have c7:∀b,fO b true=some (zX,[],false):=λb=>rfl
 match b,hb,hl with
 |[],_,_=>exact .inr ⟨rfl,fS (by simp)⟩
 |[_],_,_=>exact .inr ⟨rfl,fS (by simp)⟩
 |[_,_],_,_=>exact .inr ⟨rfl,fS (by simp)⟩
 | k ::m::z::t,hb,hl=>
  have b0:=hb.head;have b1:=hb.tail.head;have b2:=hb.tail.tail.head;have Z:Byt t:=hb.tail.tail.tail;simp only[Q9] at hl;have i0:idx (k::m::z::t) 0=some k:=da _ _;have i1:idx (k::m::z::t) 1=some m:=xF _ _ _;have i2:idx (k::m::z::t) 2=some z:=aC (xs:=k::m::z::t) (i:=2) (by simp);have e3:sub (k::m::z::t) 3 ((k::m::z::t).length:Int)=some t:=ga (xs:=k::m::z::t) (k:=3) (by simp)
  have b5:iT (k::m::z::t)=if 4<k\/m=0\/64<m\/m<z then some (zX,[],false) else fO (k::m::z::t) false:=by
   unfold iT;rw[if_neg (by simp;omega),i0,zh,i1,zh,zh,i2,zh,zh]
   by_cases c1:4<k
   ·rw[if_pos (by simpa using c1),if_pos (.inl c1)];rfl
   rw[if_neg (by simpa using c1)]
   by_cases c2:m=0
   ·rw[if_pos (by simpa using c2),if_pos (.inr (.inl c2))];rfl
   rw[if_neg (by simpa using c2)]
   by_cases c3:64<m
   ·rw[if_pos (by simpa using c3),if_pos (.inr (.inr (.inl c3)))];rfl
   rw[if_neg (by simpa using c3)]
   by_cases c4:m<z
   ·rw[if_pos (.inr (.inr (.inr c4))),decide_eq_true c4];rfl
   rw[if_neg (by omega),decide_eq_false c4]
  rw[b5]
  by_cases c:4<k\/m=0\/64<m\/m<z
  ·rw[if_pos c]
   refine .inr ⟨rfl,λk' m' z' v w d r h=>?_⟩;obtain⟨rfl,rfl,rfl,_⟩:=h.parts;have:=h.hk;have:=h.hm;have:=h.hz;omega
  rw[if_neg c];unfold fO;rw[if_neg (by decide),i0,zh,i1,zh,i2,zh,e3,zh,u3 Z (by omega),zh];cases hp:bI t with
  |none=>
   have hf:∃x,kq ([]:List Int)=some x:=⟨_,u3 (b:=[]) .nil (by simp)⟩
   obtain⟨x,hx⟩:=hf;simp only;rw[hx,zh];refine .inr ⟨rfl,λk' m' z' v w d r h=>?_⟩;have:=h.parts.2.2.2.1;rw[hp] at this;cases this
  | some q=>
   obtain⟨v,n1⟩:=q;have c5:=pC Z hp;simp only;rw[u3 (Z.drop _) (by simp;omega),zh];cases hp2:bI (t.drop n1) with
   |none=>
    refine .inr ⟨rfl,λk' m' z' v' w d r h=>?_⟩;obtain⟨_,_,_,h1,h2,_⟩:=h.parts;rw[hp] at h1;simp only[Option.some.injEq,Prod.mk.injEq] at h1;rw[←h1.2,hp2] at h2;cases h2
   | some q2=>
    obtain⟨w,n2⟩:=q2;have c6:=pC (Z.drop _) hp2;simp only[X8,Qx,if_false];obtain⟨c0,t1,a9,b6⟩:=lq Z hp;obtain⟨b7,t2,a5,b4⟩:=lq (Z.drop _) hp2;have a0:(t.drop n1).drop n2=t2:=by rw[a5,b4,Qo]
    have a4:Byt t2:=by rw[←a0];exact(Z.drop _).drop _
    have b3:t.drop n1=t1:=by rw[a9,b6,Qo]
    have a2:t=bn v++(bn w++t2):=by rw[a9,←a5,b3]
    have a1:t2.length<2->∀k' m' z' v' w' d r,¬ Blk (k::m::z::t) k' m' z' v' w' d r:=by
     intro h2 k' m' z' v' w' d r h;obtain⟨_,_,_,p1,W,J⟩:=h.parts;rw[hp] at p1;simp only[Option.some.injEq,Prod.mk.injEq] at p1;rw[←p1.2,hp2] at W;simp only[Option.some.injEq,Prod.mk.injEq] at W;rw[←p1.2,←W.2,a0] at J;rw[J] at h2;simp[be2] at h2;omega
    unfold me;simp only[a0]
    match t2,a2,a0,a4,a1,a5 with
    |[],_,_,_,a1,_=>exact .inr ⟨by rw[if_pos (by decide)],a1 (by simp)⟩
    |[_],_,_,_,a1,_=>exact .inr ⟨by rw[if_pos (by simp)],a1 (by simp)⟩
    | x::y::rest,a2,a0,a4,a1,a5=>
     have bx:=a4.head;have by_:=a4.tail.head;obtain⟨n,hn⟩:∃n,n=x.toNat*256+y.toNat:=⟨_,rfl⟩
     have e2:sub (x::y::rest) 2 ((x::y::rest).length:Int)=some rest:=ga (xs:=x::y::rest) (k:=2) (by simp);have d0:rest.length<=t.length:=by rw[a2];simp;omega
     rw[if_neg (by simp;omega),da,zh,xF,zh,e2,zh,Ed bx by_,←hn,ak (by omega)];have d1:n<65536:=by omega
     by_cases hrl:rest.length<n+4
     ·rw[if_pos (by simpa using by omega)]
      refine .inr ⟨rfl,λk' m' z' v' w' d r h=>?_⟩;obtain⟨_,_,_,p1,W,J⟩:=h.parts;rw[hp] at p1;simp only[Option.some.injEq,Prod.mk.injEq] at p1;rw[←p1.2,hp2] at W;simp only[Option.some.injEq,Prod.mk.injEq] at W;rw[←p1.2,←W.2,a0] at J;unfold be2 at J;simp only[Qi,Ql,List.cons.injEq] at J;have h4:=h.hr;have h5:rest.length=d.length+r.length:=by rw[J.2.2];simp
      omega
     ·have e4:=d4 (xs:=rest) (lo:=0) (hi:=n) (by omega) (by omega)
      rw[show((0:Nat):Int)=0 from rfl,Z7] at e4;rw[if_neg (by simpa using by omega),e4,zh];have a6:(rest.take n).length=n:=by simp;omega
      have hB:Blk (k::m::z::t) k m z v w (rest.take n) (rest.drop n):=by
       refine⟨?_,by omega,by omega,by omega,c0,b7,by omega,by simp;omega⟩;rw[a2];unfold fE be2;rw[a6];have q1:((n/256:Nat):Int)=x:=by omega
       have q2:((n%256:Nat):Int)=y:=by omega
       rw[q1,q2];simp
      refine .inl ⟨k,m,z,v,w,rest.take n,rest.drop n,hB,?_⟩
      have a3:(k::m::z::t).length=3+(bn v).length+(bn w).length+2+rest.length:=by
       rw[a2];simp;omega
      rw[a3];unfold yz;rw[qn,a6,ak (show -9223372036854775808<=k/\_ by omega),ak (show -9223372036854775808<=m/\_ by omega),ak (show -9223372036854775808<=z/\_ by omega)]
      have q3:Qe.wrap (((3+(bn v).length+(bn w).length+2+rest.length:Nat):Int) - (rest.length:Int))=((5+(bn v).length+(bn w).length:Nat):Int):=by
       rw[ak (by simp only[Q9] at a3;omega)];omega
      have q4:Qe.wrap (((5+(bn v).length+(bn w).length:Nat):Int)+(n:Int))=((5+(bn v).length+(bn w).length+n:Nat):Int):=by
       rw[ak (by simp only[Q9] at a3;omega)];omega
      have q5:Qe.wrap (((5+(bn v).length+(bn w).length+n:Nat):Int)+4)=((5+(bn v).length+(bn w).length+n+4:Nat):Int):=by
       rw[ak (by simp only[Q9] at a3;omega)];omega
      rw[q3,q4,q5]
theorem Gf {b:List Int}(W:Byt b)(hl:b.length<=1000000000000){k m z:Int}{v w:Ap}{d r:List Int}(h:Blk b k m z v w d r):iT b=some (yz k m z v w d,d,true):=by
 rcases HY W hl with⟨k',m',z',v',w',d',r',Z,J⟩|⟨_,J⟩
 ·obtain⟨rfl,rfl,rfl,rfl,rfl,rfl,_⟩:=h.one Z
  exact J
 ·exact absurd h (J _ _ _ _ _ _ _)
noncomputable def CL (k m z:Int) (v w:Ap) (d r:List Int):List Ap×Int×Int:=
 if r.take 4=be4 (mq (fE k m z v w d)) then
  if (dec k d m).2≠0 then ([],0,70)
  else if (lu (dec k d m).1:Int)=z/\qz (dec k d m).1=v/\qC (dec k d m).1=w then ((dec k d m).1,((fE k m z v w d).length+4:Nat),0) else ([],0,70)
 else ([],0,71)
theorem Gg {b:List Int}(hb:Byt b)(hl:b.length<=1000000000000){k m z:Int}{v w:Ap}{d r:List Int}(h:Blk b k m z v w d r):jR b=some (CL k m z v w d r):=by
 unfold jR;rw[Gf hb hl h,zh];have Z:=h.eq;have hr:=h.hr;have hd:=h.hd;have a6:Byt (fE k m z v w d):=by rw[Z] at hb;exact hb.left
 have a4:Byt d:=by
  have:=a6;unfold fE at this;exact this.tail.tail.tail.right.right.right
 have a9:b.length=(fE k m z v w d).length+r.length:=by rw[Z,zw]
 obtain⟨n,J⟩:∃n,n=(fE k m z v w d).length:=⟨_,rfl⟩
 have t1:b.take n=fE k m z v w d:=by rw[Z,J,X4]
 have t2:b.take (n+4)=fE k m z v w d++r.take 4:=by
  rw[Z,J,List.take_append,Q3 (Nat.le_add_right _ _),Nat.add_sub_cancel_left]
 have s1:=d4 (xs:=b) (lo:=0) (hi:=n) (by omega) (by omega);have s2:=d4 (xs:=b) (lo:=0) (hi:=n+4) (by omega) (by omega);rw[show((0:Nat):Int)=0 from rfl,Z7] at s1 s2;have hw:Qe.wrap (((n+4:Nat):Int) - 4)=(n:Int):=by rw[ak (by omega)];omega
 unfold yz;simp only[←J,X8,Qx,if_false];rw[hw,s1,zh];unfold jk;rw[t1,aQ (by simp;omega),zh,Ql,zh,xN (by omega),zh,s2,zh,t2,zS (by unfold kE;simp[et];omega),zh];unfold CL kE
 by_cases c1:r.take 4=be4 (mq (fE k m z v w d))
 ·rw[if_pos c1,c1,decide_eq_true rfl]
  simp only[X8,Qx,if_false];rw[D7 _ _ a4 (by omega),zh]
  by_cases c2:(dec k d m).2=0
  ·rw[if_neg (by simpa using c2),if_neg (by simpa using c2)]
   rcases D8 k d m with⟨l,e,g1,W,g3⟩|⟨e,g1,W⟩
   ·rw[e]
    simp only;have hm:=h.hm;have a0:l≠[]:=λe=>by rw[e] at W;simp at W;omega
    rw[By k a0 (by omega),zh];simp only[CK]
    by_cases a1:(lu l:Int)=z<;>by_cases a2:qz l=v<;>by_cases a3:qC l=w<;>simp[iI,a1,a2,a3,J]
   ·rw[g1] at c2;exact absurd c2 W
  ·rw[if_pos (by simpa using c2),if_pos c2]
 ·have a5: ¬ (fE k m z v w d++be4 (mq (fE k m z v w d))=fE k m z v w d++r.take 4):=λh=>c1 (List.append_cancel_left h).symm
  rw[if_neg c1,decide_eq_false a5]
  rfl
theorem vM {l:List Ap}{kind:Int}(h:∀v∈l,VOK v)(J:(wr kind l).2=0):∃k,l≠[]/\(∀v∈l,Rgt v)/\enc k l=((enc k l).1,0)/\k=ke kind l/\wr kind l=(kE (kF k l),0)/\∀t,Blk (kE (kF k l)++t) k (l.length:Int) (lu l:Int) (qz l) (qC l) (enc k l).1 (be4 (mq (kF k l))++t):=by
 unfold wr at J
 by_cases hne:l=[]
 ·rw[if_pos hne] at J;cases J
 rw[if_neg hne] at J
 by_cases he:(enc (ke kind l) l).2=0
 ·have W:enc (ke kind l) l=((enc (ke kind l) l).1,0):=Prod.ext rfl he
  obtain⟨hk,a1,_⟩:=eP W;have Z:=ui h W;have hn:=uY l;have h0:0<l.length:=Qu.2 hne;have a0:=uZ h W;refine⟨ke kind l,hne,Z,W,rfl,by unfold wr;rw[if_neg hne,if_neg (by simpa using he)],λt=>⟨by unfold kE kF;simp,hk,by omega,by omega,Z _ (uW hne),Z _ (uX hne),by omega,by simp[et]⟩⟩
 ·rw[if_pos (by simpa using he)] at J;exact absurd J he
theorem zY {l:List Ap}{kind:Int}(h:∀v∈l,VOK v)(W:(wr kind l).2=0):Byt (wr kind l).1/\(wr kind l).1.length<=100000:=by
 obtain⟨k,J,Z,he,_,W,hB⟩:=vM h W;obtain⟨hk,a3,_⟩:=eP he;have hn:=uY l;have h0:0<l.length:=Qu.2 J;have a2:=uZ h he;have a1:=Z _ (uW J);have a0:=Z _ (uX J);have l1:=(gJ a1).2;have l2:=(gJ a0).2;rw[W];unfold kE;refine⟨.app (Ec hk ⟨by omega,by omega⟩ ⟨by omega,by omega⟩ a1 a0 (wS k h) (by omega)) (wU _),?_⟩;simp only[zw,et];unfold kF;rw[qn];omega
theorem HZ {l:List Ap}{kind:Int}(h:∀v∈l,VOK v)(J:(wr kind l).2=0){t:List Int}(ht:Byt t)(hl:t.length<=900000000000):jR ((wr kind l).1++t)=some (l,((wr kind l).1.length:Int),0):=by
 obtain⟨W,Z⟩:=zY h J;obtain⟨k,a0,hR,he,_,J,hB⟩:=vM h J;rw[J] at W Z ⊢;simp only at W Z ⊢;rw[Gg (W.app ht) (by simp only[zw];omega) (hB t)];have hd:=HV h he;unfold CL;rw[hd,if_pos (by rw[Z1 (et _)];rfl),if_neg (by simp),if_pos ⟨rfl,rfl,rfl⟩];have:(kE (kF k l)).length=(kF k l).length+4:=by unfold kE;simp[et]
 rw[this];rfl
open Option renaming bind_some→zh,bind_assoc→Zm,map_some→X9
open List renaming length_append→zw,getElem?_eq_getElem→Jn,drop_eq_getElem_cons→Q0,getElem_mem→Q1,eq_nil_of_length_eq_zero→Q2,take_of_length_le→Q3,take_append_drop→Q4,append_assoc→Q5,take_succ_eq_append_getElem→Q6,replicate→Q8,length_cons→Q9,drop_of_length_le→Qa,take_length→Qb,length_singleton→Qc,range→Qd,map_append→Qf,mem_append→Qh,cons_append→Qi,nil_append→Ql,drop_left→Qo,append_nil→Qp,getElem?_eq_some_iff→Qq,all_eq_true→Qr,pairwise_append→Qs,length_map→Qt,length_pos_iff→Qu,getElem_of_mem→Qv,mem_map→Qz,flatMap_cons→Z0,take_left'→Z1,drop_left'→Z2,mem_cons→Z4,drop_zero→Z7,mem_singleton→Z8,take_append_of_le_length→Za,length_replicate→Zb,drop_length→Zg,getElem?_append_right→Zj,flatten_append→Zk,map_congr_left→Zl,getElem?_append_left→Zn,pairwise_iff_getElem→Zo,mem_replicate→Zp,pairwise_cons→Zq,eq_of_mem_replicate→Zr,take_add_one→Zs,mem_range→Zt,length_eq_one_iff→Zu,getElem_map→Zv,length_take→Zw,length_drop→Zx,singleton_append→Zy,foldl_cons→Zz,take_left→X4,length→X6,map_cons→Xa
open Nat renaming le_refl→Qj,two_pow_add_eq_or_of_lt→Qw,pow_le_pow_right→Qy,strongRecOn→Z6,mul_le_mul→Z9,mul_le_mul_left→Zd,lt_of_lt_of_le→Zi
open Bool renaming and_eq_true→Qm,not_eq_true'→Qn,false_eq_true→Qx,eq_false_or_eq_true→Z3,and_eq_false_iff→Zc,or_eq_false_iff→Ze,not_true→X8
open Int renaming eq_ofNat_of_zero_le→Q7,emod_eq_of_lt→Qg,natCast_pow→Zf,fdiv_eq_ediv_of_nonneg→Zh,mul_comm→X7
open BitVec renaming ofInt→Qk,toNat_ofInt→Z5
open IntKind renaming i64→Qe,u64→X3,u8→X5,u32→Xb
def Seg (x:List Int×List Ap):Prop:= ∃kind,(∀v∈x.2,VOK v)/\wr kind x.2=(x.1,0)
theorem Seg.byt {x:List Int×List Ap}(h:Seg x):Byt x.1/\x.1.length<=100000/\0<x.1.length/\x.2.length<=64:=by
 obtain⟨kind,hv,J⟩:=h;have h2:(wr kind x.2).2=0:=by rw[J]
 obtain⟨Z,h4⟩:=zY hv h2;obtain⟨k,_,_,he,_,W,_⟩:=vM hv h2;rw[J] at Z h4 W;refine⟨Z,h4,?_,(eP he).2.1⟩;have:x.1=kE (kF k x.2):=congrArg Prod.fst W;rw[this];unfold kE;simp[et]
end Go.Proofs.YthbonoagbeilkaaGreat.Hay
/- The checksum, bit by bit and by half bytes (plain numbers). -/
namespace Go.Proofs.YthbonoagbeilkaaGreat.Hay
open Option renaming bind_some→zh,bind_assoc→Zm,map_some→X9
open List renaming length_append→zw,getElem?_eq_getElem→Jn,drop_eq_getElem_cons→Q0,getElem_mem→Q1,eq_nil_of_length_eq_zero→Q2,take_of_length_le→Q3,take_append_drop→Q4,append_assoc→Q5,take_succ_eq_append_getElem→Q6,replicate→Q8,length_cons→Q9,drop_of_length_le→Qa,take_length→Qb,length_singleton→Qc,range→Qd,map_append→Qf,mem_append→Qh,cons_append→Qi,nil_append→Ql,drop_left→Qo,append_nil→Qp,getElem?_eq_some_iff→Qq,all_eq_true→Qr,pairwise_append→Qs,length_map→Qt,length_pos_iff→Qu,getElem_of_mem→Qv,mem_map→Qz,flatMap_cons→Z0,take_left'→Z1,drop_left'→Z2,mem_cons→Z4,drop_zero→Z7,mem_singleton→Z8,take_append_of_le_length→Za,length_replicate→Zb,drop_length→Zg,getElem?_append_right→Zj,flatten_append→Zk,map_congr_left→Zl,getElem?_append_left→Zn,pairwise_iff_getElem→Zo,mem_replicate→Zp,pairwise_cons→Zq,eq_of_mem_replicate→Zr,take_add_one→Zs,mem_range→Zt,length_eq_one_iff→Zu,getElem_map→Zv,length_take→Zw,length_drop→Zx,singleton_append→Zy,foldl_cons→Zz,take_left→X4,length→X6,map_cons→Xa
open Nat renaming le_refl→Qj,two_pow_add_eq_or_of_lt→Qw,pow_le_pow_right→Qy,strongRecOn→Z6,mul_le_mul→Z9,mul_le_mul_left→Zd,lt_of_lt_of_le→Zi
open Bool renaming and_eq_true→Qm,not_eq_true'→Qn,false_eq_true→Qx,eq_false_or_eq_true→Z3,and_eq_false_iff→Zc,or_eq_false_iff→Ze,not_true→X8
open Int renaming eq_ofNat_of_zero_le→Q7,emod_eq_of_lt→Qg,natCast_pow→Zf,fdiv_eq_ediv_of_nonneg→Zh,mul_comm→X7
open BitVec renaming ofInt→Qk,toNat_ofInt→Z5
open IntKind renaming i64→Qe,u64→X3,u8→X5,u32→Xb
open Option renaming bind_some→zh,bind_assoc→Zm,map_some→X9
open List renaming length_append→zw,getElem?_eq_getElem→Jn,drop_eq_getElem_cons→Q0,getElem_mem→Q1,eq_nil_of_length_eq_zero→Q2,take_of_length_le→Q3,take_append_drop→Q4,append_assoc→Q5,take_succ_eq_append_getElem→Q6,replicate→Q8,length_cons→Q9,drop_of_length_le→Qa,take_length→Qb,length_singleton→Qc,range→Qd,map_append→Qf,mem_append→Qh,cons_append→Qi,nil_append→Ql,drop_left→Qo,append_nil→Qp,getElem?_eq_some_iff→Qq,all_eq_true→Qr,pairwise_append→Qs,length_map→Qt,length_pos_iff→Qu,getElem_of_mem→Qv,mem_map→Qz,flatMap_cons→Z0,take_left'→Z1,drop_left'→Z2,mem_cons→Z4,drop_zero→Z7,mem_singleton→Z8,take_append_of_le_length→Za,length_replicate→Zb,drop_length→Zg,getElem?_append_right→Zj,flatten_append→Zk,map_congr_left→Zl,getElem?_append_left→Zn,pairwise_iff_getElem→Zo,mem_replicate→Zp,pairwise_cons→Zq,eq_of_mem_replicate→Zr,take_add_one→Zs,mem_range→Zt,length_eq_one_iff→Zu,getElem_map→Zv,length_take→Zw,length_drop→Zx,singleton_append→Zy,foldl_cons→Zz,take_left→X4,length→X6,map_cons→Xa
open Nat renaming le_refl→Qj,two_pow_add_eq_or_of_lt→Qw,pow_le_pow_right→Qy,strongRecOn→Z6,mul_le_mul→Z9,mul_le_mul_left→Zd,lt_of_lt_of_le→Zi
open Bool renaming and_eq_true→Qm,not_eq_true'→Qn,false_eq_true→Qx,eq_false_or_eq_true→Z3,and_eq_false_iff→Zc,or_eq_false_iff→Ze,not_true→X8
open Int renaming eq_ofNat_of_zero_le→Q7,emod_eq_of_lt→Qg,natCast_pow→Zf,fdiv_eq_ediv_of_nonneg→Zh,mul_comm→X7
open BitVec renaming ofInt→Qk,toNat_ofInt→Z5
open IntKind renaming i64→Qe,u64→X3,u8→X5,u32→Xb
open Option renaming bind_some→zh,bind_assoc→Zm,map_some→X9
open List renaming length_append→zw,getElem?_eq_getElem→Jn,drop_eq_getElem_cons→Q0,getElem_mem→Q1,eq_nil_of_length_eq_zero→Q2,take_of_length_le→Q3,take_append_drop→Q4,append_assoc→Q5,take_succ_eq_append_getElem→Q6,replicate→Q8,length_cons→Q9,drop_of_length_le→Qa,take_length→Qb,length_singleton→Qc,range→Qd,map_append→Qf,mem_append→Qh,cons_append→Qi,nil_append→Ql,drop_left→Qo,append_nil→Qp,getElem?_eq_some_iff→Qq,all_eq_true→Qr,pairwise_append→Qs,length_map→Qt,length_pos_iff→Qu,getElem_of_mem→Qv,mem_map→Qz,flatMap_cons→Z0,take_left'→Z1,drop_left'→Z2,mem_cons→Z4,drop_zero→Z7,mem_singleton→Z8,take_append_of_le_length→Za,length_replicate→Zb,drop_length→Zg,getElem?_append_right→Zj,flatten_append→Zk,map_congr_left→Zl,getElem?_append_left→Zn,pairwise_iff_getElem→Zo,mem_replicate→Zp,pairwise_cons→Zq,eq_of_mem_replicate→Zr,take_add_one→Zs,mem_range→Zt,length_eq_one_iff→Zu,getElem_map→Zv,length_take→Zw,length_drop→Zx,singleton_append→Zy,foldl_cons→Zz,take_left→X4,length→X6,map_cons→Xa
open Nat renaming le_refl→Qj,two_pow_add_eq_or_of_lt→Qw,pow_le_pow_right→Qy,strongRecOn→Z6,mul_le_mul→Z9,mul_le_mul_left→Zd,lt_of_lt_of_le→Zi
open Bool renaming and_eq_true→Qm,not_eq_true'→Qn,false_eq_true→Qx,eq_false_or_eq_true→Z3,and_eq_false_iff→Zc,or_eq_false_iff→Ze,not_true→X8
open Int renaming eq_ofNat_of_zero_le→Q7,emod_eq_of_lt→Qg,natCast_pow→Zf,fdiv_eq_ediv_of_nonneg→Zh,mul_comm→X7
open BitVec renaming ofInt→Qk,toNat_ofInt→Z5
open IntKind renaming i64→Qe,u64→X3,u8→X5,u32→Xb
theorem Gh {n:Int}(h:U32 n):dE (be4 n)=n:=by
 unfold U32 at h;unfold be4 dE;simp only[Zz,List.foldl_nil];omega
set_option linter.unusedVariables false
set_option linter.unusedSimpArgs false
section
variable {O:Type}
theorem Ji {xs:List O}{i:Nat}(h:i<xs.length):ix xs (i:Int)=some i:=by
  unfold ix;rw[if_pos (by omega)];simp
theorem se {xs A B:List O}{x:O}{i:Int}(e:xs=A++x::B)(hi:i=(A.length:Int)):ix xs i=some A.length:=by
  subst e hi;unfold ix;rw[if_pos (by simp;omega)];simp
theorem mV {xs A B:List O}{x:O}(e:xs=A++x::B):xs[A.length]? =some x:=by subst e;simp
theorem vN {xs A B:List O}{x:O}(y:O)(e:xs=A++x::B):xs.set A.length y=A++y::B:=by subst e;simp
theorem GW {β:Type}{xs A B:List O}{x:O}{i:Int}{k:Nat->O->Option β}(e:xs=A++x::B)(hi:i=(A.length:Int)):((ix xs i).bind λj=>(xs[j]?).bind λx=>k j x)=k A.length x:=by
  rw[se e hi,zh,mV e,zh]
def swp (xs:List O)(i j:Int):Option (List O):=
  (ix xs i).bind λa=>(xs[a]?).bind λx=>(ix xs j).bind λb=>(xs[b]?).bind λy=>(ix xs j).bind λc=>(xs[c]?).bind λ_=>
  (ix (xs.set c x) i).bind λd=>((xs.set c x)[d]?).bind λ_=>some ((xs.set c x).set d y)
theorem Ee {A B C xs:List O}{x y:O}{i j:Int}(e:xs=A++x::(B++y::C))(hi:i=(A.length:Int))(h:j=(A.length:Int)+1+B.length):swp xs i j=some (A++y::(B++x::C)):=by
  have e2:xs=(A++x::B)++y::C:=by rw[e];simp
  have h:j=((A++x::B).length:Int):=by rw[h];simp;omega
  unfold swp;rw[se e hi,zh,mV e,zh,se e2 h,zh,mV e2,zh,zh,mV e2,zh];have W:=vN x e2;rw[W];have J:(A++x::B)++x::C=A++x::(B++x::C):=by simp
  rw[se J hi,zh,mV J,zh,vN y J]
theorem Ef {A B C xs:List O}{x y:O}{i j:Int}(e:xs=A++x::(B++y::C))(hi:i=(A.length:Int))(h:j=(A.length:Int)+1+B.length):swp xs j i=some (A++y::(B++x::C)):=by
  have e2:xs=(A++x::B)++y::C:=by rw[e];simp
  have h:j=((A++x::B).length:Int):=by rw[h];simp;omega
  unfold swp;rw[se e2 h,zh,mV e2,zh,se e hi,zh,mV e,zh,zh,mV e,zh];have W:=vN y e;rw[W];have J:A++y::(B++y::C)=(A++y::B)++y::C:=by simp
  have Z:j=((A++y::B).length:Int):=by rw[h];simp
  have e5:(A++x::B).length=(A++y::B).length:=by simp
  rw[se J Z,zh,mV J,zh,vN x J];simp
theorem wV {n:Nat}{S:List O}(h:S.length=n+1):∃S' s,S=S'++[s]/\S'.length=n:=by
  have J:S≠[]:=by intro e;rw[e] at h;cases h
  refine⟨S.dropLast,S.getLast J,(List.dropLast_concat_getLast J).symm,by simp[h]⟩
theorem Stb.perm {lt:O->O->Bool}(h:Swo lt){l J:List O}(W:Stb lt l J):J.Perm l:=by
  classical
  rw[List.perm_iff_count];intro a;rw[←List.count_filter (p:=eqv lt a) (jG h a),W.flt a,List.count_filter (jG h a)]
theorem Stb.len {lt:O->O->Bool}(h:Swo lt){l J:List O}(W:Stb lt l J):J.length=l.length:=(W.perm h).length_eq
theorem Stb.app {lt:O->O->Bool}{l h m m':List O}(W:Stb lt l h)(J:Stb lt (h++m) m'):Stb lt (l++m) m':=
  J.trans λa=>by simp[W.flt]
end
def Cmp {O:Type}(lt:O->O->Bool)(p:O->O->Option Int):Prop:= ∀x y,∃c,p x y=some c/\decide (c<0)=lt x y
section
variable {lt:aa->aa->Bool}{p:aa->aa->Option Int}
theorem Jj (h:Swo lt) (hp:Cmp lt p) (L R:List aa) (v:aa) (a x6:Int) (ha:a=(L.length:Int)) (Z: -9223372036854775808<=x6+1/\x6+1<=9223372036854775807):
    ∀(n:Nat) (S1 S2:List aa) (j:Int) (xs:List aa),S1.length=n->j=(L.length:Int)+S1.length->xs=L++S1++v::(S2++R)->Srt lt (S1++S2)->(∀s∈S2,lt v s=true)->j<4611686018427387904->
    ∃T,aq (λs:(Int×List aa)=>bd a p x6 s.1 s.2) (j,xs)=some (.inl (x6+1,L++T++R))/\Stb lt (S1++S2++[v]) T:=by
  intro n
  induction n with
  | zero=>
    intro S1 S2 j xs hn hj a0 W hv hb;obtain rfl:=Q2 hn;refine⟨v::S2,?_,?_⟩
    · apply aS
      simp only[bd];rw[if_neg (by simp;simp at hj;omega)];simp only[a8,dz,ak Z];simp[a0]
    ·simpa using Stb.ins h (S1:=[]) W hv (by simp)
  | succ n ih=>
    intro S1 S2 j xs hn hj a0 W hv hb;obtain⟨J,s,rfl,a4⟩:=wV hn;rw[zw,Qc] at hj;have e1:xs=(L++J)++s::([]++v::(S2++R)):=by rw[a0];simp
    have e2:xs=(L++(J++[s]))++v::(S2++R):=a0;have a1:j - 1=((L++J).length:Int):=by rw[zw];omega
    have a3:j=((L++(J++[s])).length:Int):=by simp;omega
    have hw:Qe.wrap (j - 1)=j - 1:=ak (by omega);obtain⟨c,hc,hd⟩:=hp v s
    have a2:bd a p x6 j xs=a8 x6 j xs (lt v s):=by
      simp only[bd];rw[if_pos (by simp;omega),GW e2 a3,hw,GW e1 a1,hc,zh,hd]
    cases hl:lt v s with
    | true=>
      have a5:bd a p x6 j xs=some (.inl (j - 1,(L++J)++v::([]++s::(S2++R)))):=by
        have h1:(swp xs (j - 1) j)=_:=Ee e1 a1 (by rw[←a1];simp)
        have h2:a8 x6 j xs true=(swp xs (j - 1) j).bind λr=>some (.inl (j - 1,r)):=by
          simp only[a8,swp,Zm,zh,hw,if_true]
        rw[a2,hl,h2,h1,zh]
      obtain⟨T,h1,h2⟩:=ih J (s::S2) (j - 1) _ a4 (by omega) rfl (by simpa using W) (by
        intro x Z;rcases Z4.1 Z with rfl|Z
        ·exact hl
        ·exact hv x Z) (by omega)
      refine⟨T,?_,by simpa using h2⟩;rw[bK a5];simpa using h1
    | false=>
      refine⟨J++[s]++v::S2,?_,?_⟩
      · apply aS
        show bd a p x6 j xs=_;rw[a2,hl];simp only[a8,dz,ak Z];simp[a0]
      · refine Stb.ins h W hv (y7 h ?_ hl)
        unfold Srt at W ⊢;rw[Qs] at W;exact W.1
theorem H0 (h:Swo lt)(hp:Cmp lt p)(L R:List aa)(a b:Int)(ha:a=(L.length:Int))(hb:b<4611686018427387904):
    ∀(Y J S:List aa) (j:Int) (xs:List aa),Stb lt J S->j=(L.length:Int)+S.length->b=(L.length:Int)+S.length+Y.length->xs=L++S++(Y++R)->
    ∃T,aq (λs:(Int×List aa)=>bv a b p s.1 s.2) (j,xs)=some (L++T++R)/\Stb lt (J++Y) T:=by
  intro Y
  induction Y with
  | nil=>
    intro J S j xs W hj a0 Z;refine⟨S,?_,by simpa using W⟩;apply aS;simp only[bv];rw[if_neg (by simp;simp at a0;omega)];simp[Z]
  | cons v Y ih=>
    intro J S j xs W hj a0 Z;rw[Q9] at a0;obtain⟨T,h1,h2⟩:=Jj h hp L (Y++R) v a j ha (by omega) S.length S [] j xs rfl hj (by rw[Z];simp) (by simpa using W.srt) (by simp) (by omega)
    have a1:bv a b p j xs=some (.inl (j+1,L++T++(Y++R))):=by
      simp only[bv];rw[if_pos (by simp;omega)];exact h1
    rw[Qp] at h2;have a2:=h2.len h;rw[zw,Qc] at a2;obtain⟨T',h3,h4⟩:=ih (J++[v]) T (j+1) _ (W.app h2) (by omega) (by omega) rfl;refine⟨T',?_,by simpa using h4⟩;rw[bK a1,h3]
theorem Eg (h:Swo lt)(hp:Cmp lt p)(L X R:List aa){a b:Int}{xs:List aa}(ha:a=(L.length:Int))(W:b=(L.length:Int)+X.length)(Z:b<4611686018427387904)(J:xs=L++X++R):
    ∃T,bH xs a b p=some (L++T++R)/\Stb lt X T:=by
  unfold bH;rw[ak (by omega)];cases X with
  | nil=>
    refine⟨[],?_,⟨List.Pairwise.nil,λ_=>rfl⟩⟩;apply aS;simp only[bv];rw[if_neg (by simp;simp at W;omega)];simp[J]
  | cons v X=>
    rw[Q9] at W;obtain⟨T,h1,h2⟩:=H0 h hp L R a b ha Z X [v] [v] (a+1) xs ⟨by simp[Srt],λ_=>rfl⟩ (by simp;omega) (by simp;omega) (by rw[J];simp);exact⟨T,h1,by simpa using h2⟩
end
set_option linter.unusedVariables false
set_option linter.unusedSimpArgs false
section
variable {lt:aa->aa->Bool}{p:aa->aa->Option Int}
theorem Gi (p1 p2 p3:Int):∀(J W A h B Z C:List aa) (i:Int) (xs:List aa),W.length=J.length->h.length=Z.length->i=(h.length:Int)->p1=(A.length:Int)->
  p2=(A.length:Int)+h.length+J.length+B.length->p3=i+J.length->xs=A++h++J++B++Z++W++C->p2+p3<4611686018427387904->
  aq (λs:(Int×List aa)=>bM p1 p2 p3 s.1 s.2) (i,xs)=some (A++(h++W)++B++(Z++J)++C):=by
 intro J
 induction J with
 |nil=>
  intro W A h B Z C i xs h1 h2 h3 h4 h5 h6 a0 hb;obtain rfl:=Q2 (h1.trans rfl);apply aS;simp only[bM];rw[if_neg (by simp;simp at h6;omega)];simp[a0]
 | cons u J ih=>
  intro W A h B Z C i xs h1 h2 h3 h4 h5 h6 a0 hb;cases W with
  |nil=>cases h1
  | cons v W=>
   rw[Q9,Q9] at h1;rw[Q9] at h5 h6;have e1:xs=(A++h)++u::((J++B++Z)++v::(W++C)):=by rw[a0];simp
   have hi:p1+i=((A++h).length:Int):=by rw[zw];omega
   have hj:p2+i=((A++h).length:Int)+1+(J++B++Z).length:=by simp only[zw];omega
   have a1:bM p1 p2 p3 i xs=some (.inl (i+1,(A++h)++v::((J++B++Z)++u::(W++C)))):=by
    have h1:=Ef e1 hi hj
    have h2:bM p1 p2 p3 i xs=(swp xs (p2+i) (p1+i)).bind λr=>some (.inl (i+1,r)):=by
     simp only[bM,swp,Zm,zh];rw[if_pos (by simp;omega),ak (by omega),ak (by omega),ak (by omega)]
    rw[h2,h1,zh]
   rw[bK a1,ih W A (h++[v]) B (Z++[u]) C (i+1) _ (by omega) (by simp;omega) (by simp;omega) h4 (by simp;omega) (by omega) (by simp) hb];simp
theorem zZ {A U B V C xs:List aa}{p1 J h:Int}(h1:V.length=U.length)(h2:p1=(A.length:Int))(h3:J=(A.length:Int)+U.length+B.length)(h4:h=(U.length:Int))(W:xs=A++U++B++V++C)(Z:J+h<4611686018427387904):
  bC xs p1 J h p=some (A++V++B++U++C):=by
 unfold bC;have:=Gi p1 J h U V A [] B [] C 0 xs h1 rfl rfl h2 (by simp;omega) (by omega) (by simpa using W) Z;simpa using this
theorem Gj (m:Int):∀(n:Nat) (X Y A C:List aa) (i j:Int) (xs:List aa),X.length+Y.length=n->0<X.length->0<Y.length->i=(X.length:Int)->j=(Y.length:Int)->m=(A.length:Int)+X.length->
  xs=A++X++Y++C->m+j<2305843009213693952->i<2305843009213693952->
  aq (λs:(Int×Int×List aa)=>bD m p s.1 s.2.1 s.2.2) (i,j,xs)=some (A++Y++X++C):=by
 intro n
 induction n using Z6 with
 | _ n ih=>
  intro X Y A C i j xs hn W Z hi hj hm h hb a1
  by_cases hij:i=j
  ·apply aS
   simp only[bD];rw[if_neg (by simp[hij])];simp only[iw];rw[ak (by omega),zZ (A:=A) (U:=X) (B:=[]) (V:=Y) (C:=C) (by omega) (by omega) (by simp;omega) hi (by simp[h]) (by omega)];simp
  ·by_cases hlt:j<i
   ·have a0:X=X.take Y.length++X.drop Y.length:=(Q4 _ _).symm
    have J:bD m p i j xs=some (.inl (i - j,j,(A++Y)++X.drop Y.length++X.take Y.length++C)):=by
     simp only[bD]
     rw[if_pos (by simp[hij]),if_pos (by simp[hlt]),ak (by omega),zZ (A:=A) (U:=X.take Y.length) (B:=X.drop Y.length) (V:=Y) (C:=C) (by simp;omega) (by omega) (by simp;omega) (by simp;omega)
      (by rw[h];simp) (by omega),zh,ak (by omega)]
    rw[bK J,ih (n - Y.length) (by omega) (X.drop Y.length) (X.take Y.length) (A++Y) C (i - j) j _ (by simp;omega) (by simp;omega) (by simp;omega) (by simp;omega) (by simp;omega) (by simp;omega) rfl (by omega) (by omega)];simp
   ·have a2:Y=Y.take (Y.length - X.length)++Y.drop (Y.length - X.length):=(Q4 _ _).symm
    have J:bD m p i j xs=some (.inl (i,j - i,A++Y.drop (Y.length - X.length)++Y.take (Y.length - X.length)++(X++C))):=by
     simp only[bD]
     rw[if_pos (by simp[hij]),if_neg (by simp;omega),ak (n:=m - i) (by omega),ak (n:=m+j) (by omega),ak (n:=m+j - i) (by omega),
      zZ (A:=A) (U:=X) (B:=Y.take (Y.length - X.length)) (V:=Y.drop (Y.length - X.length)) (C:=C) (by simp;omega) (by omega) (by simp;omega) (by omega)
      (by rw[h];simp) (by omega),zh,ak (by omega)]
     simp
    rw[bK J,ih (n - X.length) (by omega) (Y.drop (Y.length - X.length)) (Y.take (Y.length - X.length)) A (X++C) i (j - i) _ (by simp;omega) (by simp;omega) (by simp;omega) (by simp;omega) (by simp;omega) (by simp;omega) rfl (by omega) (by omega)];simp
theorem Jk {A X Y C xs:List aa}{a m b:Int}(h:0<X.length)(W:0<Y.length)(ha:a=(A.length:Int))(Z:m=a+X.length)(hb:b=m+Y.length)(J:xs=A++X++Y++C)(hn:b<2305843009213693952):
  bY xs a m b p=some (A++Y++X++C):=by
 unfold bY;rw[ak (by omega),ak (by omega)];exact Gj m _ X Y A C _ _ xs rfl h W (by omega) (by omega) (by omega) J (by omega) (by omega)
theorem Gk (e:Int)(he:e<4611686018427387904)(x:aa)(Q:List aa):∀(h J:List aa) (k:Int) (xs:List aa),k=(J.length:Int)->e - 1=k+h.length->xs=J++x::(h++Q)->
  aq (λs:(Int×List aa)=>bQ e s.1 s.2) (k,xs)=some (J++h++x::Q):=by
 intro h
 induction h with
 |nil=>
  intro J k xs hk Z W;apply aS;simp only[bQ];rw[ak (by omega),if_neg (by simp;simp at Z;omega)];simp[gZ,W]
 | cons b h ih=>
  intro J k xs hk Z W;rw[Q9] at Z;have e1:xs=J++x::([]++b::(h++Q)):=by rw[W];simp
  have a0:bQ e k xs=some (.inl (k+1,J++b::([]++x::(h++Q)))):=by
   have h2:=Ef e1 hk (j:=k+1) (by simp;omega)
   have h3:bQ e k xs=(swp xs (k+1) k).bind λr=>some (.inl (k+1,r)):=by
    simp only[bQ,swp,Zm,zh];rw[ak (n:=e - 1) (by omega),if_pos (by simp;omega),ak (by omega)]
   rw[h3,h2,zh]
  rw[bK a0,ih (J++[b]) (k+1) _ (by simp;omega) (by omega) (by simp)];simp
theorem Gl (e:Int)(y:aa)(J:List aa)(he:e=(J.length:Int)):∀(n:Nat) (h Q:List aa) (k:Int) (xs:List aa),h.length=n->k=e+h.length->xs=J++h++y::Q->k<4611686018427387904->
  aq (λs:(Int×List aa)=>bS e s.1 s.2) (k,xs)=some (J++y::(h++Q)):=by
 intro n
 induction n with
 |zero=>
  intro h Q k xs Z hk W hb;obtain rfl:=Q2 Z;apply aS;simp only[bS];rw[if_neg (by simp;simp at hk;omega)];simp[g7,W]
 | succ n ih=>
  intro h Q k xs Z hk W hb;obtain⟨a0,s,rfl,a2⟩:=wV Z;rw[zw,Qc] at hk;have e1:xs=(J++a0)++s::([]++y::Q):=by rw[W];simp
  have a1:bS e k xs=some (.inl (k - 1,(J++a0)++y::([]++s::Q))):=by
   have h2:=Ee e1 (i:=k - 1) (j:=k) (by simp;omega) (by simp;omega)
   have h3:bS e k xs=(swp xs (k - 1) k).bind λr=>some (.inl (k - 1,r)):=by
    simp only[bS,swp,Zm,zh];rw[if_pos (by simp;omega),ak (by omega)]
   rw[h3,h2,zh]
  rw[bK a1,ih a0 (s::Q) (k - 1) _ a2 (by omega) (by simp) (by omega)];simp
end
theorem wW {β:Type}{F:Int×Int->Option ((Int×Int)⊕β)}(g:Nat->Bool)(J W:Nat)(K:Nat->Option β)
  (a2:∀lo hi:Nat,J<=lo->lo<hi->hi<=W->F (lo,hi)=some (.inl (if g ((lo+hi)/2) then (((lo+hi)/2+1:Nat),hi) else (lo,((lo+hi)/2:Nat)))))
  (a1:∀s:Nat,J<=s->s<=W->F (s,s)=(K s).map Sum.inr) (h:J<=W):
  ∃s:Nat,J<=s/\s<=W/\(s=J\/g (s - 1)=true)/\(s=W\/g s=false)/\aq F ((J:Int),(W:Int))=K s:=by
 have key:∀(n lo hi:Nat),hi - lo=n->J<=lo->lo<=hi->hi<=W->(lo=J\/g (lo - 1)=true)->(hi=W\/g hi=false)->
   ∃s:Nat,J<=s/\s<=W/\(s=J\/g (s - 1)=true)/\(s=W\/g s=false)/\aq F ((lo:Int),(hi:Int))=K s:=by
  intro n
  induction n using Z6 with
  | _ n ih=>
   intro lo hi hn h1 h2 Z h4 h5
   by_cases hlt:lo<hi
   ·have a0:=a2 lo hi h1 hlt Z
    cases hg:g ((lo+hi)/2) with
    |true=>
     rw[hg,if_pos rfl] at a0;rw[bK a0];exact ih (hi - ((lo+hi)/2+1)) (by omega) _ _ rfl (by omega) (by omega) Z (Or.inr (by simpa using hg)) h5
    |false=>
     rw[hg,if_neg (by simp)] at a0;rw[bK a0];exact ih ((lo+hi)/2 - lo) (by omega) _ _ rfl h1 (by omega) (by omega) h4 (Or.inr hg)
   ·obtain rfl:lo=hi:=by omega
    refine⟨lo,h1,Z,h4,h5,?_⟩;rw[mZ,a1 lo h1 Z];cases K lo<;>rfl
 exact key _ J W rfl (Qj _) h (Qj _) (Or.inl rfl) (Or.inl rfl)
theorem tI {x:Int}(h:0<=x/\x<9223372036854775808):Qe.wrap (aP .u64 (X3.wrap (Qe.wrap x)) 1)=x/2:=by
 rw[ak (n:=x) (by omega),cx,Qg (by omega) (by omega)];have:aP .u64 x ((1:Nat):Int)=x/2^1:=oS (by decide);rw[show(1:Int)=((1:Nat):Int) from rfl,this,ak (by omega)]
 rfl
section
variable {O:Type}
theorem rl {β:Type}{xs:List O}{x:O}{i:Int}{h:Nat}{k:Nat->O->Option β}(e:xs[h]? =some x)(hi:i=(h:Int)):((ix xs i).bind λj=>(xs[j]?).bind λx=>k j x)=k h x:=by
 obtain⟨J,W⟩:=Qq.1 e;rw[hi,Ji J,zh,e,zh]
theorem xsA {L A B R:List O}{k:Nat}(h:k<A.length):(L++A++B++R)[L.length+k]? =A[k]? :=by
 rw[Q5,Q5,Zj (by omega),show L.length+k - L.length=k by omega,Zn h]
theorem xsB {L A B R:List O}{k:Nat}(h:k<B.length):(L++A++B++R)[L.length+A.length+k]? =B[k]? :=by
 rw[Q5,Zj (by simp),show L.length+A.length+k - (L++A).length=k by simp,Zn h]
theorem xO {A:List O}{k:Nat}(h:k<A.length){x:O}(e:A[k]? =some x):∃A',A.take (k+1)=A'++[x]:=by
 obtain⟨J,W⟩:=Qq.1 e;exact⟨A.take k,by rw[Zs,e];rfl⟩
theorem vO {A:List O}{k:Nat}{x:O}(e:A[k]? =some x):∃A',A.drop k=x::A':=by
 obtain⟨h,J⟩:=Qq.1 e;exact⟨A.drop (k+1),by rw[Q0 h,J]⟩
theorem Jl {lt:O->O->Bool}(h:Swo lt){A1 A2 B1 B2:List O}(hA:Srt lt (A1++A2))(hB:Srt lt (B1++B2))
  (h1:B1=[]\/A2=[]\/ ∃B' b a Z,B1=B'++[b]/\A2=a::Z/\lt b a=true)
  (h2:A1=[]\/B2=[]\/ ∃Z a b B',A1=Z++[a]/\B2=b::B'/\lt b a=false):
  (∀b∈B1,∀a∈A2,lt b a=true)/\(∀a∈A1,∀b∈B2,lt b a=false):=by
 unfold Srt at hA hB;rw[Qs] at hA hB;constructor
 ·rcases h1 with rfl|rfl|⟨B',bl,af,Z,rfl,rfl,hl⟩
  ·simp
  ·simp
  ·intro b J a W
   cases hba:lt b a with
   |true=>rfl
   | false=>
    exfalso
    have a1:lt bl b=false:=by
     rcases Qh.1 J with J|J
     ·exact(Qs.1 hB.1).2.2 b J bl (by simp)
     ·simp at J;subst J;exact h.irr _
    have a0:lt a af=false:=by
     rcases Z4.1 W with rfl|W
     ·exact h.irr _
     ·exact(Zq.1 hA.2.1).1 a W
    have:=h.inc bl a af (h.inc bl b a a1 hba) a0;rw[hl] at this;cases this
 ·rcases h2 with rfl|rfl|⟨Z,al,bf,B',rfl,rfl,hl⟩
  ·simp
  ·simp
  ·intro a W b J
   have a1:lt b bf=false:=by
    rcases Z4.1 J with rfl|J
    ·exact h.irr _
    ·exact(Zq.1 hB.2.1).1 b J
   have a0:lt al a=false:=by
    rcases Qh.1 W with W|W
    ·exact(Qs.1 hA.1).2.2 a W al (by simp)
    ·simp at W;subst W;exact h.irr _
   exact h.inc b bf a a1 (h.inc bf al a hl a0)
theorem Srt.take {lt:O->O->Bool}{A:List O}(h:Srt lt A)(k:Nat):Srt lt (A.take k):=List.Pairwise.sublist (List.take_sublist k A) h
theorem Srt.drop {lt:O->O->Bool}{A:List O}(h:Srt lt A)(k:Nat):Srt lt (A.drop k):=List.Pairwise.sublist (List.drop_sublist k A) h
end
set_option linter.unusedVariables false
set_option linter.unusedSimpArgs false
section
variable {lt:aa->aa->Bool}{p:aa->aa->Option Int}
def CM (lt:aa->aa->Bool)(p:aa->aa->Option Int)(h:List aa->Int->Int->Int->(aa->aa->Option Int)->Option (List aa))(N:Nat):Prop:=
  ∀ (L A B R:List aa) (a m b:Int) (xs:List aa),0<A.length->0<B.length->a=(L.length:Int)->m=(L.length:Int)+A.length->b=(L.length:Int)+A.length+B.length->xs=L++A++B++R->
    A.length+B.length<=N->xs.length<1152921504606846976->Srt lt A->Srt lt B->∃T,h xs a m b p=some (L++T++R)/\Stb lt (A++B) T
def gx (lt:aa->aa->Bool)(xs:List aa)(i j:Nat):Bool:=match xs[i]?,xs[j]? with
  |some x,some y=>lt x y
  |_,_=>false
theorem vS {xs:List aa}{i j:Nat}{x y:aa}(J:xs[i]? =some x)(h:xs[j]? =some y):gx lt xs i j=lt x y:=by simp[gx,J,h]
theorem tJ (h:Swo lt){L A B R xs:List aa}(a1:xs=L++A++B++R)(hA:Srt lt A)(hB:Srt lt B)(k1 k2:Nat)(h1:k1<=A.length)(h2:k2<=B.length)
    (c1:k2=0\/k1=A.length\/(0<k2/\k1<A.length/\gx lt xs (L.length+A.length+(k2 - 1)) (L.length+k1)=true))
    (c2:k1=0\/k2=B.length\/(0<k1/\k2<B.length/\gx lt xs (L.length+A.length+k2) (L.length+(k1 - 1))=false)):
    (∀b∈B.take k2,∀a∈A.drop k1,lt b a=true)/\(∀a∈A.take k1,∀b∈B.drop k2,lt b a=false):=by
  have J:Srt lt (A.take k1++A.drop k1):=by rw[Q4];exact hA
  have W:Srt lt (B.take k2++B.drop k2):=by rw[Q4];exact hB
  refine Jl h J W ?_ ?_
  · rcases c1 with rfl|rfl|⟨hk,a2,hg⟩
    ·simp
    ·simp
    · right;right
      have Z:B[k2 - 1]? =some B[k2 - 1]:=Jn (by omega);have ea:A[k1]? =some A[k1]:=Jn a2;obtain⟨B',W⟩:=xO (by omega) Z;obtain⟨A',J⟩:=vO ea;rw[show k2 - 1+1=k2 by omega] at W;refine⟨B',_,_,A',W,J,?_⟩;rw[←hg,a1,vS ((xsB (by omega)).trans Z) ?_];exact(xsA a2).trans ea
  · rcases c2 with rfl|rfl|⟨hk,a0,hg⟩
    ·simp
    ·simp
    · right;right
      have ea:A[k1 - 1]? =some A[k1 - 1]:=Jn (by omega);have Z:B[k2]? =some B[k2]:=Jn a0;obtain⟨A',J⟩:=xO (by omega) ea;obtain⟨B',W⟩:=vO Z;rw[show k1 - 1+1=k1 by omega] at J;refine⟨A',_,_,B',J,W,?_⟩;rw[←hg,a1,vS ((xsB a0).trans Z) ?_];exact(xsA (by omega)).trans ea
theorem H1 (h :Swo lt) (hp:Cmp lt p) {L B R xs:List aa} {x:aa} {a m b:Int} (b0:0<B.length) (ha:a=(L.length:Int)) (hm:m=(L.length:Int)+1) (hb:b=(L.length:Int)+1+B.length)
    (W:xs=L++[x]++B++R) (hn:xs.length<1152921504606846976) (Z:Srt lt B):
    ∃T,aq (λs:(Int×Int)=>ct xs a p s.1 s.2) (m,b)=some (L++T++R)/\Stb lt ([x]++B) T:=by
  have a9:xs.length=L.length+1+B.length+R.length:=by rw[W];simp;omega
  have ex:xs[L.length]? =some x:=by rw[W];simp
  have a5:m=((L.length+1:Nat):Int):=by omega
  have a1:b=((L.length+1+B.length:Nat):Int):=by omega
  obtain⟨s,h1,h2,J,h4,h5⟩:=wW (F:=λs:(Int×Int)=>ct xs a p s.1 s.2) (λc=>gx lt xs c L.length) (L.length+1) (L.length+1+B.length)
    (λs=>eF xs a (s:Int)) (λlo hi h1 h2 J=>by
      have hc:(lo+hi)/2<xs.length:=by omega
      have ec:xs[(lo+hi)/2]? =some xs[(lo+hi)/2]:=Jn hc;obtain⟨c,a4,a3⟩:=hp xs[(lo+hi)/2] x;simp only[ct];rw[if_pos (by simp;omega),tI (by omega),rl ec (by omega),rl ex ha,a4,zh,a3,vS ec ex,ak (by omega)]
      split<;>rfl)
    (λs h1 h2=>by
      simp only[ct]
      rw[if_neg (by simp)]) (by omega)
  obtain⟨k,rfl⟩:∃k,s=L.length+1+k:=⟨s - (L.length+1),by omega⟩
  have a2   :=tJ h (A:=[x]) W (by simp[Srt]) Z 0 k (by simp) (by omega)
    (by rcases J with J|J
        ·left;omega
        · by_cases hk:k=0
          ·left;exact hk
          · right;right;refine⟨by omega,by simp,?_⟩
            rw[←J];congr 1;simp;omega)
    (Or.inl rfl)
  have a0:    ∀b∈B.drop k,lt b x=false:=by
    have := tJ h (A:=[x]) W (by simp[Srt]) Z 1 k (by simp) (by omega) (Or.inr (Or.inl rfl))
      (by rcases h4 with h4|h4
          ·right;left;omega
          · by_cases hk:k=B.length
            ·right;left;exact hk
            · right;right;refine⟨by omega,by omega,?_⟩
              rw[←h4];congr 1)
    intro b hb;exact this.2 x (by simp) b hb
  refine⟨B.take k++x::B.drop k,?_,?_⟩
  · rw[a5,a1,h5]
    unfold eF;rw[Gk _ (by omega) x (B.drop k++R) (B.take k) L a xs ha (by simp;omega) (by rw[W,←Q5 (B.take k),Q4];simp)];simp
  · have a6:Srt lt (B.take k++B.drop k):=by rw[Q4];exact Z
    have:=Stb.cat h (A1:=[]) (A2:=[x]) (B1:=B.take k) (B2:=B.drop k) (R1:=B.take k) (R2:=x::B.drop k) (Stb.refl (Z.take k))
      (Stb.refl (by
        unfold Srt;rw[Zy,Zq]
        exact⟨a0,Z.drop k⟩)) (by simp[Srt]) a6 (λb hb a ha=>a2.1 b hb a ha) (by simp)
    simpa using this
theorem Gm (h :Swo lt) (hp:Cmp lt p) {L A R xs:List aa} {y:aa} {a m:Int} (a9:0<A.length) (J:a=(L.length:Int)) (hm:m=(L.length:Int)+A.length)
    (a0:xs=L++A++[y]++R) (hn:xs.length<1152921504606846976) (hA:Srt lt A):
    ∃T,aq (λs:(Int×Int)=>cu xs m p s.1 s.2) (a,m)=some (L++T++R)/\Stb lt (A++[y]) T:=by
  have b0:xs.length=L.length+A.length+1+R.length:=by rw[a0];simp;omega
  have ey:xs[L.length+A.length]? =some y:=by
    rw[a0];simp
  have a1:m=((L.length+A.length:Nat):Int):=by omega
  obtain⟨s,h1,h2,W,h4,h5⟩:=wW (F:=λs:(Int×Int)=>cu xs m p s.1 s.2) (λc=> !gx lt xs (L.length+A.length) c) L.length (L.length+A.length)
    (λs=>eG xs m (s:Int)) (λlo hi h1 h2 W=>by
      have hc:(lo+hi)/2<xs.length:=by omega
      have ec:xs[(lo+hi)/2]? =some xs[(lo+hi)/2]:=Jn hc;obtain⟨c,a5,a4⟩:=hp y xs[(lo+hi)/2];simp only[cu];rw[if_pos (by simp;omega),tI (by omega),rl ey a1,rl ec (by omega),a5,zh,a4,vS ey ec,ak (by omega)]
      split<;>rfl)
    (λs h1 h2=>by
      simp only[cu]
      rw[if_neg (by simp)]) (by omega)
  obtain⟨k,rfl⟩:∃k,s=L.length+k:=⟨s - L.length,by omega⟩
  have hk:k<=A.length:=by omega
  have a3:    ∀a∈A.drop k,lt y a=true:=by
    have := tJ h a0 hA (by simp[Srt]:Srt lt [y]) k 1 hk (by simp)
      (by rcases h4 with h4|h4
          ·right;left;omega
          · by_cases hk':k=A.length
            ·right;left;exact hk'
            · right;right;refine⟨by omega,by omega,?_⟩
              simpa using h4)
      (Or.inr (Or.inl rfl))
    intro a J;exact this.1 y (by simp) a J
  have a2:    ∀a∈A.take k,lt y a=false:=by
    have := tJ h a0 hA (by simp[Srt]:Srt lt [y]) k 0 hk (by simp) (Or.inl rfl)
      (by rcases W with W|W
          ·left;omega
          · by_cases hk':k=0
            ·left;exact hk'
            · right;right;refine⟨by omega,by simp,?_⟩
              rw[show L.length+(k - 1)=L.length+k - 1 by omega]
              simpa using W)
    intro a J;exact this.2 a J y (by simp)
  refine⟨A.take k++y::A.drop k,?_,?_⟩
  · rw[J,a1]
    rw[←a1,←J] at h5 ⊢;rw[h5];unfold eG;rw[Gl _ y (L++A.take k) (by simp;omega) _ (A.drop k) R m xs rfl (by simp;omega) (by rw[a0];simp) (by omega)];simp
  · have a6:Srt lt (A.take k++A.drop k):=by rw[Q4];exact hA
    have:=Stb.cat h (A1:=A.take k) (A2:=A.drop k) (B1:=[y]) (B2:=[]) (R1:=A.take k++[y]) (R2:=A.drop k) (Stb.refl (by
        unfold Srt;rw[Qs];refine⟨hA.take k,by simp,λa J b Z=>?_⟩;rw[Z8] at Z;subst Z
        exact a2 a J)) (by simpa using Stb.refl (hA.drop k)) a6 (by simp[Srt]) (λb Z a J=>by
          rw[Z8] at Z;subst Z
          exact a3 a J) (by simp)
    simpa using this
theorem MG {J:List aa->Int->Int->Int->(aa->aa->Option Int)->Option (List aa)}{xs:List aa}{a m b s mid e:Int}
    (a1:mid=(a+b)/2) (he:e=mid+m - s) (h0:0<=a) (h1:0<=m) (h2:0<=b) (h3:0<=s) (ha:a<1152921504606846976) (hb:b<1152921504606846976) (hm:m<1152921504606846976) (hs:s<1152921504606846976):
    cX xs a m b p J s=(if s<m/\m<e then bY xs s m e p else some xs).bind λr=>
      (if a<s/\s<mid then J r a s mid p else some r).bind λh=>(if mid<e/\e<b then J h mid e b p else some h):=by
  have W:Qe.wrap (aP .u64 (X3.wrap (Qe.wrap (a+b))) 1)=mid:=by rw[tI (by omega),a1]
  have Z:Qe.wrap (mid+m)=mid+m:=ak (by omega);have hE:Qe.wrap (mid+m - s)=e:=by rw[ak (by omega),he]
  have a0:∀h,cO a m b p J s h=(if mid<e/\e<b then J h mid e b p else some h):=by
    intro h;simp only[cO,d8,W,Z,hE]
    by_cases c1:mid<e<;>by_cases c2:e<b<;>simp[c1,c2]
  have h9:∀r,cW a m b p J s r=(if a<s/\s<mid then J r a s mid p else some r).bind λh=>(if mid<e/\e<b then J h mid e b p else some h):=by
    intro r;simp only[cW,eH,W,a0]
    by_cases c1:a<s<;>by_cases c2:s<mid<;>simp[c1,c2]
  simp only[cX,eI,W,Z,hE,h9]
  by_cases c1:s<m<;>by_cases c2:m<e<;>simp[c1,c2]
end
set_option linter.unusedVariables false
set_option linter.unusedSimpArgs false
section
variable {lt:aa->aa->Bool}{p:aa->aa->Option Int}
theorem MH (h:Swo lt) (hp:Cmp lt p) {a2:List aa->Int->Int->Int->(aa->aa->Option Int)->Option (List aa)} {N:Nat} (b3:CM lt p a2 N):
    CM lt p (cA a2) (N+1):=by
  intro L A B R a m b xs b7 d1 ha hm hb a6 hN hn hA hB;have e5:xs.length=L.length+A.length+B.length+R.length:=by rw[a6];simp;omega
  simp only[cA]
  by_cases hA1:A.length=1
  · rw[ak (n:=m - a) (by omega),if_pos (by simp;omega)]
    obtain⟨x,rfl⟩:=Zu.1 hA1;exact H1 h hp d1 ha (by simpa using hm) (by simpa using hb) a6 hn hB
  rw[ak (n:=m - a) (by omega),if_neg (by simp;omega)]
  by_cases hB1:B.length=1
  · rw[ak (n:=b - m) (by omega),if_pos (by simp;omega)]
    obtain⟨y,rfl⟩:=Zu.1 hB1;exact Gm h hp b7 ha hm a6 hn hA
  rw[ak (n:=b - m) (by omega),if_neg (by simp;omega)];have hM:Qe.wrap (aP .u64 (X3.wrap (Qe.wrap (a+b))) 1)=(a+b)/2:=tI (by omega);have b1:Qe.wrap ((a+b)/2+m)=(a+b)/2+m:=ak (by omega)
  obtain⟨aN,e7⟩:∃n:Nat,n=L.length:=⟨_,rfl⟩
  obtain⟨J,e8⟩:∃n:Nat,n=L.length+A.length:=⟨_,rfl⟩
  obtain⟨bN,e4⟩:∃n:Nat,n=L.length+A.length+B.length:=⟨_,rfl⟩
  have c3:a=(aN:Int):=by omega
  have c7:m=(J:Int):=by omega
  have e3:b=(bN:Int):=by omega
  obtain⟨mid,e0⟩:∃n:Nat,n=(aN+bN)/2:=⟨_,rfl⟩
  have b4:(a+b)/2=(mid:Int):=by omega
  rw[b4] at hM b1
  have key: ∀a0 a1:Nat,aN<=a0->a0<=a1->a1<=J->a1<=mid->(a0=aN\/a0+bN=mid+J)->(a1=J\/a1=mid)->mid+J<=a0+bN->
      ∃T,cZ xs a m b p a2 (a0:Int) (a1:Int)=some (L++T++R)/\Stb lt (A++B) T:=by
    intro a0 a1 q1 q2 q3 q4 q5 q6 q7
    obtain⟨s,h1,h2,h3,h4,h5⟩:=wW (F:=λs:(Int×Int)=>cY xs a m b p a2 s.1 s.2) (λc=> !gx lt xs (mid+J - 1 - c) c) a0 a1
      (λs=>cX xs a m b p a2 (s:Int)) (λlo hi g1 g2 g3=>by
        have hc:(lo+hi)/2<xs.length:=by omega
        have hd:mid+J - 1 - (lo+hi)/2<xs.length:=by omega
        have ec:xs[(lo+hi)/2]? =some xs[(lo+hi)/2]:=Jn hc;have ed:xs[mid+J - 1 - (lo+hi)/2]? =some xs[mid+J - 1 - (lo+hi)/2]:=Jn hd;obtain⟨c,c6,c4⟩:=hp xs[mid+J - 1 - (lo+hi)/2] xs[(lo+hi)/2];simp only[cY];rw[if_pos (by simp;omega),hM,tI (by omega),b1,ak (n:=(mid:Int)+m - 1) (by omega),ak (n:=(mid:Int)+m - 1 - ((lo:Int)+hi)/2) (by omega),rl ed (by omega),rl ec (by omega),c6,zh,c4,vS ed ec,ak (by omega)]
        split<;>rfl)
      (λs g1 g2=>by
        simp only[cY]
        rw[if_neg (by simp)]) q2
    unfold cZ;rw[h5,MG (mid:=(mid:Int)) (e:=((mid+J - s:Nat):Int)) b4.symm (by omega) (by omega) (by omega) (by omega) (by omega) (by omega) (by omega) (by omega) (by omega)];obtain⟨k1,c0⟩:∃k,s=L.length+k:=⟨s - L.length,by omega⟩
    obtain⟨k2,e6⟩:∃k,mid+J - s=L.length+A.length+k:=⟨mid+J - s - (L.length+A.length),by omega⟩
    have c5:k1<=A.length:=by omega
    have d2:k2<=B.length:=by omega
    obtain⟨c1,c2⟩:=tJ h a6 hA hB k1 k2 c5 d2
      (by rcases h4 with h4|h4
          · rcases q6 with q6|q6
            ·right;left;omega
            ·left;omega
          · by_cases W:k2=0
            ·left;exact W
            by_cases e2:k1=A.length
            ·right;left;exact e2
            right;right;refine⟨by omega,by omega,?_⟩;rw[show L.length+A.length+(k2 - 1)=mid+J - 1 - s by omega,←c0]
            simpa using h4)
      (by rcases h3 with h3|h3
          · rcases q5 with q5|q5
            ·left;omega
            ·right;left;omega
          · by_cases W:k1=0
            ·left;exact W
            by_cases e2:k2=B.length
            ·right;left;exact e2
            right;right;refine⟨by omega,by omega,?_⟩;rw[show L.length+A.length+k2=mid+J - 1 - (s - 1) by omega,show L.length+(k1 - 1)=s - 1 by omega]
            simpa using h3)
    have eA:A.take k1++A.drop k1=A:=Q4 _ _;have eB:B.take k2++B.drop k2=B:=Q4 _ _;have a4:(A.take k1).length=k1:=by simp;omega
    have a3:(A.drop k1).length=A.length - k1:=by simp
    have a5:(B.take k2).length=k2:=by simp;omega
    have b0:(B.drop k2).length=B.length - k2:=by simp
    have b2:xs=L++A.take k1++A.drop k1++B.take k2++(B.drop k2++R):=by
      rw[a6]
      conv=>lhs;rw[←eA,←eB]
      simp only[Q5]
    have d0:(if (s:Int)<m/\m<((mid+J - s:Nat):Int) then bY xs s m ((mid+J - s:Nat):Int) p else some xs)=some (L++A.take k1++B.take k2++(A.drop k1++B.drop k2++R)):=by
      split
      · rename_i hc
        rw[Jk (A:=L++A.take k1) (X:=A.drop k1) (Y:=B.take k2) (C:=B.drop k2++R) (by rw[a3];omega) (by rw[a5];omega) (by rw[zw,a4];omega) (by rw[a3];omega) (by rw[a5];omega)
          b2 (by omega)]
        simp
      · rename_i hc
        rw[b2]
        by_cases W:k1=A.length
        · have:A.drop k1=[]:=Qa (by omega)
          rw[this];simp only[Q5,Ql,Qp]
        · have e2:k2=0:=by omega
          have:B.take k2=[]:=by rw[e2];rfl
          rw[this];simp only[Q5,Ql,Qp]
    rw[d0,zh]
    have b6:∃Z,(if a<(s:Int)/\(s:Int)<(mid:Int) then a2 (L++A.take k1++B.take k2++(A.drop k1++B.drop k2++R)) a s mid p else some (L++A.take k1++B.take k2++(A.drop k1++B.drop k2++R)))=some (L++Z++(A.drop k1++B.drop k2++R))/\Stb lt (A.take k1++B.take k2) Z:=by
      split
      · rename_i hc
        exact b3 L (A.take k1) (B.take k2) _ a s mid _ (by omega) (by omega) ha (by rw[a4];omega) (by rw[a4,a5];omega) rfl (by omega) (by simp only[zw,a4,a5,a3,b0];omega) (hA.take _) (hB.take _)
      · rename_i hc
        refine⟨A.take k1++B.take k2,by simp,Stb.refl ?_⟩
        by_cases W:k1=0
        ·rw[W];simpa using hB.take k2
        · have e2:k2=0:=by omega
          rw[e2];simpa using hA.take k1
    obtain⟨Z,W,s1⟩:=b6;rw[W,zh];have a9:Z.length=k1+k2:=by rw[s1.len h,zw,a4,a5]
    have b5:∃T2,(if (mid:Int)<((mid+J - s:Nat):Int)/\((mid+J - s:Nat):Int)<b then a2 (L++Z++(A.drop k1++B.drop k2++R)) mid ((mid+J - s:Nat):Int) b p else some (L++Z++(A.drop k1++B.drop k2++R)))=some (L++Z++T2++R)/\Stb lt (A.drop k1++B.drop k2) T2:=by
      split
      · rename_i hc
        exact b3 (L++Z) (A.drop k1) (B.drop k2) R mid _ b _ (by omega) (by omega) (by rw[zw,a9];omega) (by rw[zw,a9,a3];omega) (by rw[zw,a9,a3,b0];omega) (by simp) (by omega) (by simp only[zw,a3,b0,a9];omega) (hA.drop _) (hB.drop _)
      · rename_i hc
        refine⟨A.drop k1++B.drop k2,by simp,Stb.refl ?_⟩
        by_cases W:k1=A.length
        ·rw[W];simpa using hB.drop k2
        · have e2:k2=B.length:=by omega
          rw[e2];simpa using hA.drop k1
    obtain⟨T2,e2,s2⟩:=b5;rw[e2];refine⟨Z++T2,by simp,?_⟩;have:=Stb.cat h s1 s2 (by rw[eA];exact hA) (by rw[eB];exact hB) c1 c2;rw[eA,eB] at this;exact this
  rw[hM]
  by_cases hmm:mid<J
  · rw[if_pos (by simp;omega),b1,ak (by omega)]
    have:=key (mid+J - bN) mid (by omega) (by omega) (by omega) (by omega) (Or.inr (by omega)) (Or.inr rfl) (by omega);rw[show((mid+J - bN:Nat):Int)=(mid:Int)+m - b by omega] at this;exact this
  · rw[if_neg (by simp;omega)]
    have:=key aN J (by omega) (by omega) (by omega) (by omega) (Or.inl rfl) (Or.inl rfl) (by omega);rw[←c3,←c7] at this;exact this
theorem MI (h:Swo lt)(J:Cmp lt p):∀n,CM lt p (bA n) n:=by
  intro n
  induction n with
  |zero=>intro L A B R a m b xs hA W _ _ _ _ Z;omega
  |succ n ih=>exact MH h J ih
theorem Eh (h:Swo lt)(hp:Cmp lt p){L A B R xs:List aa}{a m b:Int}(a1:0<A.length)(a0:0<B.length)(ha:a=(L.length:Int))(W:m=(L.length:Int)+A.length)(Z:b=(L.length:Int)+A.length+B.length)
    (J:xs=L++A++B++R) (hn:xs.length<1152921504606846976) (hA:Srt lt A) (hB:Srt lt B):
    ∃T,cd xs a m b p=some (L++T++R)/\Stb lt (A++B) T:=by
  unfold cd;exact MI h hp _ L A B R a m b xs a1 a0 ha W Z J (by rw[J];simp;omega) hn hA hB
end
set_option linter.unusedVariables false
set_option linter.unusedSimpArgs false
inductive Bls {O:Type}(lt:O->O->Bool)(k:Nat):List O->List O->Prop
 |last {l l':List O} (h:l.length<=k) (s:Stb lt l l'):Bls lt k l l'
 |more {l l' t t':List O} (h:l.length=k) (s:Stb lt l l') (ht:Bls lt k t t'):Bls lt k (l++t) (l'++t')
section
variable {O:Type}{lt:O->O->Bool}
theorem Stb.nil:Stb lt ([]:List O) []:=⟨List.Pairwise.nil,λ_=>rfl⟩
theorem Bls.len (h:Swo lt){k:Nat}{l J:List O}(W:Bls lt k l J):J.length=l.length:=by
 induction W with
 |last _ s=>exact s.len h
 |more _ s _ ih=>rw[zw,zw,s.len h,ih]
theorem Bls.done (h:Swo lt){k:Nat}(hk:0<k){l J:List O}(W:Bls lt k l J)(Z:l.length<=k):Stb lt l J:=by
 cases W with
 |last _ s=>exact s
 | @more l J t t' h1 s ht=>
  rw[zw] at Z;have:t=[]:=Q2 (by omega);subst this;have:t'=[]:=Q2 (by rw[ht.len h];rfl);subst this;simpa using s
theorem Bls.split (h:Swo lt){k:Nat}{l J:List O}(Z:Bls lt k l J)(hl:k<=l.length):∃l1 l2 l1' l2',l=l1++l2/\J=l1'++l2'/\l1.length=k/\Stb lt l1 l1'/\Bls lt k l2 l2':=by
 cases Z with
 |last W s=>exact⟨l,[],J,[],by simp,by simp,by omega,s,.last (by simp) Stb.nil⟩
 | @more l J t t' W s ht=>exact⟨l,t,J,t',rfl,rfl,W,s,ht⟩
end
section
variable {lt:aa->aa->Bool}{p:aa->aa->Option Int}
theorem MJ (h:Swo lt)(hp:Cmp lt p)(n:Int)(hn:n<1152921504606846976):∀(k:Nat) (X D:List aa) (a:Int) (xs:List aa),X.length=k->a=(D.length:Int)->n=(D.length:Int)+X.length->xs=D++X->
  ∃J,Bls lt 20 X J/\aq (λs:(Int×Int×List aa)=>bE n p s.1 s.2.1 s.2.2) (a,a+20,xs)=
   aq (λs:(Int×List aa)=>a7 n p s.1 s.2) (20,D++J):=by
 intro k
 induction k using Z6 with
 | _ k ih=>
  intro X D a xs hk ha hN a0
  by_cases hX:20<=X.length
  ·have e:X=X.take 20++X.drop 20:=(Q4 _ _).symm
   obtain⟨T,Z,W⟩:=Eg h hp D (X.take 20) (X.drop 20) (a:=a) (b:=a+20) (xs:=xs) ha (by simp;omega) (by omega) (by rw[a0];simp);have a2:=W.len h;rw[Zw] at a2
   have a1:bE n p a (a+20) xs=some (.inl (a+20,a+20+20,(D++T)++X.drop 20)):=by
    simp only[bE];rw[if_pos (by simp;omega),Z,zh,ak (by omega)]
   obtain⟨J,h3,h4⟩:=ih (X.length - 20) (by omega) (X.drop 20) (D++T) (a+20) _ (by simp) (by rw[zw];omega) (by rw[zw,Zx];omega) rfl;refine⟨T++J,?_,?_⟩
   ·have:=Bls.more (by rw[Zw];omega) W h3
    rw[←e] at this;exact this
   ·rw[bK a1,h4,Q5]
  ·obtain⟨T,Z,W⟩:=Eg h hp D X [] (a:=a) (b:=n) (xs:=xs) ha hN (by omega) (by rw[a0];simp)
   refine⟨T,.last (by omega) W,?_⟩;rw[mZ]
   have:bE n p a (a+20) xs=(aq (λs:(Int×List aa)=>a7 n p s.1 s.2) (20,D++T)).map Sum.inr:=by
    simp only[bE,iy];rw[if_neg (by simp;omega),Z,zh,Qp]
   simp only[this];cases aq (λs:(Int×List aa)=>a7 n p s.1 s.2) (20,D++T)<;>rfl
theorem MK (h:Swo lt)(hp:Cmp lt p)(n:Int)(hn:n<288230376151711744)(J:Nat)(h0:0<J)(b7:(J:Int)<n):∀(k:Nat) (X0 X D:List aa) (a b:Int) (xs:List aa),X.length=k->a=(D.length:Int)->b=a+2*J->n=(D.length:Int)+X.length->xs=D++X->Bls lt J X0 X->
  ∃X',Bls lt (2*J) X0 X'/\aq (λs:(Int×Int×List aa)=>cc n p J s.1 s.2.1 s.2.2) (a,b,xs)=some (.inl (((2*J:Nat):Int),D++X')):=by
 intro k
 induction k using Z6 with
 | _ k ih=>
  intro X0 X D a b xs hk ha hb hN a5 a4;have hl:=a4.len h;have b1:xs.length<1152921504606846976:=by rw[a5,zw];omega
  by_cases hX:2*J<=X.length
  ·obtain⟨l1,l2,Z,a3,e1,a2,a6,W,a1⟩:=a4.split h (by omega)
   have b3:=a1.len h;have q1:Z.length=J:=by rw[W.len h,a6]
   have q2:X.length=Z.length+a3.length:=by rw[a2,zw]
   obtain⟨l3,l4,a9,a0,e2,b0,b4,s3,b2⟩:=a1.split h (by omega);have q3:a9.length=J:=by rw[s3.len h,b4]
   have q4:a3.length=a9.length+a0.length:=by rw[b0,zw]
   obtain⟨T,h1,h2⟩:=Eh h hp (L:=D) (A:=Z) (B:=a9) (R:=a0) (a:=a) (m:=a+J) (b:=b) (xs:=xs) (by omega) (by omega) ha (by omega) (by omega) (by rw[a5,a2,b0];simp) b1 W.srt s3.srt;have b6:=h2.len h;rw[zw] at b6
   have b5:cc n p J a b xs=some (.inl (b,b+2*J,(D++T)++a0)):=by
    simp only[cc];rw[if_pos (by simp;omega),ak (n:=a+J) (by omega),h1,zh,ak (n:=2*(J:Int)) (by omega),ak (by omega)]
   obtain⟨X',h3,h4⟩:=ih a0.length (by omega) l4 a0 (D++T) b (b+2*J) _ rfl (by rw[zw];omega) rfl (by rw[zw];omega) rfl b2;refine⟨T++X',?_,?_⟩
   ·rw[e1,e2,←Q5]
    exact Bls.more (by rw[zw];omega) (h2.trans λc=>by simp[W.flt,s3.flt]) h3
   ·rw[bK b5,h4,Q5]
  ·by_cases hX2:J<X.length
   ·obtain⟨l1,l2,Z,a3,e1,a2,a6,W,a1⟩:=a4.split h (by omega)
    have b3:=a1.len h;have q1:Z.length=J:=by rw[W.len h,a6]
    have q2:X.length=Z.length+a3.length:=by rw[a2,zw]
    have s2:=a1.done h h0 (by omega);obtain⟨T,h1,h2⟩:=Eh h hp (L:=D) (A:=Z) (B:=a3) (R:=[]) (a:=a) (m:=a+J) (b:=n) (xs:=xs) (by omega) (by omega) ha (by omega) (by omega) (by rw[a5,a2];simp) b1 W.srt s2.srt;refine⟨T,.last (by omega) ?_,?_⟩
    ·rw[e1]
     exact h2.trans λc=>by simp[W.flt,s2.flt]
    ·apply aS
     simp only[cc,fi,dt];rw[if_neg (by simp;omega),ak (n:=a+J) (by omega),if_pos (by simp;omega),h1,zh,ak (by omega)];simp[X7]
   ·refine⟨X,.last (by omega) (a4.done h h0 (by omega)),?_⟩
    apply aS;simp only[cc,fi,dt];rw[if_neg (by simp;omega),ak (n:=a+J) (by omega),if_neg (by simp;omega),ak (by omega),a5];simp[X7]
theorem ML (h:Swo lt)(hp:Cmp lt p)(n:Int)(hn:n<288230376151711744)(W:List aa)(a2:n=(W.length:Int)):∀(k J:Nat) (X:List aa),(W.length - J)=k->0<J->Bls lt J W X->
  ∃Z,aq (λs:(Int×List aa)=>a7 n p s.1 s.2) ((J:Int),X)=some Z/\Stb lt W Z:=by
 intro k
 induction k using Z6 with
 | _ k ih=>
  intro J X hk h0 a0;have hl:=a0.len h
  by_cases hb:(J:Int)<n
  ·obtain⟨Z,h1,h2⟩:=MK h hp n hn J h0 hb X.length W X [] 0 (2*J) X rfl rfl (by simp) (by simp;omega) (by simp) a0
   have a1:a7 n p J X=some (.inl (((2*J:Nat):Int),Z)):=by
    simp only[a7];rw[if_pos (by simp;omega),ak (by omega),h2,Ql]
   obtain⟨X2,h3,h4⟩:=ih (W.length - 2*J) (by omega) (2*J) Z rfl (by omega) h1;exact⟨X2,by rw[bK a1];exact h3,h4⟩
  ·refine⟨X,?_,a0.done h h0 (by omega)⟩
   apply aS;simp only[a7];rw[if_neg (by simp;omega)]
   rfl
theorem Ei (h:Swo lt)(hp:Cmp lt p)(X:List aa)(hn:X.length<288230376151711744):∃X',bP X p=some X'/\Stb lt X X':=by
 obtain⟨Z,h1,W⟩:=MJ h hp (X.length:Int) (by omega) X.length X [] 0 X rfl rfl (by simp) rfl;obtain⟨X2,J,h4⟩:=ML h hp (X.length:Int) (by omega) X rfl _ 20 Z rfl (by omega) h1;refine⟨X2,?_,h4⟩;unfold bP dW;have W:aq (λs:(Int×Int×List aa)=>bE (X.length:Int) p s.1 s.2.1 s.2.2) (0,20,X)=_:=W;rw[W,Ql];have J:aq (λs:(Int×List aa)=>a7 (X.length:Int) p s.1 s.2) (20,Z)=_:=J;rw[J]
 rfl
end
set_option linter.unusedVariables false
set_option linter.unusedSimpArgs false
theorem i8 {σ β:Type}{f:σ->Option (σ⊕β)}{s:σ}{b:Option β}(S:Nat->σ)(n:Nat)(W:s=S 0)(step:∀i,i<n->f (S i)=some (.inl (S (i+1))))(J:f (S n)=b.map Sum.inr):aq f s=b:=by
 have key:∀i,i<=n->aq f s=aq f (S i):=by
  intro i
  induction i with
  |zero=>intro _;rw[W]
  |succ i ih=>intro h;rw[ih (by omega),bK (step i (by omega))]
 rw[key n (Qj n),mZ,J];cases b<;>rfl
section
variable {O β:Type}
theorem Swo.comap {lt:O->O->Bool}(h:Swo lt)(f:β->O):Swo λa b=>lt (f a) (f b):=
 ⟨λa=>h.irr _,λa b c=>h.tr _ _ _,λa b c=>h.inc _ _ _⟩
def nD (h J:O->O->Bool)(a b:O):Bool:=h a b||(!h b a&&J a b)
theorem Swo.lex {Z l2:O->O->Bool}(W:Swo Z)(h2:Swo l2):Swo (nD Z l2):=by
 refine⟨λa=>by simp[nD,W.irr,h2.irr],λa b c h J=>?_,λa b c h J=>?_⟩
 ·simp only[nD,Bool.or_eq_true,Qm,Qn] at*
  rcases h with h|⟨a0,h⟩<;>rcases J with J|⟨a1,J⟩
  ·exact Or.inl (W.tr _ _ _ h J)
  ·left
   cases hac:Z a c with
   |true=>rfl
   |false=>rw[W.inc a c b hac a1] at h;cases h
  ·left
   cases hac:Z a c with
   |true=>rfl
   |false=>rw[W.inc b a c a0 hac] at J;cases J
  ·exact Or.inr ⟨W.inc c b a a1 a0,h2.tr _ _ _ h J⟩
 ·simp only[nD,Ze,Zc,Bool.not_eq_false'] at*
  refine⟨W.inc _ _ _ h.1 J.1,?_⟩;rcases h.2 with h3|h3
  ·left
   cases hca:Z c a with
   |true=>rfl
   |false=>rw[W.inc b c a J.1 hca] at h3;cases h3
  ·rcases J.2 with h4|h4
   ·left
    cases hca:Z c a with
    |true=>rfl
    |false=>rw[W.inc c a b hca h.1] at h4;cases h4
   ·right;exact h2.inc _ _ _ h3 h4
def lexL (lt:O->O->Bool):List O->List O->Bool
 |_,[]=>false
 |[],_::_=>true
 |a::x,b::y=>lt a b||(!lt b a&&lexL lt x y)
theorem Swo.lexL {lt:O->O->Bool}(h:Swo lt):Swo (lexL lt):=by
 refine⟨?_,?_,?_⟩
 ·intro a
  induction a with
  |nil=>rfl
  |cons a x ih=>simp[Hay.lexL,h.irr,ih]
 ·intro a
  induction a with
  |nil=>
   intro b c W J;cases c with
   |nil=>cases b<;>simp[Hay.lexL] at J
   |cons c z=>rfl
  | cons a x ih=>
   intro b c W J;cases b with
   |nil=>simp[Hay.lexL] at W
   | cons b y=>
    cases c with
    |nil=>simp[Hay.lexL] at J
    | cons c z=>
     simp only[Hay.lexL,Bool.or_eq_true,Qm,Qn] at*;rcases W with W|⟨Z,W⟩<;>rcases J with J|⟨a0,J⟩
     ·exact Or.inl (h.tr _ _ _ W J)
     ·left
      cases hac:lt a c with
      |true=>rfl
      |false=>rw[h.inc a c b hac a0] at W;cases W
     ·left
      cases hac:lt a c with
      |true=>rfl
      |false=>rw[h.inc b a c Z hac] at J;cases J
     ·exact Or.inr ⟨h.inc c b a a0 Z,ih _ _ W J⟩
 ·intro a
  induction a with
  |nil=>
   intro b c W J;cases b with
   |nil=>exact J
   |cons b y=>simp[Hay.lexL] at W
  | cons a x ih=>
   intro b c W J;cases c with
   |nil=>rfl
   | cons c z=>
    cases b with
    |nil=>simp[Hay.lexL] at J
    | cons b y=>
     simp only[Hay.lexL,Ze,Zc,Bool.not_eq_false'] at*;refine⟨h.inc _ _ _ W.1 J.1,?_⟩;rcases W.2 with h3|h3
     ·left
      cases hca:lt c a with
      |true=>rfl
      |false=>rw[h.inc b c a J.1 hca] at h3;cases h3
     ·rcases J.2 with h4|h4
      ·left
       cases hca:lt c a with
       |true=>rfl
       |false=>rw[h.inc c a b hca W.1] at h4;cases h4
      ·right;exact ih _ _ h3 h4
theorem O9:Swo λa b:Int=>decide (a<b):=
 ⟨λa=>by simp,λa b c J h=>by simp at*;omega,λa b c J h=>by simp at*;omega⟩
theorem uj:∀s u:List Int,ltB s u=lexL (λa b:Int=>decide (a<b)) s u
 |s,[]=>by cases s<;>rfl
 |[],_::_=>rfl
 | a::x,b::y=>by
  simp only[ltB,lexL,uj x y]
  by_cases h1:a<b
  ·simp[h1]
  ·by_cases h2:b<a
   ·have:a≠b:=by omega
    simp[h1,h2,this]
   ·have:a=b:=by omega
    simp[this]
theorem Pa:Swo ltB:=by
 have h:=O9.lexL;exact⟨λa=>by rw[uj];exact h.irr a,λa b c=>by simp only[uj];exact h.tr a b c,λa b c=>by simp only[uj];exact h.inc a b c⟩
def sgn (lt:O->O->Bool)(a b:O):Int:=if lt a b then -1 else if lt b a then 1 else 0
theorem Jm {lt:O->O->Bool}{a b:O}:decide (sgn lt a b<0)=lt a b:=by
 unfold sgn;cases lt a b
 ·cases lt b a<;>simp
 ·simp
theorem sg {h J:O->O->Bool}(W:Swo h){a b:O}:sgn (nD h J) a b=if sgn h a b≠0 then sgn h a b else sgn J a b:=by
 unfold sgn nD;cases e1:h a b
 ·cases e2:h b a
  ·simp
  ·simp
 ·simp
theorem z6 {lt:O->O->Bool}(h:Swo lt){a b:O}{x y:List O}:sgn (lexL lt) (a::x) (b::y)=if sgn lt a b≠0 then sgn lt a b else sgn (lexL lt) x y:=by
 by_cases e1:lt a b=true
 ·simp[sgn,lexL,e1]
 ·by_cases e2:lt b a=true
  ·simp[sgn,lexL,e1,e2]
  ·simp[sgn,lexL,e1,e2]
end
def vk2 (v:Ap):Int:=if v.fKind=1 then (if v.fBool then 1 else 0) else if v.fKind=2 then v.fInt else 0
def vk3 (v:Ap):List Int:=if v.fKind=3 then v.fText else []
def vlt:Ap->Ap->Bool:=
 nD (λa b=>decide (a.fKind<b.fKind)) (nD (λa b=>decide (vk2 a<vk2 b)) (λa b=>ltB (vk3 a) (vk3 b)))
theorem Bz:Swo vlt:=(O9.comap λv:Ap=>v.fKind).lex ((O9.comap vk2).lex (Pa.comap vk3))
theorem Aa (a b:Ap):ra a b=some (vlt a b):=by
 unfold ra vlt nD
 by_cases hk:a.fKind=b.fKind
 ·rw [if_neg (by simp[hk])]
  by_cases h1:b.fKind=1
  ·simp only[lg,vk2,vk3,hk,h1]
   cases ha:a.fBool<;>cases hb:b.fBool<;>simp[ltB]
  ·by_cases h2:b.fKind=2
   ·simp only[lg,vk2,vk3,hk,h2]
    simp[ltB]
   ·by_cases h3:b.fKind=3
    ·simp only[lg,oL,vk2,vk3,hk,h3]
     simp
    ·simp only[lg,oL,vk2,vk3,hk]
     simp[h1,h2,h3,ltB]
 ·rw[if_pos (by simp[hk])]
  by_cases hl:a.fKind<b.fKind
  ·simp[hl]
  ·have:b.fKind<a.fKind:=by omega
   simp[hl,this]
theorem yc (a b:Ap):oM a b=some (sgn vlt a b):=by
 unfold oM sgn;rw[Aa,Aa,zh,zh];cases vlt a b<;>cases vlt b a<;>rfl
theorem GX (a b:Int):gE a b=some (sgn (λa b:Int=>decide (a<b)) a b):=by
 simp only[gE,j6,sgn,zh,bne_self_eq_false]
 by_cases h1:a<b<;>by_cases h2:b<a<;>simp[h1,h2]
theorem H2 (a b:Int):gL a b=some (sgn (λa b:Int=>decide (a<b)) a b):=by
 simp only[gL,iQ,sgn,zh,bne_self_eq_false]
 by_cases h1:a<b<;>by_cases h2:b<a<;>simp[h1,h2]
theorem MM (a b:Int):iU a b=some (sgn (λa b:Int=>decide (a<b)) a b):=by
 simp only[iU,jS,sgn,zh,bne_self_eq_false]
 by_cases h1:a<b<;>by_cases h2:b<a<;>simp[h1,h2]
theorem MN (a b:Int):iV a b=some (sgn (λa b:Int=>decide (a<b)) a b):=by
 simp only[iV,jT,sgn,zh,bne_self_eq_false]
 by_cases h1:a<b<;>by_cases h2:b<a<;>simp[h1,h2]
theorem yd (a b:Ap):b9 a b=some (sgn vlt a b):=by
 unfold b9 vlt;rw[sg (O9.comap λv:Ap=>v.fKind),sg (O9.comap vk2)]
 by_cases hk:a.fKind=b.fKind
 ·rw [if_neg (by simp[hk])]
  have e0:sgn (λa b:Ap=>decide (a.fKind<b.fKind)) a b=0:=by simp[sgn,hk]
  rw[e0];simp only[ne_eq,not_true_eq_false,if_false]
  by_cases h1:b.fKind=1
  ·simp only[eN,vk2,vk3,hk,h1,sgn]
   cases ha:a.fBool<;>cases hb:b.fBool<;>simp[ltB]
  ·by_cases h2:b.fKind=2
   ·have ka:a.fKind=2:=hk.trans h2
    have J:vk2 a=a.fInt:=by simp[vk2,ka]
    have h:vk2 b=b.fInt:=by simp[vk2,h2]
    have Z:vk3 a=[]:=by simp[vk3,ka]
    have W:vk3 b=[]:=by simp[vk3,h2]
    rw[if_neg (by simp[ka]),eN,if_neg (by simp),if_pos (by simp[ka]),H2];simp only[sgn,J,h,Z,W,ltB]
    by_cases q1:a.fInt<b.fInt<;>by_cases q2:b.fInt<a.fInt<;>simp[q1,q2]
   ·by_cases h3:b.fKind=3
    ·have ka:a.fKind=3:=hk.trans h3
     have J:vk2 a=0:=by simp[vk2,ka]
     have h:vk2 b=0:=by simp[vk2,h3]
     have Z:vk3 a=a.fText:=by simp[vk3,ka]
     have W:vk3 b=b.fText:=by simp[vk3,h3]
     rw[if_neg (by simp[ka]),eN,if_neg (by simp),if_neg (by simp[ka]),if_pos (by simp[ka]),kz,dF,zh,zh,qu];simp only[sgn,J,h,Z,W];simp
    ·have ka:a.fKind≠1/\a.fKind≠2/\a.fKind≠3:=by rw[hk];exact⟨h1,h2,h3⟩
     have J:vk2 a=0:=by simp[vk2,ka]
     have h:vk2 b=0:=by simp[vk2,h1,h2]
     have Z:vk3 a=[]:=by simp[vk3,ka]
     have W:vk3 b=[]:=by simp[vk3,h3]
     rw[if_neg (by simp[ka]),eN,if_neg (by simp),if_neg (by simp[ka]),if_neg (by simp[ka])];simp only[sgn,J,h,Z,W,ltB];simp
 ·rw[if_pos (by simp[hk]),GX,zh]
  have:sgn (λa b:Ap=>decide (a.fKind<b.fKind)) a b≠0:=by
   unfold sgn
   by_cases hl:a.fKind<b.fKind
   ·simp[hl]
   ·have:b.fKind<a.fKind:=by omega
    simp[hl,this]
  rw[if_pos this]
  rfl
def rlt:List Ap->List Ap->Bool:=lexL vlt
theorem Pb:Swo rlt:=Bz.lexL
theorem CN {s t:List Ap}(hs:s.length<4611686018427387904)(ht:t.length<4611686018427387904):mP s t=some (sgn rlt s t):=by
 unfold mP;refine my (λi=>∃k:Nat,i=(k:Int)/\k<=s.length/\k<=t.length/\sgn rlt (s.drop k) (t.drop k)=sgn rlt s t) (λi=>s.length - i.toNat) ?_ ⟨0,rfl,by simp,by simp,by simp⟩;rintro i ⟨k,rfl,h1,h2,h⟩;simp only[sG]
 by_cases hk:k<s.length/\k<t.length
 ·obtain⟨W,J⟩:=hk
  rw[if_pos (by split<;>simp<;>omega),aC W,zh,aC J,zh,yd,zh];rw[Q0 W,Q0 J,rlt,z6 Bz] at h
  by_cases hc:sgn vlt s[k] t[k]=0
  ·left
   rw[if_neg (by simp[hc])];refine⟨_,rfl,⟨k+1,by rw[ak (by omega)];rfl,by omega,by omega,?_⟩,?_⟩
   ·rw[if_neg (by simp[hc])] at h;exact h
   ·rw[ak (by omega)];omega
  ·right
   rw[if_pos (by simp[hc])];rw[if_pos hc] at h;rw[h];rfl
 ·right
  rw[if_neg (by split<;>simp<;>omega),sF,GX,zh,←h]
  have key:∀(x y:List Ap),(x=[]\/y=[])->sgn rlt x y=sgn (λa b:Int=>decide (a<b)) (x.length:Int) (y.length:Int):=by
   intro x y Z;rcases Z with rfl|rfl
   ·cases y<;>simp[sgn,rlt,lexL]<;>omega
   ·cases x<;>simp[sgn,rlt,lexL]<;>omega
  rw[key]
  ·have e1:((s.length:Int)<t.length)↔(((s.length - k:Nat):Int)<((t.length - k:Nat):Int)):=by omega
   have e2:((t.length:Int)<s.length)↔(((t.length - k:Nat):Int)<((s.length - k:Nat):Int)):=by omega
   simp only[sgn,Zx,decide_eq_true_eq,e1,e2,X9]
  ·by_cases q:k<s.length
   ·right;exact Qa (by omega)
   ·left;exact Qa (by omega)
theorem CO {s t:List Ap}(W:s.length<4611686018427387904)(ht:t.length<4611686018427387904):ue s t=some (sgn rlt s t):=by
 unfold ue;refine my (λi=>∃k:Nat,i=(k:Int)/\k<=s.length/\k<=t.length/\sgn rlt (s.drop k) (t.drop k)=sgn rlt s t) (λi=>s.length - i.toNat) ?_ ⟨0,rfl,by simp,by simp,by simp⟩;rintro i ⟨k,rfl,Z,J,h⟩;simp only[vB]
 by_cases hk1:k<s.length
 ·rw[if_pos (by simp;omega)]
  by_cases hk2:k<t.length
  ·rw[if_neg (by simp;omega),aC hk1,zh,aC hk2,zh,yc,zh]
   rw[Q0 hk1,Q0 hk2,rlt,z6 Bz] at h
   by_cases hc:sgn vlt s[k] t[k]=0
   ·left
    rw[if_neg (by simp[hc])];refine⟨_,rfl,⟨k+1,by rw[ak (by omega)];rfl,by omega,by omega,?_⟩,?_⟩
    ·rw[if_neg (by simp[hc])] at h;exact h
    ·rw[ak (by omega)];omega
   ·right
    rw[if_pos (by simp[hc])];rw[if_pos hc] at h;rw[h];rfl
  ·right
   have:k=t.length:=by omega
   rw[if_pos (by simp;omega),←h,this,Zg,Q0 (by omega)];simp[sgn,rlt,lexL]
 ·right
  rw[if_neg (by simp;omega),←h,Qa (by omega:s.length<=k),vA]
  by_cases hk2:k<t.length
  ·rw[if_pos (by simp;omega),Q0 hk2]
   simp[sgn,rlt,lexL]
  ·rw[if_neg (by simp;omega),Qa (by omega:t.length<=k)]
   simp[sgn,rlt,lexL]
def i9 (cs:List Int)(row:List Ap):List Ap:=cs.map λc=>if 0<=c/\c<(row.length:Int) then row.getD c.toNat Ap.zero else Ap.zero
theorem qo (cs:List Int)(row:List Ap):(i9 cs row).length=cs.length:=by simp[i9]
theorem Ej {O:Type}{xs:List O}{i:Int}(d:O)(h:0<=i/\i<(xs.length:Int)):idx xs i=some (xs.getD i.toNat d):=by
 obtain⟨n,rfl⟩:=Q7 h.1;have J:n<xs.length:=by omega
 rw[aC J];simp[J]
theorem Ab {f:List Ap×Int->Option ((List Ap×Int)⊕List Ap)}{cs:List Int}{row:List Ap}{g:Int->Ap}
  (step:∀(i:Nat) (l:List Ap) (h:i<cs.length),l.length=i->f (l,(i:Int))=some (.inl (l++[g cs[i]],((i+1:Nat):Int)))) (J:∀l,f (l,(cs.length:Int))=some (.inr l)):aq f ([],0)=some (cs.map g):=by
 refine i8 (λi=>((cs.take i).map g,(i:Int))) cs.length (by simp) (λi hi=>?_) ?_
 ·show f ((cs.take i).map g,(i:Int))=_
  have e:(cs.take (i+1)).map g=(cs.take i).map g++[g cs[i]]:=by rw[Zs,Jn hi,Qf];rfl
  rw[step i _ hi (by simp;omega),e]
 ·show f ((cs.take cs.length).map g,(cs.length:Int))=_
  rw[J,Qb];rfl
theorem Ek {cs:List Int}{row:List Ap}(W:cs.length<=3518437208883):kr cs row=some (i9 cs row):=by
 unfold kr i9;refine Ab (row:=row) (λi l hi J=>?_) (λl=>?_)
 ·simp only[nA]
  rw[if_pos (by simpa using hi),aC hi,zh,jJ,zh]
  have h:∀x,ll l (i:Int) x=some (.inl (l++[x],((i+1:Nat):Int))):=by
   intro x;unfold ll;rw[aQ (by simp;omega),zh,ak (by omega)]
   rfl
  by_cases h0:0<=cs[i]
  ·rw[if_pos (by simp[h0])]
   unfold lm
   by_cases h1:cs[i]<(row.length:Int)
   ·rw[if_pos (by simp[h1]),Ej Ap.zero ⟨h0,h1⟩,zh,h,if_pos ⟨h0,h1⟩]
   ·rw[if_neg (by simp;omega),h,if_neg (by omega)];rfl
  ·rw[if_neg (by simp;omega)]
   unfold lm;rw[if_neg (by simp),h,if_neg (by omega)];rfl
 ·simp only[nA]
  rw[if_neg (by simp)];rfl
theorem xP {cs:List Int}{row:List Ap}(W:cs.length<=3518437208883):tu cs row=some (i9 cs row):=by
 unfold tu i9;refine Ab (row:=row) (λi l hi J=>?_) (λl=>?_)
 ·simp only[tq]
  rw[if_pos (by simpa using hi),aC hi,zh]
  have h:∀x,qb l (i:Int) x=some (.inl (l++[x],((i+1:Nat):Int))):=by
   intro x;unfold qb;rw[aQ (by simp;omega),zh,ak (by omega)]
   rfl
  by_cases h0:0<=cs[i]
  ·rw[if_pos (by simp[h0]),zh]
   unfold qc
   by_cases h1:cs[i]<(row.length:Int)
   ·rw[if_pos (by simp[h1]),aC hi,zh,Ej Ap.zero ⟨h0,h1⟩,zh,h,if_pos ⟨h0,h1⟩]
   ·rw[if_neg (by simp;omega),h,if_neg (by omega)];rfl
  ·rw[if_neg (by simp;omega)]
   unfold qc;rw[if_neg (by simp),h,if_neg (by omega)];rfl
 ·simp only[tq]
  rw[if_neg (by simp)];rfl
def ilt:aF->aF->Bool:=nD (λa b=>decide (a.fEpoch<b.fEpoch)) (λa b=>decide (a.fNumber<b.fNumber))
theorem Pc:Swo ilt:=(O9.comap λv:aF=>v.fEpoch).lex (O9.comap λv:aF=>v.fNumber)
def qlt (cs:List Int):aa->aa->Bool:=nD (λa b=>rlt (i9 cs a.fRow) (i9 cs b.fRow)) (λa b=>ilt a.fId b.fId)
theorem fN (cs:List Int):Swo (qlt cs):=(Pb.comap λv:aa=>i9 cs v.fRow).lex (Pc.comap λv:aa=>v.fId)
theorem xQ (a b:Int):ln [a,b]=some (if a≠0 then a else b):=by
 unfold ln;have h:idx [a,b] 0=some a:=rfl;have J:idx [a,b] 1=some b:=rfl
 by_cases ha:a=0
 ·have Z:fP [a,b] 0=some (.inl 1):=by
   simp only[fP];rw[if_pos (by simp),h,zh,if_neg (by simp[ha])];rfl
  rw[bK Z]
  by_cases hb:b=0
  ·have W:fP [a,b] 1=some (.inl 2):=by
    simp only[fP];rw[if_pos (by simp),J,zh,if_neg (by simp[hb])];rfl
   rw[bK W];apply aS;simp only[fP];rw[if_neg (by simp),ha,hb];rfl
  ·apply aS
   simp only[fP];rw[if_pos (by simp),J,zh,if_pos (by simp[hb]),if_neg (by simp[ha])];rfl
 ·apply aS
  simp only[fP];rw[if_pos (by simp),h,zh,if_pos (by simp[ha]),if_pos ha];rfl
theorem Gn (a b:aF):j8 a b=some (sgn ilt a b):=by
 unfold j8 ilt;rw[MM,zh,MN,zh,xQ,zh,sg (O9.comap λv:aF=>v.fEpoch)]
 rfl
theorem CP {cs:List Int}(h:cs.length<=3518437208883)(a b:aa):dh a b cs=some (sgn (qlt cs) a b):=by
 unfold dh qlt;rw[Ek h,zh,Ek h,zh,CN (by rw[qo];omega) (by rw[qo];omega),zh,Gn,zh,xQ,zh,sg (Pb.comap λv:aa=>i9 cs v.fRow)]
 rfl
theorem CQ {cs:List Int}(h:cs.length<=3518437208883):Cmp (qlt cs) (λa b=>dh a b cs):=λa b=>⟨_,CP h a b,Jm⟩
theorem Ad (a b:aF):qd a b=some (ilt a b):=by
 unfold qd ilt nD
 by_cases h:a.fEpoch=b.fEpoch
 ·rw[if_neg (by simp[h])];simp[h]
 ·rw[if_pos (by simp[h])]
  by_cases hl:a.fEpoch<b.fEpoch
  ·simp[hl]
  ·have:b.fEpoch<a.fEpoch:=by omega
   simp[hl,this]
theorem xR {cs:List Int}(h:cs.length<=3518437208883)(a b:aa):qe cs a b=some (qlt cs a b):=by
 unfold qe qlt nD;rw[xP h,zh,xP h,zh,CO (by rw[qo];omega) (by rw[qo];omega),zh,Ad];unfold sgn;cases e1:rlt (i9 cs a.fRow) (i9 cs b.fRow)
 ·cases e2:rlt (i9 cs b.fRow) (i9 cs a.fRow)
  ·simp[e1,e2]
  ·simp[e1,e2]
 ·simp[e1]
set_option linter.unusedVariables false
set_option linter.unusedSimpArgs false
def Rok (l:List aa):Prop:= ∀v∈l,v.fRow.length<=1048576
theorem own_eq {v:aa}(h:v.fRow.length<=1048576):gY v=some v:=by
  unfold gY gu;rw[aQ (by simp;omega)];simp
theorem ja {O:Type}{xs:List O}{i:Nat}(h:i<xs.length):xs.take (i+1)=xs.take i++[xs[i]]:=by
  rw[Zs,Jn h];rfl
theorem tK {cs:List Int}{xs:List aa}(Z:cs.length<=1048576)(hx:xs.length<=1048576)(h:Rok xs):∃T,dX cs xs=some T/\Stb (qlt cs) xs T:=by
  obtain⟨T,W,J⟩:=Ei (fN cs) (CQ (cs:=cs) (by omega)) xs (by omega);refine⟨T,?_,J⟩;unfold dX;refine(i8 (λi=>((i:Int),xs.take i)) xs.length (by simp) (λi hi=>?_) (b:=d9 cs xs) ?_).trans ?_
  · simp only[ef]
    rw[if_pos (by simpa using hi),aC hi,zh,own_eq (h _ (Q1 hi)),zh,aQ (by simp;omega),zh,ja hi,ak (by omega)]
    rfl
  · simp only[ef]
    rw[if_neg (by simp),Qb]
  · unfold d9
    rw[W];rfl
theorem Ae {cs:List Int}{xs:List aa}(hc:cs.length<=1048576)(hx:xs.length<=1048576):∃T,n9 cs xs=some T/\Stb (qlt cs) xs T:=by
  unfold n9;refine eW (λs=>∃k:Nat,s.2=(k:Int)/\k<=xs.length/\Stb (qlt cs) (xs.take k) s.1) (λs=>xs.length - s.2.toNat) (λT=>Stb (qlt cs) xs T) ?_ ⟨0,rfl,by simp,Stb.nil⟩;rintro ⟨out,i⟩ ⟨k,rfl,hk,Z⟩;simp only at hk Z;have a6:=Z.len (fN cs);rw[Zw] at a6;simp only[tw]
  by_cases hkx:k<xs.length
  · left
    rw[if_pos (by simpa using hkx)]
    have a9:∀(n:Nat) (S1 S2:List aa),S1.length=n->out=S1++S2->(∀s∈S2,qlt cs xs[k] s=true)->
        ∃T,aq (λs:Int=>jC cs xs out (k:Int) s) (n:Int)=some (.inl (T,((k+1:Nat):Int)))/\Stb (qlt cs) (out++[xs[k]]) T:=by
      intro n
      induction n with
      | zero=>
        intro S1 S2 hn h W;obtain rfl:=Q2 hn;have J:=Stb.ins (fN cs) (S1:=[]) (S2:=S2) (v:=xs[k]) (by rw[←h];exact Z.srt) W (by simp);rw[←h] at J;refine⟨_,?_,J⟩;apply aS;simp only[jC];rw[if_neg (by simp),mQ];have e1:sub out 0 ((0:Nat):Int)=some ((out.take 0).drop 0):=d4 (lo:=0) (hi:=0) (by omega) (by omega);have e2:sub out ((0:Nat):Int) (out.length:Int)=some ((out.take out.length).drop 0):=d4 (lo:=0) (hi:=out.length) (by omega) (by omega);rw[e1,zh,aQ (by simp),zh,aC hkx,zh,aQ (by simp),zh,e2,zh,aQ (by simp;omega),zh,pu,ak (by omega)];simp[h]
      | succ n ih=>
        intro S1 S2 hn h W;obtain⟨a0,s,rfl,a3⟩:=wV hn;have b0:out.length=n+1+S2.length:=by rw[h];simp;omega
        have a5:out[n]? =some s:=by rw[h,←a3];simp
        obtain⟨a1,a2⟩:=Qq.1 a5;cases hl:qlt cs xs[k] s with
        | true=>
          have J:jC cs xs out (k:Int) ((n+1:Nat):Int)=some (.inl (n:Int)):=by
            simp only[jC];rw[if_pos (by simp),aC hkx,zh,ak (by omega),show((n+1:Nat):Int) - 1=(n:Int) by omega,aC a1,zh,a2,xR (by omega),zh,hl]
            rfl
          rw[bK J]
          exact ih a0 (s::S2) a3 (by rw[h];simp) (by
            intro x hx;rcases Z4.1 hx with rfl|hx
            ·exact hl
            ·exact W x hx)
        | false=>
          have a4:Srt (qlt cs) ((a0++[s])++S2):=by rw[←h];exact Z.srt
          have J:=Stb.ins (fN cs) (v:=xs[k]) a4 W (y7 (fN cs) (List.Pairwise.sublist (List.sublist_append_left _ _) a4) hl);rw[←h] at J;refine⟨_,?_,J⟩;apply aS;simp only[jC];rw[if_pos (by simp),aC hkx,zh,ak (by omega),show((n+1:Nat):Int) - 1=(n:Int) by omega,aC a1,zh,a2,xR (by omega),zh,hl];rw[if_pos (by rfl),mQ];have e1:sub out 0 ((n+1:Nat):Int)=some ((out.take (n+1)).drop 0):=d4 (lo:=0) (hi:=n+1) (by omega) (by omega);have e2:sub out ((n+1:Nat):Int) (out.length:Int)=some ((out.take out.length).drop (n+1)):=d4 (lo:=n+1) (hi:=out.length) (by omega) (by omega)
          rw[e1,zh,aQ (by simp;omega),zh,aC hkx,zh,aQ (by simp;omega),zh,e2,zh,aQ (by simp;omega),zh,pu,ak (by omega)];have t1:out.take (n+1)=a0++[s]:=by rw[h];exact Z1 hn
          have t2:out.drop (n+1)=S2:=by rw[h];exact Z2 hn
          rw[Qb,t2,Z7,t1];simp
    obtain⟨T,h1,W⟩:=a9 out.length out [] rfl (by simp) (by simp);refine⟨(T,((k+1:Nat):Int)),h1,⟨k+1,rfl,hkx,?_⟩,by simp;omega⟩;rw[ja hkx];exact Z.app W
  · right
    rw[if_neg (by simp;omega)];refine⟨out,rfl,?_⟩;rwa[Q3 (by omega)] at Z
theorem Rok.flat {W:List (List aa)}(h:∀l∈W,Rok l):Rok W.flatten:=by
  intro v J;obtain⟨l,Z,J⟩:=List.mem_flatten.1 J;exact h l Z v J
theorem Af {r:List Ap}(h:r.length<=1048576):oO r r=some true:=by
  unfold oO;rw[if_neg (by simp)];refine i8 (λi=>(i:Int)) r.length rfl (λi hi=>?_) ?_
  · simp only[oA]
    rw[if_pos (by simpa using hi),aC hi,zh,zh,if_neg (by simp),ak (by omega)];rfl
  · simp only[oA]
    rw[if_neg (by simp)];rfl
theorem oG {xs:List aa}(h:xs.length<=1048576)(W:Rok xs):gG xs xs=some true:=by
  unfold gG;rw[if_neg (by simp)];refine i8 (λi=>(i:Int)) xs.length rfl (λi hi=>?_) ?_
  · have J:lp xs[i] xs[i]=some true:=by
      unfold lp;rw[Af (W _ (Q1 hi)),zh,if_pos rfl,if_pos (by simp)];simp[jm]
    simp only[kP];rw[if_pos (by simpa using hi),aC hi,zh,zh,J,zh,if_neg (by simp),ak (by omega)];rfl
  · simp only[kP]
    rw[if_neg (by simp)];rfl
theorem H3 {r:List Ap}(h:r.length<=1048576):ud r=some r:=by
  unfold ud;rw[aQ (by simp;omega)];simp
set_option linter.unusedVariables false
set_option linter.unusedSimpArgs false
theorem Ag {σ β:Type}{f:σ->Option (σ⊕β)}{s:σ}(S:Nat->σ)(n:Nat)(h:Nat->Bool)(J:β)(K:Option β)(Z:s=S 0)(step:∀i,i<n->h i=true->f (S i)=some (.inl (S (i+1))))(out:∀i,i<n->h i=false->f (S i)=some (.inr J))
  (W:f (S n)=K.map Sum.inr):aq f s=if (Qd n).all h then K else some J:=by
 have key:∀k i:Nat,i+k=n->aq f (S i)=if (List.range' i k).all h then K else some J:=by
  intro k
  induction k with
  |zero=>
   intro i hi;obtain rfl:i=n:=by omega
   rw[mZ,W];cases K<;>rfl
  |succ k ih=>
   intro i hi;rw[List.range'_succ,List.all_cons];cases hg:h i with
   |true=>rw[bK (step i (by omega) hg),ih (i+1) (by omega),Bool.true_and]
   |false=>rw[aS (out i (by omega) hg)];simp
 rw[Z,key n 0 (by omega),List.range_eq_range']
structure oW (v:aa):Prop where
 ep:0<=v.fId.fEpoch/\v.fId.fEpoch<18446744073709551616
 nu:0<=v.fId.fNumber/\v.fId.fNumber<4294967296
 de:0<=v.fDeleted/\v.fDeleted<18446744073709551616
 row:∀x∈v.fRow,VOK x
 len:v.fRow.length<=1048576
theorem Em {xs:List Int}{n:Int}(h:xs.length<=1048576):∃i,jU xs n=some i/\decide (0<=i)=xs.contains n:=by
 unfold jU
 have key:∀k i:Nat,i+k=xs.length->∃r,aq (λs:Int=>fV xs n s) (i:Int)=some r/\decide (0<=r)=(xs.drop i).contains n:=by
  intro k
  induction k with
  |zero=>
   intro i hi;refine⟨-1,?_,by rw[Qa (by omega)];rfl⟩;apply aS;simp only[fV];rw[if_neg (by simp;omega)];rfl
  | succ k ih=>
   intro i hi;have J:i<xs.length:=by omega
   rw[Q0 J]
   by_cases he:n=xs[i]
   ·refine⟨(i:Int),?_,by rw[List.contains_cons,he,beq_self_eq_true,Bool.true_or];simp⟩
    apply aS;simp only[fV];rw[if_pos (by simpa using J),aC J,zh,if_pos (by simp[he])];rfl
   ·obtain⟨r,Z,W⟩:=ih (i+1) (by omega)
    refine⟨r,?_,?_⟩
    ·rw[bK (s':=((i+1:Nat):Int))]
     ·exact Z
     ·simp only[fV]
      rw[if_pos (by simpa using J),aC J,zh,if_neg (by simp[he]),ak (by omega)];rfl
    ·have e1:(n==xs[i])=false:=by simpa using he
     rw[W,List.contains_cons,e1,Bool.false_or]
 obtain⟨r,Z,W⟩:=key xs.length 0 (by omega);exact⟨r,Z,by simpa using W⟩
theorem Ah {xs:List Int}{n:Int}(h:xs.length<=1048576):fW xs n=some (xs.contains n):=by
 obtain⟨i,W,J⟩:=Em (n:=n) h;unfold fW;rw[W,zh,J]
def qD (cols:Int)(v:aa):Bool:=
 v.fRow.all right&&(decide ((v.fRow.length:Int)=cols)&&(decide (1<=v.fId.fEpoch)&&(decide (v.fId.fEpoch<=9223372036854775807)&& !(decide (v.fDeleted≠0)&&(decide (v.fDeleted<=v.fId.fEpoch)||decide (9223372036854775807<v.fDeleted))))))
theorem En {cols:Int}{v:aa}(h:v.fRow.length<=1048576):j9 cols v=some (qD cols v):=by
 unfold j9
 have Z:∀x,ik cols v x=some (decide ((v.fRow.length:Int)=cols)&&(decide (1<=v.fId.fEpoch)&&(decide (v.fId.fEpoch<=9223372036854775807)&& !x))):=by
  intro x;unfold ik ij
  by_cases h1:(v.fRow.length:Int)=cols<;>by_cases h2:1<=v.fId.fEpoch<;>by_cases h3:v.fId.fEpoch<=9223372036854775807<;>simp[h1,h2,h3]
 have hK:jV cols v=some (decide ((v.fRow.length:Int)=cols)&&(decide (1<=v.fId.fEpoch)&&(decide (v.fId.fEpoch<=9223372036854775807)&& !(decide (v.fDeleted≠0)&&(decide (v.fDeleted<=v.fId.fEpoch)||decide (9223372036854775807<v.fDeleted)))))):=by
  unfold jV;simp only[Z]
  by_cases h1:v.fDeleted=0<;>by_cases h2:v.fDeleted<=v.fId.fEpoch<;>simp[h1,h2]
 refine(Ag (λi=>(i:Int)) v.fRow.length (λi=>match v.fRow[i]? with|some x=>right x|none=>true) false (jV cols v) rfl (λi hi J=>?_) (λi hi J=>?_) ?_).trans ?_
 ·simp only[Jn hi] at J
  simp only[jW];rw[if_pos (by simpa using hi),aC hi,zh,hZ,zh,J,if_neg (by simp),ak (by omega)];rfl
 ·simp only[Jn hi] at J
  simp only[jW];rw[if_pos (by simpa using hi),aC hi,zh,hZ,zh,J,if_pos (by simp)];rfl
 ·simp only[jW]
  rw[if_neg (by simp)]
 ·have e:(Qd v.fRow.length).all (λi=>match v.fRow[i]? with|some x=>right x|none=>true)=v.fRow.all right:=by
   rw[Bool.eq_iff_iff];simp only[Qr,Zt];constructor
   ·intro h x W
    obtain⟨i,hi,rfl⟩:=Qv W;have:=h i hi;rwa[Jn hi] at this
   ·intro h i hi
    rw[Jn hi];exact h _ (Q1 hi)
  rw[e,hK];unfold qD;cases v.fRow.all right<;>simp
def uk (cols:Int)(srt:List Int)(i:Nat):Bool:=match srt[i]? with
 |some n=>decide (0<=n)&&(decide (n<cols)&& !(srt.take i).contains n)
 |none=>true
def si (cols:Int)(l:List aa)(i:Nat):Bool:=match l[i]? with
 |some v=>qD cols v&& !((l.take i).map (·.fId)).contains v.fId
 |none=>true
def sj (cols:Int)(srt:List Int):Bool:=(Qd srt.length).all (uk cols srt)
def qp (cols:Int)(l:List aa):Bool:=(Qd l.length).all (si cols l)
def u4 (cols:Int)(srt:List Int)(l:List aa):Int:=
 if cols<1\/8<cols then 1 else if sj cols srt then (if 4096<l.length then 81 else if qp cols l then 0 else 81) else 1
def lw (l:List aa)(i:Nat):List aF:=((l.take i).map (·.fId)).reverse
theorem Gp {l:List aF}{x:aF}(h:l.length<=1048576):decide (1<iA (x::l) x)=l.contains x:=by
 unfold iA;have J:(x::l).count x=l.count x+1:=by simp
 have W:l.count x<=l.length:=List.count_le_length;rw[J,ak (by omega)]
 by_cases hm:x∈l
 ·have:0<l.count x:=List.count_pos_iff.2 hm
  simp[hm];omega
 ·have:l.count x=0:=List.count_eq_zero.2 hm
  simp[hm,this]
theorem Ai {cols:Int}{l:List aa}(hl:l.length<=4096)(hv:∀v∈l,oW v):
  aq (λs:(Int×List aF)=>cJ cols l s.1 s.2) (0,([]:List aF))=if qp cols l then some 0 else some 81:=by
 have W:∀(i:Nat) (hi:i<l.length) b,eT (i:Int) (lw l i) l[i] b=if b then some (.inr 81) else some (.inl (((i+1:Nat):Int),lw l (i+1))):=by
  intro i hi b;unfold eT;cases b
  ·rw[if_neg (by simp),if_neg (by simp),ak (by omega)]
   have:lw l (i+1)=l[i].fId::lw l i:=by
    unfold lw;rw[ja hi,Qf,List.reverse_append];rfl
   rw[this];rfl
  ·rw[if_pos rfl,if_pos rfl];rfl
 have J:∀(i:Nat) (hi:i<l.length),cJ cols l (i:Int) (lw l i)=if si cols l i then some (.inl (((i+1:Nat):Int),lw l (i+1))) else some (.inr 81):=by
  intro i hi;have Z:=(hv _ (Q1 hi)).len;simp only[cJ];rw[if_pos (by simpa using hi),aC hi,zh,En Z,zh,W i hi,W i hi,Gp (by simp[lw];omega)];unfold si;rw[Jn hi];dsimp only
  have hc:(lw l i).contains l[i].fId=((l.take i).map (·.fId)).contains l[i].fId:=by
   unfold lw;rw[Bool.eq_iff_iff];simp
  rw[hc];rcases Z3 (((l.take i).map (·.fId)).contains l[i].fId) with hq|hq<;>rcases Z3 (qD cols l[i]) with hz|hz<;>simp only[hq,hz]<;>rfl
 refine Ag (λi=>((i:Int),lw l i)) l.length (si cols l) 81 (some 0) rfl (λi hi h=>?_) (λi hi h=>?_) ?_
 ·show cJ cols l (i:Int) (lw l i)=_
  rw[J i hi,h];rfl
 ·show cJ cols l (i:Int) (lw l i)=_
  rw[J i hi,h];rfl
 ·simp only[cJ]
  rw[if_neg (by simp)];rfl
theorem sk {cols:Int}{srt:List Int}{l:List aa}(hs:srt.length<=1048576)(hv:∀v∈l,oW v):fy cols srt l=some (u4 cols srt l):=by
 have h2:dM cols l=some (if 4096<l.length then 81 else if qp cols l then 0 else 81):=by
  unfold dM
  by_cases h:4096<l.length
  ·rw[if_pos (by simp;omega),if_pos h]
  ·rw[if_neg (by simp;omega),if_neg h,Ai (by omega) hv]
   cases qp cols l<;>rfl
 have hj:∀i:Nat,i<srt.length->∀b,dN (i:Int) b=if b then some (.inr 1) else some (.inl ((i+1:Nat):Int)):=by
  intro i hi b;unfold dN;cases b
  ·rw[if_neg (by simp),if_neg (by simp),ak (by omega)];rfl
  ·rfl
 have h1:∀b,eV cols srt l b=if b then some 1 else if sj cols srt then dM cols l else some 1:=by
  intro b;unfold eV;cases b
  ·rw [if_neg (by simp),if_neg (by simp)]
   have hb:∀(i:Nat) (hi:i<srt.length),eU cols srt l (i:Int)=if uk cols srt i then some (.inl ((i+1:Nat):Int)) else some (.inr 1):=by
    intro i hi;simp only[eU];rw[if_pos (by simpa using hi),aC hi,zh]
    have a0:sub srt 0 (i:Int)=some (srt.take i):=by
     have:=d4 (xs:=srt) (lo:=0) (hi:=i) (by omega) (by omega);simpa using this
    rw[a0,zh,Ah (by simp;omega),zh];simp only[hj i hi];unfold uk;rw[Jn hi];dsimp only
    by_cases q1:srt[i]<0
    ·have J: ¬ 0<=srt[i]:=by omega
     simp[q1,J]
    ·by_cases q2:cols<=srt[i]
     ·have Z: ¬ srt[i]<cols:=by omega
      simp[q1,q2,Z]
     ·have Z:srt[i]<cols:=by omega
      have J:0<=srt[i]:=by omega
      rw[if_neg (by simp[q1]),if_neg (by simp[q2])];rcases Z3 ((srt.take i).contains srt[i]) with hq|hq<;>simp only[hq,decide_eq_true Z,decide_eq_true J]<;>rfl
   refine Ag (λi=>(i:Int)) srt.length (uk cols srt) 1 (dM cols l) rfl (λi hi W=>?_) (λi hi W=>?_) ?_
   ·rw[hb i hi,W];rfl
   ·rw[hb i hi,W];rfl
   ·simp only[eU]
    rw[if_neg (by simp)]
  ·rfl
 unfold fy u4;simp only[h1,h2]
 by_cases q1:cols<1
 ·simp[q1]
 ·by_cases q2:8<cols
  ·simp[q1,q2]
  ·simp only[q1,q2,decide_false,Qx,if_false,or_self]
   cases sj cols srt<;>simp
set_option linter.unusedVariables false
set_option linter.unusedSimpArgs false
structure nE (cols:Int)(srt:List Int)(l:List aa):Prop where
 co:1<=cols/\cols<=8
 so:sj cols srt=true
 le:l.length<=4096
 ro:qp cols l=true
theorem Oe {cols:Int}{srt:List Int}{l:List aa}:u4 cols srt l=0↔nE cols srt l:=by
 unfold u4;constructor
 ·intro h
  by_cases c1:cols<1\/8<cols
  ·rw[if_pos c1] at h;cases h
  ·rw[if_neg c1] at h
   cases c2:sj cols srt with
   |false=>rw[c2] at h;cases h
   | true=>
    rw[c2,if_pos rfl] at h
    by_cases c3:4096<l.length
    ·rw[if_pos c3] at h;cases h
    ·rw[if_neg c3] at h
     cases c4:qp cols l with
     |false=>rw[c4] at h;cases h
     |true=>exact⟨by omega,c2,by omega,c4⟩
 ·intro h
  have W:=h.co;have J:=h.le;rw[if_neg (by omega),h.so,if_pos rfl,if_neg (by omega),h.ro,if_pos rfl]
theorem nE.ver {cols:Int}{srt:List Int}{l:List aa}(h:nE cols srt l):∀v∈l,qD cols v=true:=by
 intro v W;obtain⟨i,hi,rfl⟩:=Qv W;have J:=Qr.1 h.ro i (Zt.2 hi);unfold si at J;rw[Jn hi] at J;simp only[Qm] at J;exact J.1
theorem qq {cols:Int}{v:aa}(hv:oW v)(h:qD cols v=true):(∀x∈v.fRow,Rgt x)/\(v.fRow.length:Int)=cols/\1<=v.fId.fEpoch/\v.fId.fEpoch<=9223372036854775807/\(v.fDeleted=0\/v.fId.fEpoch<v.fDeleted/\v.fDeleted<=9223372036854775807):=by
 unfold qD at h;simp only[Qm,decide_eq_true_eq,Qn,Zc,Ze,decide_eq_false_iff_not,Qr] at h;obtain⟨h1,h2,Z,h4,J⟩:=h;refine⟨λx W=>Rgt.of (hv.row x W) (h1 x W),h2,Z,h4,?_⟩;rcases J with J|J
 ·left;simpa using J
 ·right;omega
set_option linter.unusedVariables false
set_option linter.unusedSimpArgs false
structure CV (cols:Int)(l:List aa):Prop where
 co:1<=cols/\cols<=8
 le:l.length<=4096
 ok:∀v∈l,oW v/\qD cols v=true
theorem CV.of {cols:Int}{srt:List Int}{l:List aa}(h:nE cols srt l)(W:∀v∈l,oW v):CV cols l:=⟨h.co,h.le,λv J=>⟨W v J,h.ver v J⟩⟩
theorem CV.mem {cols:Int}{l J:List aa}(h:CV cols l)(Z:J.length=l.length)(hm:∀v∈J,v∈l):CV cols J:=⟨h.co,by rw[Z];exact h.le,λv W=>h.ok v (hm v W)⟩
def fT (cols:Int)(n:Nat)(v:aa):Ap:=
 if (n:Int)<cols then v.fRow.getD n jX else if (n:Int)=cols then gU v.fId.fEpoch else if (n:Int)=cols+1 then gU v.fId.fNumber else gU v.fDeleted
def jZ (cols:Int)(n:Nat)(l:List aa):List Ap:=l.map (fT cols n)
theorem BA {cols:Int}{l:List aa}(h:CV cols l){v:aa}(hv:v∈l)(n:Nat):Rgt (fT cols n v):=by
 obtain⟨W,h2⟩:=h.ok v hv;obtain⟨Z,h4,h5,h6,h7⟩:=qq W h2;unfold fT;split
 ·have J:n<v.fRow.length:=by omega
  have:v.fRow.getD n jX=v.fRow[n]:=by simp[J]
  rw[this];exact Z _ (Q1 J)
 ·have hd:=W.de
  have J:=W.nu;split
  ·exact Rgt.int _ (by unfold cL;omega)
  ·split
   ·exact Rgt.int _ (by unfold cL;omega)
   ·exact Rgt.int _ (by unfold cL;omega)
theorem H4 {cols:Int}{n:Nat}{l:List aa}{f:List Ap×Int->Option ((List Ap×Int)⊕List Ap)}(W:l.length<=4096)
  (step:∀(i:Nat) (h:i<l.length) (x:List Ap),x.length=i->f (x,(i:Int))=some (.inl (x++[fT cols n l[i]],((i+1:Nat):Int)))) (J:∀x,f (x,(l.length:Int))=some (.inr x)):aq f ([],0)=some (jZ cols n l):=by
 refine i8 (λi=>((l.take i).map (fT cols n),(i:Int))) l.length (by simp) (λi hi=>?_) ?_
 ·show f ((l.take i).map (fT cols n),(i:Int))=_
  rw[step i hi _ (by simp;omega),ja hi,Qf]
  rfl
 ·show f ((l.take l.length).map (fT cols n),(l.length:Int))=_
  rw[J,Qb];rfl
theorem Eo {cols:Int}{n:Nat}{l:List aa}(h:CV cols l)(hn:(n:Int)<cols+3):jD cols (n:Int) l=some (jZ cols n l):=by
 have a0:=h.le;have a1:=h.co;unfold jD;refine H4 a0 (λi hi x hx=>?_) (λx=>?_)
 ·obtain⟨J,h2⟩:=h.ok _ (Q1 hi)
  obtain⟨h3,h4,h5,h6,h7⟩:=qq J h2;have hd:=J.de;have a2:=J.nu;simp only[lH,dK,zh];have Z:∀z,fI (i:Int) z=some (.inl (z,((i+1:Nat):Int))):=λz=>by unfold fI;rw[ak (by omega)];rfl
  have ha:∀y:Ap,app 3518437208883 x [y]=some (x++[y]):=λy=>aQ (by simp;omega);rw[if_pos (by simpa using hi),aC hi,zh,ak (n:=(n:Int) - cols) (by omega)];simp only[ha,zh,Z];unfold fT
  by_cases c1:(n:Int)=cols
  ·rw[if_pos (by simp;omega),if_neg (by omega),if_pos c1,ak (by omega)]
  ·rw[if_neg (by simp;omega)]
   by_cases c2:(n:Int)=cols+1
   ·rw[if_pos (by simp;omega),if_neg (by omega),if_neg c1,if_pos c2,ak (by omega)]
   ·rw[if_neg (by simp;omega)]
    by_cases c3:(n:Int)=cols+2
    ·rw[if_pos (by simp;omega),if_neg (by omega),if_neg c1,if_neg c2,ak (by omega)]
    ·have W:n<l[i].fRow.length:=by omega
     rw[if_neg (by simp;omega),if_pos (by omega),aC W,zh];simp[W]
 ·simp only[lH]
  rw[if_neg (by simp)];rfl
def dZ (l:List Ap)(i:Nat):List Ap:=(l.drop (64*i)).take 64
def iF (l:List Ap):Nat:=(l.length+63)/64
def iq (l:List Ap):List (List Ap):=(Qd (iF l)).map (dZ l)
theorem oX (i:Nat):Qd (i+1)=Qd i++[i]:=List.range_succ
theorem Gq {l:List Ap}{i:Nat}(hi:i<iF l)(J:l.length<=4096):(l.take (min l.length (64*i+64))).drop (64*i)=dZ l i:=by
 unfold dZ iF at*;rw[List.drop_take];rcases Nat.le_total l.length (64*i+64) with h|h
 ·rw[Nat.min_eq_left h,Q3 (by simp),Q3 (by simp;omega)]
 ·rw[Nat.min_eq_right h]
  congr 1;omega
theorem Gr {l:List Ap}(W:l.length<=4096):gw l 64=some (iq l):=by
 unfold gw;rw[if_neg (by simp)];unfold gF fg fz
 have:aq (λs:Int×List (List Ap)=>cg (λ(s:List (List Ap)) x=>some (s++[x],true)) l 64 s.1 s.2) (0,[])=some (iq l):=by
  refine i8 (λi=>(((64*i:Nat):Int),(Qd i).map (dZ l))) (iF l) (by simp) (λi hi=>?_) ?_
  ·have a0:64*i<l.length:=by unfold iF at hi;omega
   simp only[cg]
   have J:sub l ((64*i:Nat):Int) (l.length:Int)=some (l.drop (64*i)):=by
    have:=d4 (xs:=l) (lo:=64*i) (hi:=l.length) (by omega) (Qj _);rwa[Qb] at this
   have h:sub l ((64*i:Nat):Int) (Qe.wrap (((64*i:Nat):Int)+(if ((l.drop (64*i)).length:Int)<64 then ((l.drop (64*i)).length:Int) else 64)))=some (dZ l i):=by
    have e:Qe.wrap (((64*i:Nat):Int)+(if ((l.drop (64*i)).length:Int)<64 then ((l.drop (64*i)).length:Int) else 64))=((min l.length (64*i+64):Nat):Int):=by
     rw[Zx];split<;>rw[ak (by omega)]<;>omega
    rw[e,d4 (by omega) (by omega),Gq hi W]
   rw[if_pos (by simp;omega),J,zh,h,zh,zh,if_neg (by simp),ak (by omega),oX,Qf];congr 2
  ·have Z:l.length<=64*iF l:=by unfold iF;omega
   simp only[cg];rw[if_neg (by simp;omega)];rfl
 rw[this];rfl
def wX (kind:Int)(p:List Ap):Int:=if (enc kind p).2=0 then kind else -1
noncomputable def gV (kind:Int) (p:List Ap):List Int:=(wr (wX kind p) p).1
noncomputable def oY (kind:Int) (l:List Ap):List Int:=((iq l).map (gV kind)).flatten
theorem wY {kind:Int}{p:List Ap}(h:∀v∈p,VOK v):Byt (gV kind p)/\(gV kind p).length<=100000:=by
 unfold gV
 by_cases hw:(wr (wX kind p) p).2=0
 ·exact zY h hw
 ·have:(wr (wX kind p) p).1=[]:=by
   unfold wr at hw ⊢;split
   ·rfl
   ·rename_i W
    rw[if_neg W] at hw;split
    ·rfl
    ·rename_i J;rw[if_neg J] at hw;exact absurd rfl hw
  rw[this];exact⟨λc Z=>by simp at Z,by simp⟩
theorem sm {l:List Ap}{i:Nat}{v:Ap}(h:v∈dZ l i):v∈l:=List.mem_of_mem_drop (List.mem_of_mem_take h)
theorem Aj (l:List Ap)(i:Nat):(dZ l i).length<=64:=by unfold dZ;simp;omega
theorem xS {kind:Int}{l:List Ap}(h:∀v∈l,VOK v):∀k,Byt ((((Qd k).map (dZ l)).map (gV kind)).flatten)/\((((Qd k).map (dZ l)).map (gV kind)).flatten).length<=100000*k:=by
 intro k
 induction k with
 |zero=>exact⟨λc J=>by simp at J,by simp⟩
 |succ k ih=>
  have Z:=wY (kind:=kind) (p:=dZ l k) (λv W=>h v (sm W));rw[oX,Qf,Qf,Zk];simp only[Xa,List.map_nil,List.flatten_singleton];refine⟨λc J=>?_,by rw[zw];omega⟩;rcases Qh.1 J with J|J
  ·exact ih.1 c J
  ·exact Z.1 c J
theorem u5 {kind:Int}{l:List Ap}(h:∀v∈l,VOK v)(J:l.length<=4096):Byt (oY kind l)/\(oY kind l).length<=6400000:=by
 have:=xS (kind:=kind) h (iF l);refine⟨this.1,Nat.le_trans this.2 ?_⟩;unfold iF;omega
theorem Ep {kind:Int}{l:List Ap}(h:∀v∈l,VOK v)(hl:l.length<=4096):jE kind l=some (oY kind l):=by
 have a0:∀(out:List Int) (p:List Ap),(∀v∈p,VOK v)->p.length<=64->out.length<=10000000->eh kind out p=some (out++gV kind p,true):=by
  intro out p W a1 ho;have J:=(wY (kind:=kind) W).2
  have Z:∀k,(wr k p).1.length<=100000->fJ out p k=some (out++(wr k p).1,true):=λk hk=>by
   unfold fJ;rw[Ge k W (by omega),zh,aQ (by omega),zh]
  simp only[eh,oP];rw[ql kind W (by omega),zh,zh];unfold gV wX at*
  by_cases hc:(enc kind p).2=0
  ·rw[if_pos hc] at J ⊢
   rw[if_neg (by simp[hc]),Z _ J]
  ·rw[if_neg hc] at J ⊢
   rw[if_pos (by simp[hc]),Z _ J]
 unfold jE;rw[Gr hl,zh]
 have key:∀(k i:Nat),i+k=iF l->eK (λ(s:List Int) (x:List Ap)=>eh kind s x) ((((Qd i).map (dZ l)).map (gV kind)).flatten) ((List.range' i k).map (dZ l))=some (oY kind l,true):=by
  intro k
  induction k with
  |zero=>
   intro i hi;obtain rfl:i=iF l:=by omega
   rfl
  | succ k ih=>
   intro i hi;rw[List.range'_succ,Xa];have J:=xS (kind:=kind) h i;have hi':i<64:=by unfold iF at hi;omega
   simp only[eK];rw[a0 _ _ (λv hv=>h v (sm hv)) (Aj l i) (by omega),zh,if_pos rfl]
   have e:(((Qd i).map (dZ l)).map (gV kind)).flatten++gV kind (dZ l i)=(((Qd (i+1)).map (dZ l)).map (gV kind)).flatten:=by
    rw[oX,Qf,Qf,Zk];simp
   rw[e];exact ih (i+1) (by omega)
 have:=key (iF l) 0 (by omega);rw[←List.range_eq_range'] at this;have h0:(((Qd 0).map (dZ l)).map (gV kind)).flatten=[]:=rfl;rw[h0] at this;unfold iq;rw[this,zh,if_pos rfl]
set_option linter.unusedVariables false
set_option linter.unusedSimpArgs false
theorem wZ {b:List Int}{n:Int}(h:b.length<=1000000000):il b n=some (b++be4 n):=by
 unfold il;have J:aP .i64 n 24=n/2^24:=CH (k:=24) (by decide);have e2:aP .i64 n 16=n/2^16:=CH (k:=16) (by decide);have W:aP .i64 n 8=n/2^8:=CH (k:=8) (by decide);rw[aQ (by simp;omega),zh,J,e2,W,bZ,bZ,bZ,bZ]
 rfl
def oZ (cols:Int)(srt:List Int):List Int:=[72,65,89,49,X5.wrap cols,X5.wrap (srt.length:Int)]
def nmB (cols:Int)(srt:List Int)(m:Int):List Int:=oZ cols srt++srt.map X5.wrap++be4 m
def kG (cols:Int)(kinds:List Int)(n:Nat):Int:=if (n:Int)<cols/\n<kinds.length then kinds.getD n 0 else -1
noncomputable def kU (cols:Int) (kinds:List Int) (T:List aa) (n:Nat):List Int:=
 be4 ((oY (kG cols kinds n) (jZ cols n T)).length:Int)++oY (kG cols kinds n) (jZ cols n T)
noncomputable def fF (cols:Int) (kinds:List Int) (T:List aa) (k:Nat):List Int:=((Qd k).map (kU cols kinds T)).flatten
noncomputable def iG (cols:Int) (srt kinds:List Int) (T:List aa):List Int:=nmB cols srt (T.length:Int)++fF cols kinds T (cols+3).toNat
noncomputable def nF (cols:Int) (srt kinds:List Int) (T:List aa):List Int:=iG cols srt kinds T++be4 (mq (iG cols srt kinds T))
theorem xT (cols:Int)(kinds:List Int)(T:List aa)(k:Nat):fF cols kinds T (k+1)=fF cols kinds T k++kU cols kinds T k:=by
 unfold fF;rw[oX,Qf,Zk];simp
theorem w5 {cols:Int}{n:Nat}{T:List aa}(h:CV cols T):(∀v∈jZ cols n T,VOK v)/\(jZ cols n T).length<=4096:=by
 refine⟨λv J=>?_,by unfold jZ;simpa using h.le⟩;obtain⟨x,W,rfl⟩:=Qz.1 J;exact(BA h W n).ok
theorem Ak (n:Int):0<=X5.wrap n/\X5.wrap n<256:=by rw[bZ];omega
theorem rp {a b:List Int}(W:Byt a)(J:Byt b):Byt (a++b):=λc h=>by
 rcases Qh.1 h with h|h
 ·exact W c h
 ·exact J c h
theorem BB {cols:Int}{kinds:List Int}{T:List aa}(h:CV cols T)(n:Nat):Byt (kU cols kinds T n)/\(kU cols kinds T n).length<=6400004:=by
 obtain⟨Z,W⟩:=w5 (n:=n) h;obtain⟨J,h4⟩:=u5 (kind:=kG cols kinds n) Z W;unfold kU;exact⟨rp (wU _) J,by rw[zw,et];omega⟩
theorem u6 {cols:Int}{kinds:List Int}{T:List aa}(h:CV cols T):∀k,Byt (fF cols kinds T k)/\(fF cols kinds T k).length<=6400004*k:=by
 intro k
 induction k with
 |zero=>exact⟨λc W=>by simp[fF] at W,by simp[fF]⟩
 |succ k ih=>
  have J:=BB (kinds:=kinds) h k;rw[xT];exact⟨rp ih.1 J.1,by rw[zw];omega⟩
theorem Jo (cols:Int)(srt:List Int)(m:Int):Byt (nmB cols srt m):=by
 unfold nmB oZ;refine rp (rp ?_ ?_) (wU m)
 ·intro c h
  have W:=Ak cols;have J:=Ak (srt.length:Int);simp only[Z4,List.not_mem_nil,or_false] at h;rcases h with rfl|rfl|rfl|rfl|rfl|rfl<;>omega
 ·intro c h
  obtain⟨x,_,rfl⟩:=Qz.1 h;exact Ak x
theorem Er (cols:Int)(srt:List Int)(m:Int):(nmB cols srt m).length=10+srt.length:=by
 unfold nmB oZ;simp[et];omega
theorem BD {cols:Int}{srt kinds:List Int}{T:List aa}(h:CV cols T)(hs:srt.length<=1048576):Byt (iG cols srt kinds T)/\(iG cols srt kinds T).length<=100000000:=by
 have W:=u6 (kinds:=kinds) h (cols+3).toNat;have Z:=h.co;have J:=Er cols srt (T.length:Int);unfold iG;refine⟨rp (Jo _ _ _) W.1,?_⟩;rw[zw,J];have:(cols+3).toNat<=11:=by omega
 have:6400004*(cols+3).toNat<=6400004*11:=Zd _ this;omega
theorem H5 {cols:Int}{srt kinds:List Int}{T:List aa}(h:CV cols T)(hs:srt.length<=1048576)(hk:kinds.length<=1048576):
  aq (λs:(List Int×Int)=>f9 cols kinds T s.1 s.2) (nmB cols srt (T.length:Int),0)=some (nF cols srt kinds T,0):=by
 have a3:=h.co;have a6:=BD (srt:=srt) (kinds:=kinds) h hs;have a1:=Er cols srt (T.length:Int);refine i8 (λn=>(nmB cols srt (T.length:Int)++fF cols kinds T n,(n:Int))) (cols+3).toNat (by simp[fF]) (λn hn=>?_) ?_
 ·have b0:=u6 (kinds:=kinds) h n
  have b1:n<11:=by omega
  have a9:(nmB cols srt (T.length:Int)++fF cols kinds T n).length<=200000000:=by rw[zw,a1];omega
  obtain⟨hv,hl⟩:=w5 (n:=n) h;obtain⟨a4,a5⟩:=u5 (kind:=kG cols kinds n) hv hl
  have Z:f8 cols T (nmB cols srt (T.length:Int)++fF cols kinds T n) (n:Int) (kG cols kinds n)=some (.inl (nmB cols srt (T.length:Int)++fF cols kinds T (n+1),((n+1:Nat):Int))):=by
   unfold f8;rw[Eo h (by omega),zh,Ep hv hl,zh,wZ (by omega),zh,aQ (by rw[zw,et];omega),zh,ak (by omega),xT];unfold kU;simp only[Q5]
   rfl
  have a2:∀b,(b=true↔n<kinds.length)->(n:Int)<cols->eO cols kinds T (nmB cols srt (T.length:Int)++fF cols kinds T n) (n:Int) b=some (.inl (nmB cols srt (T.length:Int)++fF cols kinds T (n+1),((n+1:Nat):Int))):=by
   intro b hb J;unfold eO;cases b with
   |true=>
    have a0:=hb.1 rfl;rw[if_pos rfl,aC a0,zh];have:kG cols kinds n=kinds[n]:=by unfold kG;rw[if_pos ⟨J,a0⟩];simp[a0]
    rw[←this,Z]
   | false=>
    rw[if_neg (by simp)]
    have:kG cols kinds n= -1:=by
     unfold kG;rw[if_neg (λW=>by have:=hb.2 W.2;cases this)]
    rw[←this,Z]
  simp only[f9];rw[ak (by omega),if_pos (by simp;omega)]
  by_cases J:(n:Int)<cols
  ·rw[if_pos (by simpa using J)]
   exact a2 _ (by simp) J
  ·rw[if_neg (by simpa using J)]
   unfold eO;rw[if_neg (by simp)];have:kG cols kinds n= -1:=by unfold kG;rw[if_neg (λW=>J W.1)]
   rw[←this,Z]
 ·simp only[f9]
  rw[ak (by omega),if_neg (by simp;omega)];show(im (iG cols srt kinds T)).map Sum.inr=_;unfold im;obtain⟨h1,h2⟩:=zV (b:=iG cols srt kinds T) (by omega);unfold U32 at h2;rw[h1,zh,ak (by omega),wZ (by omega)]
  rfl
theorem CR {cols:Int}{srt kinds:List Int}{l:List aa}(Z:srt.length<=1048576)(hk:kinds.length<=1048576)(W:∀v∈l,oW v):
  (u4 cols srt l≠0/\gI cols srt kinds l=some ([],u4 cols srt l))\/
  (nE cols srt l/\∃T,Stb (qlt srt) l T/\CV cols T/\gI cols srt kinds l=some (nF cols srt kinds T,0)):=by
 unfold gI;rw[sk Z W,zh]
 by_cases hr:u4 cols srt l=0
 ·right
  have hA:=Oe.1 hr;have a1:=hA.le;have a0:Rok l:=λv J=>(W v J).len;obtain⟨T',h1,h⟩:=tK (cs:=srt) (xs:=l) Z (by omega) a0;have hT:CV cols T':=(CV.of hA W).mem (h.len (fN srt)) (λv J=>(h.mem (fN srt)).1 J);have a2:=h.len (fN srt);refine⟨hA,T',h,hT,?_⟩;rw[if_neg (by simp[hr]),h1,zh,aQ (by simp),zh];refine(i8 (λi=>(oZ cols srt++(srt.take i).map X5.wrap,(i:Int))) srt.length (by simp[oZ]) (λi hi=>?_) (b:=io cols kinds T' (oZ cols srt++srt.map X5.wrap)) ?_).trans ?_
  ·simp only[ip]
   rw[if_pos (by simpa using hi),aC hi,zh,aQ (by simp[oZ];omega),zh,ak (by omega),ja hi,Qf];simp only[Q5]
   rfl
  ·simp only[ip]
   rw[if_neg (by simp),Qb]
  ·unfold io
   rw[wZ (by simp[oZ];omega),zh];exact H5 hT Z hk
 ·left
  exact⟨hr,by rw[if_pos (by simpa using hr)]⟩
set_option linter.unusedVariables false
set_option linter.unusedSimpArgs false
theorem orS {a b:Nat}(k:Nat)(W:b<2^k)(h:2^k*a+b<4294967296):bOr .i64 ((2^k*a:Nat):Int) (b:Int)=((2^k*a+b:Nat):Int):=by
 unfold bOr
 have Z:(Qk Qe.bits ((2^k*a:Nat):Int)).toNat=2^k*a:=by
  show(Qk 64 ((2^k*a:Nat):Int)).toNat=2^k*a;rw[Z5];omega
 have J:(Qk Qe.bits (b:Int)).toNat=b:=by
  show(Qk 64 (b:Int)).toNat=b;rw[Z5];omega
 rw[BitVec.toNat_or,Z,J,←Qw W,ak (by omega)]
theorem shI {a:Nat}(k:Nat)(J:k<=24)(Z:a<256):eu .i64 (a:Int) (k:Int)=((2^k*a:Nat):Int):=by
 unfold eu;have e:min ((k:Int)).toNat Qe.bits=k:=by simp[IntKind.bits];omega
 have h:2^k<=2^24:=Qy (by decide) J;have W:2^k*a<=2^24*255:=Z9 h (by omega);rw[e,show(a:Int)*2^k=((2^k*a:Nat):Int) by rw[Nat.mul_comm];push_cast;rfl,ak (by omega)]
theorem CT {a b c d:Int}{t:List Int}(ha:0<=a/\a<256)(Z:0<=b/\b<256)(hc:0<=c/\c<256)(hd:0<=d/\d<256):dv (a::b::c::d::t)=some (dE [a,b,c,d]):=by
 have e0:idx (a::b::c::d::t) 0=some a:=aC (xs:=a::b::c::d::t) (i:=0) (by simp);have e1:idx (a::b::c::d::t) 1=some b:=aC (xs:=a::b::c::d::t) (i:=1) (by simp);have e2:idx (a::b::c::d::t) 2=some c:=aC (xs:=a::b::c::d::t) (i:=2) (by simp);have e3:idx (a::b::c::d::t) 3=some d:=aC (xs:=a::b::c::d::t) (i:=3) (by simp);unfold dv;rw[e0,zh,e1,zh,e2,zh,e3,zh,ak (by omega),ak (by omega),ak (by omega),ak (by omega)];obtain⟨a,rfl⟩:=Q7 ha.1;obtain⟨b,rfl⟩:=Q7 Z.1;obtain⟨c,rfl⟩:=Q7 hc.1;obtain⟨d,rfl⟩:=Q7 hd.1;have J:=shI (a:=a) 24 (by omega) (by omega);have W:=shI (a:=b) 16 (by omega) (by omega)
 have h:=shI (a:=c) 8 (by omega) (by omega);rw[show((24:Nat):Int)=24 from rfl] at J;rw[show((16:Nat):Int)=16 from rfl] at W;rw[show((8:Nat):Int)=8 from rfl] at h;rw[J,W,h,orS 24 (by omega) (by omega),show 2^24*a+2^16*b=2^16*(2^8*a+b) by omega,orS 16 (by omega) (by omega),show 2^16*(2^8*a+b)+2^8*c=2^8*(2^8*(2^8*a+b)+c) by omega,orS 8 (by omega) (by omega)];unfold dE;simp only[Zz,List.foldl_nil];congr 1;omega
theorem sn {n:Int}(h:U32 n)(t:List Int):dv (be4 n++t)=some n:=by
 have:=Gh h;unfold be4 at*;rw[Qi,Qi,Qi,Qi,CT (by omega) (by omega) (by omega) (by omega),this]
theorem Es {kind:Int}{p:List Ap}(h:∀v∈p,Rgt v)(W:p≠[])(hl:p.length<=64):(wr (wX kind p) p).2=0:=by
 have key:∀k,(enc (ke k p) p).2=0->(wr k p).2=0:=λk hk=>by
  unfold wr;rw[if_neg W,if_neg (by simpa using hk)]
 apply key;unfold wX;split
 ·rename_i J
  unfold ke;rw[if_neg]
  ·exact J
  ·rintro rfl
   unfold enc at J;rw[if_pos (by omega)] at J;cases J
 ·unfold ke
  rw[if_pos rfl,O8.1];unfold enc;have Z:p.all right=true:=Qr.2 λv hv=>(h v hv).right;rw[if_neg (by omega),if_neg (by omega),if_neg (by simp[Z]),if_neg (λhh=>by omega),if_neg W]
theorem Gs {kind:Int}{p:List Ap}(h:∀v∈p,Rgt v)(W:p≠[])(hl:p.length<=64){t:List Int}(Z:Byt t)(a0:t.length<=900000000000):jR (gV kind p++t)=some (p,((gV kind p).length:Int),0):=by
 unfold gV;exact HZ (λv J=>(h v J).ok) (Es h W hl) Z a0
theorem H6 {kind:Int}{p:List Ap}(h:∀v∈p,Rgt v)(hp:p≠[])(Z:p.length<=64):0<(gV kind p).length:=by
 unfold gV;obtain⟨k,_,_,_,_,J,_⟩:=vM (λv W=>(h v W).ok) (Es (kind:=kind) h hp Z);rw[J];unfold kE;simp[et]
theorem xU {kind:Int}{l:List Ap}{i:Nat}(hi:i<iF l):(((iq l).drop i).map (gV kind)).flatten=gV kind (dZ l i)++(((iq l).drop (i+1)).map (gV kind)).flatten:=by
 have h:i<(iq l).length:=by unfold iq;simpa using hi
 rw[Q0 h];have:(iq l)[i]=dZ l i:=by simp[iq]
 rw[this];rfl
theorem Et {kind:Int}{l:List Ap}(h:∀v∈l,VOK v)(Z:l.length<=4096):∀k i:Nat,i+k=iF l->Byt ((((iq l).drop i).map (gV kind)).flatten)/\((((iq l).drop i).map (gV kind)).flatten).length<=100000*k:=by
 intro k
 induction k with
 |zero=>
  intro i hi;rw[Qa (by unfold iq;simp;omega)];exact⟨.nil,by simp⟩
 |succ k ih=>
  intro i hi;have W:=wY (kind:=kind) (p:=dZ l i) (λv J=>h v (sm J));have:=ih (i+1) (by omega);rw[xU (by omega)];exact⟨W.1.app this.1,by rw[zw];omega⟩
theorem Eu {kind:Int}{l:List Ap}(h:∀v∈l,Rgt v)(hl:l.length<=4096):hU (oY kind l) (l.length:Int)=some (l,true):=by
 unfold hU;have J:∀v∈l,VOK v:=λv J=>(h v J).ok;refine i8 (λi=>((((iq l).drop i).map (gV kind)).flatten,l.take (64*i))) (iF l) (by simp[oY]) (λi hi=>?_) ?_
 ·have a9:64*i<l.length:=by unfold iF at hi;omega
  have hp:∀v∈dZ l i,Rgt v:=λv J=>h v (sm J);have Z:=Aj l i;have W:(dZ l i).length=min 64 (l.length - 64*i):=by unfold dZ;simp
  have a0:dZ l i≠[]:=λe=>by rw[e] at W;simp at W;omega
  have a6:=H6 (kind:=kind) hp a0 Z;obtain⟨a3,a5⟩:=Et (kind:=kind) J hl (iF l - (i+1)) (i+1) (by omega);have a4:iF l<=64:=by unfold iF;omega
  have a1:(l.take (64*i)).length=64*i:=by simp;omega
  have ht:l.take (64*(i+1))=l.take (64*i)++dZ l i:=by unfold dZ;rw[←List.take_add];congr 1
  simp only[gO];rw[xU hi,if_pos (by simp;omega),Gs hp a0 Z a3 (by omega),zh,if_neg (by simp),a1,ak (by omega)]
  have hm:(((dZ l i).length:Int) != (if (l.length:Int) - ((64*i:Nat):Int)<64 then (l.length:Int) - ((64*i:Nat):Int) else 64))=false:=by
   rw[W];simp;split<;>omega
  dsimp only;rw[hm];unfold gN;rw[if_neg (by simp)];dsimp only;rw[aQ (by rw[a1];omega),zh,ga (by simp),zh,Qo,ht]
 ·have a2:l.length<=64*iF l:=by unfold iF;omega
  simp only[gO];rw[Qa (by unfold iq;simp),if_neg (by simp),Q3 a2];unfold jl;simp
def tkV (cols:Int)(n:Nat)(v:aa):aa:=
 ⟨⟨if cols<(n:Int) then v.fId.fEpoch else 0,if cols+1<(n:Int) then v.fId.fNumber else 0⟩,v.fRow.take n,if cols+2<(n:Int) then v.fDeleted else 0⟩
theorem H7 {cols:Int}(h:1<=cols)(v:aa):tkV cols 0 v=aa.zero:=by
 unfold tkV;rw[if_neg (by omega),if_neg (by omega),if_neg (by omega)]
 rfl
theorem Jp {cols:Int}{v:aa}(J:1<=cols)(h:(v.fRow.length:Int)=cols):tkV cols (cols+3).toNat v=v:=by
 unfold tkV;rw[if_pos (by omega),if_pos (by omega),if_pos (by omega),Q3 (by omega)]
theorem Jq {O:Type}{A B:List O}{x:O}{i:Nat}(h:A.length=i):(A++x::B)[i]? =some x:=by simp[←h]
theorem Gt {O:Type}{A B:List O}{x y:O}{i:Nat}(h:A.length=i):(A++x::B).set i y=A++y::B:=by simp[←h]
theorem Gu {cols:Int}{srt:List Int}{T:List aa}(h:CV cols T){n:Nat}(hn:(n:Int)<cols+3):
  gP ⟨cols,srt,[]⟩ (T.map (tkV cols n)) (n:Int) (jZ cols n T)=some (true,T.map (tkV cols (n+1))):=by
 have c5:=h.le;have b5:=h.co;have b7:(jZ cols n T).length=T.length:=by simp[jZ]
 unfold gP;refine i8 (λi=>((i:Int),(T.take i).map (tkV cols (n+1))++(T.drop i).map (tkV cols n))) T.length (by simp) (λi hi=>?_) ?_
 ·obtain⟨h1,h2⟩:=h.ok _ (Q1 hi)
  obtain⟨h3,h4,h5,h6,h7⟩:=qq h1 h2;have c4:=h1.de;have b6:=h1.nu;have b4:((T.take i).map (tkV cols (n+1))).length=i:=by simp;omega
  obtain⟨A,hA⟩:∃A,A=(T.take i).map (tkV cols (n+1)):=⟨_,rfl⟩
  obtain⟨B,hB⟩:∃B,B=(T.drop (i+1)).map (tkV cols n):=⟨_,rfl⟩
  have hS:(T.take i).map (tkV cols (n+1))++(T.drop i).map (tkV cols n)=A++tkV cols n T[i]::B:=by
   rw[Q0 hi,Xa,hA,hB]
  have b3:(T.take (i+1)).map (tkV cols (n+1))++(T.drop (i+1)).map (tkV cols n)=A++tkV cols (n+1) T[i]::B:=by
   rw[ja hi,Qf,hA,hB];simp
  have a4:A.length=i:=by rw[hA];exact b4
  have hx:(A++tkV cols n T[i]::B)[i]? =some (tkV cols n T[i]):=Jq a4;have a9:∀y,(A++tkV cols n T[i]::B).set i y=A++y::B:=λy=>Gt a4
  have hc:idx (jZ cols n T) (i:Int)=some (fT cols n T[i]):=by
   rw[aC (by omega)];simp[jZ]
  show dp ⟨cols,srt,[]⟩ (n:Int) (jZ cols n T) (i:Int) ((T.take i).map (tkV cols (n+1))++(T.drop i).map (tkV cols n))=some (.inl (((i+1:Nat):Int),(T.take (i+1)).map (tkV cols (n+1))++(T.drop (i+1)).map (tkV cols n)));rw[hS,b3];unfold dp;rw[if_pos (by simp;omega),hc,zh,nQ (by simp;omega),zh]
  have a6:∀z,cK (i:Int) z=some (.inl (((i+1:Nat):Int),z)):=λz=>by
   unfold cK;rw[ak (by omega)];rfl
  have a5:dm ⟨cols,srt,[]⟩ (n:Int) (i:Int) (A++tkV cols n T[i]::B) (fT cols n T[i]) i false=some (.inl (((i+1:Nat):Int),A++tkV cols (n+1) T[i]::B)):=by
   unfold dm;dsimp only;rw[if_neg (by simp),ak (by omega),hx];simp only[zh,a9,a6]
   by_cases c1:(n:Int)=cols
   ·rw[if_pos (by simp;omega)]
    have a3:fT cols n T[i]=gU T[i].fId.fEpoch:=by unfold fT;rw[if_neg (by omega),if_pos c1]
    rw[a3,cx];unfold tkV;dsimp only[gU];rw[Qg (by omega) (by omega),Q3 (by omega),Q3 (by omega)];have a0:(cols<(n:Int))=False:=eq_false (by omega);have Z:(cols<((n+1:Nat):Int))=True:=eq_true (by omega);have a1:(cols+1<(n:Int))=False:=eq_false (by omega);have b1:(cols+1<((n+1:Nat):Int))=False:=eq_false (by omega);have W:(cols+2<(n:Int))=False:=eq_false (by omega);have J:(cols+2<((n+1:Nat):Int))=False:=eq_false (by omega);simp only[a0,Z,a1,b1,W,J,if_true,if_false]
   ·rw [if_neg (by simp;omega)]
    by_cases c2:(n:Int)=cols+1
    ·rw[if_pos (by simp;omega)]
     have a3:fT cols n T[i]=gU T[i].fId.fNumber:=by unfold fT;rw[if_neg (by omega),if_neg c1,if_pos c2]
     rw[a3,wH];unfold tkV;dsimp only[gU];rw[if_neg (by simp;omega),Qg (by omega) (by omega),Q3 (by omega),Q3 (by omega)];have a0:(cols<(n:Int))=True:=eq_true (by omega);have Z:(cols<((n+1:Nat):Int))=True:=eq_true (by omega);have a1:(cols+1<(n:Int))=False:=eq_false (by omega);have b1:(cols+1<((n+1:Nat):Int))=True:=eq_true (by omega);have W:(cols+2<(n:Int))=False:=eq_false (by omega);have J:(cols+2<((n+1:Nat):Int))=False:=eq_false (by omega);simp only[a0,Z,a1,b1,W,J,if_true,if_false]
    ·rw[if_neg (by simp;omega)]
     by_cases c3:(n:Int)=cols+2
     ·rw[if_pos (by simp;omega)]
      have a3:fT cols n T[i]=gU T[i].fDeleted:=by unfold fT;rw[if_neg (by omega),if_neg c1,if_neg c2]
      rw[a3,cx];unfold tkV;dsimp only[gU];rw[Qg (by omega) (by omega),Q3 (by omega),Q3 (by omega)];have a0:(cols<(n:Int))=True:=eq_true (by omega);have Z:(cols<((n+1:Nat):Int))=True:=eq_true (by omega);have a1:(cols+1<(n:Int))=True:=eq_true (by omega);have b1:(cols+1<((n+1:Nat):Int))=True:=eq_true (by omega);have W:(cols+2<(n:Int))=False:=eq_false (by omega);have J:(cols+2<((n+1:Nat):Int))=True:=eq_true (by omega);simp only[a0,Z,a1,b1,W,J,if_true,if_false]
     ·rw[if_neg (by simp;omega)]
      have hr:n<T[i].fRow.length:=by omega
      have e:T[i].fRow.take (n+1)=T[i].fRow.take n++[fT cols n T[i]]:=by
       unfold fT;rw[ja hr,if_pos (by omega)];simp[hr]
      have c0:(tkV cols n T[i]).fRow.length<=1048576:=by
       have:=h1.len;unfold tkV;simp;omega
      rw[aQ (by simp;omega),zh]
      have:tkV cols (n+1) T[i]={ tkV cols n T[i] with fRow:=(tkV cols n T[i]).fRow++[fT cols n T[i]] }:=by
       unfold tkV;dsimp only;rw[e,if_neg (by omega),if_neg (by omega),if_neg (by omega),if_neg (by omega),if_neg (by omega),if_neg (by omega)]
      rw[this]
  by_cases hnc:cols<=(n:Int)
  ·rw[if_pos (by simpa using hnc)]
   have hk:(fT cols n T[i]).fKind=2/\0<=(fT cols n T[i]).fInt:=by
    unfold fT;rw[if_neg (by omega)];split
    ·exact⟨rfl,by simp only[gU];omega⟩
    ·split
     ·exact⟨rfl,by simp only[gU];omega⟩
     ·exact⟨rfl,by simp only[gU];omega⟩
   rw[if_neg (by simp[hk.1]),decide_eq_false (by omega)];exact a5
  ·rw[if_neg (by simpa using hnc)]
   exact a5
 ·show dp ⟨cols,srt,[]⟩ (n:Int) (jZ cols n T) (T.length:Int) ((T.take T.length).map (tkV cols (n+1))++(T.drop T.length).map (tkV cols n))=_
  unfold dp;rw[if_neg (by simp;omega),Qb,Zg];unfold gT;simp
set_option linter.unusedVariables false
set_option linter.unusedSimpArgs false
theorem nodup_iff {O:Type} [DecidableEq O](l:List O):l.Nodup↔ ∀(i:Nat) (h:i<l.length),(l.take i).contains l[i]=false:=by
 unfold List.Nodup;rw[Zo];constructor
 ·intro h i hi
  rw[List.contains_eq_mem,decide_eq_false_iff_not];intro J;obtain⟨k,W,Z⟩:=Qv J;have a1:k<i:=by simp at W;omega
  have:=h k i (by omega) hi a1;apply this;rw[←Z];simp
 ·intro h i j hi hj a0 e
  have:=h j hj;rw[List.contains_eq_mem,decide_eq_false_iff_not] at this;apply this;rw[←e];exact List.mem_of_getElem? (i:=i) (by rw[List.getElem?_take_of_lt a0,Jn hi])
theorem On {cols:Int}{srt:List Int}:sj cols srt=true↔(∀s∈srt,0<=s/\s<cols)/\srt.Nodup:=by
 unfold sj;rw[nodup_iff];simp only[Qr,Zt];constructor
 ·intro h
  have key:∀(i:Nat) (hi:i<srt.length),0<=srt[i]/\srt[i]<cols/\(srt.take i).contains srt[i]=false:=by
   intro i hi;have:=h i hi;unfold uk at this;rw[Jn hi] at this;simp only[Qm,decide_eq_true_eq,Qn] at this;exact this
  refine⟨λs W=>?_,λi hi=>(key i hi).2.2⟩;obtain⟨i,hi,rfl⟩:=Qv W;exact⟨(key i hi).1,(key i hi).2.1⟩
 ·rintro ⟨Z,J⟩ i hi
  unfold uk;rw[Jn hi];simp only[Qm,decide_eq_true_eq,Qn];have:=Z _ (Q1 hi);exact⟨this.1,this.2,J i hi⟩
theorem Oo {cols:Int}{l:List aa}:qp cols l=true↔(∀v∈l,qD cols v=true)/\(l.map (·.fId)).Nodup:=by
 unfold qp;rw[nodup_iff];simp only[Qr,Zt,Qt,Zv];constructor
 ·intro h
  have key:∀(i:Nat) (hi:i<l.length),qD cols l[i]=true/\((l.take i).map (·.fId)).contains l[i].fId=false:=by
   intro i hi;have:=h i hi;unfold si at this;rw[Jn hi] at this;simp only[Qm,Qn] at this;exact this
  refine⟨λs W=>?_,λi hi=>?_⟩
  ·obtain⟨i,hi,rfl⟩:=Qv W
   exact(key i hi).1
  ·have:=(key i hi).2
   rw[List.map_take] at this;exact this
 ·rintro ⟨Z,J⟩ i hi
  unfold si;rw[Jn hi];simp only[Qm,Qn];refine⟨Z _ (Q1 hi),?_⟩;have:=J i hi;rw[List.map_take];exact this
theorem Gv:∀(n:Nat) (l:List Int),l.Nodup->(∀s∈l,0<=s/\s<(n:Int))->l.length<=n:=by
 intro n
 induction n with
 |zero=>
  intro l _ h;cases l with
  |nil=>simp
  |cons a l=>have:=h a (by simp);omega
 | succ n ih=>
  intro l J h
  have h1:=ih (l.filter λx=> !decide (x=(n:Int))) (J.filter _) (λs hs=>by
   obtain⟨Z,W⟩:=List.mem_filter.1 hs;have:=h s Z;have:s≠(n:Int):=by simpa using W
   omega)
  have h2:l.count (n:Int)<=1:=List.nodup_iff_count.1 J _;have h3:=List.length_eq_countP_add_countP (p:=λx=> !decide (x=(n:Int))) (l:=l);rw[List.countP_eq_length_filter] at h3
  have h4:List.countP (λa=>decide ¬((!decide (a=(n:Int)))=true)) l=l.count (n:Int):=by
   unfold List.count;congr 1;funext a
   by_cases e:a=(n:Int)<;>simp[e]
  omega
theorem nE.srt_le {cols:Int}{srt:List Int}{l:List aa}(h:nE cols srt l):srt.length<=8:=by
 obtain⟨Z,J⟩:=On.1 h.so;have hc:=h.co;exact Gv 8 srt J λs W=>by have:=Z s W;omega
theorem nE.stb {cols:Int}{srt:List Int}{l T:List aa}(h:nE cols srt l)(hs:Stb (qlt srt) l T):nE cols srt T:=by
 have J:=hs.perm (fN srt);obtain⟨h1,W⟩:=Oo.1 h.ro;refine⟨h.co,h.so,by rw[J.length_eq];exact h.le,Oo.2 ⟨λv Z=>h1 v (J.mem_iff.1 Z),?_⟩⟩;exact(J.map _).nodup_iff.2 W
theorem nE.none {cols:Int}{srt:List Int}{l:List aa}(h:nE cols srt l):nE cols srt []:=⟨h.co,h.so,by simp,rfl⟩
theorem nE.id_srt {cols:Int}{srt:List Int}{l:List aa}(h:nE cols srt l):srt.map X5.wrap=srt:=by
 obtain⟨W,_⟩:=On.1 h.so;have Z:=h.co;rw[Zl (g:=id),List.map_id];intro s J;have:=W s J;rw[bZ,Qg (by omega) (by omega)];rfl
theorem Gw {cols:Int}{srt kinds:List Int}{T:List aa}(h:nE cols srt T)(hs:Byt (fF cols kinds T (cols+3).toNat)/\(fF cols kinds T (cols+3).toNat).length<=100000000):
  gM (iG cols srt kinds T)=some ((T.length:Int),fF cols kinds T (cols+3).toNat,true,⟨cols,srt,[]⟩):=by
 have a3:=h.co;have a6:=h.le;have a4:=h.srt_le;obtain⟨a1,a0⟩:=hs;obtain⟨S,hS⟩:∃S,S=fF cols kinds T (cols+3).toNat:=⟨_,rfl⟩
 rw[←hS] at a1 a0 ⊢
 have hb:iG cols srt kinds T=72::65::89::49::cols::(srt.length:Int)::(srt++(be4 (T.length:Int)++S)):=by
  unfold iG nmB oZ;rw[h.id_srt,bZ,bZ,Qg (by omega) (by omega),Qg (by omega) (by omega),←hS];simp
 rw[hb];obtain⟨p,J⟩:∃p,p=72::65::89::49::cols::(srt.length:Int)::(srt++(be4 (T.length:Int)++S)):=⟨_,rfl⟩
 rw[←J];have a5:p.length=6+(srt.length+(4+S.length)):=by rw[J];simp[et];omega
 have e1:sub p 0 4=some [72,65,89,49]:=by
  have:=d4 (xs:=p) (lo:=0) (hi:=4) (by omega) (by omega);rw[J] at this ⊢;exact this
 have i4:idx p 4=some cols:=by rw[J];exact aC (i:=4) (by simp)
 have i5:idx p 5=some (srt.length:Int):=by rw[J];exact aC (i:=5) (by simp)
 have e2:sub p 6 (p.length:Int)=some (srt++(be4 (T.length:Int)++S)):=by
  have:=ga (xs:=p) (k:=6) (by omega);rw[show((6:Nat):Int)=6 from rfl] at this;rw[this,J];rfl
 have a2:(srt++(be4 (T.length:Int)++S)).length=srt.length+(4+S.length):=by simp[et]
 have e3:sub (srt++(be4 (T.length:Int)++S)) 0 (srt.length:Int)=some srt:=by
  have:=d4 (xs:=srt++(be4 (T.length:Int)++S)) (lo:=0) (hi:=srt.length) (by omega) (by omega);rw[X4] at this;exact this
 have Z:Qe.wrap (srt.length:Int)=(srt.length:Int):=ak (by omega);have W:Qe.wrap ((srt.length:Int)+4)=((srt.length+4:Nat):Int):=by rw[ak (by omega)];omega
 unfold gM;rw[if_neg (by simp;omega),e1,zh];show dY p (!decide ((72,65,89,49)=((72,65,89,49):Int×Int×Int×Int)))=_;unfold dY;rw[if_neg (by simp),i4,zh,i5,zh,e2,zh,Z,W,a2,if_neg (by simp;omega),e3,zh];refine i8 (λi=>((i:Int),(⟨cols,srt.take i,[]⟩:ay))) srt.length ?_ (λi hi=>?_) ?_
 ·rw[ak (by omega)];rfl
 ·simp only[fC]
  obtain⟨hr,_⟩:=On.1 h.so;have:=hr _ (Q1 hi);rw[if_pos (by simpa using hi),aC hi,zh,aQ (by simp;omega),zh,ak (by omega),ak (by omega),ja hi]
  rfl
 ·simp only[fC]
  rw[if_neg (by simp),Qb];unfold gS
  have e4:sub (srt++(be4 (T.length:Int)++S)) (srt.length:Int) ((srt++(be4 (T.length:Int)++S)).length:Int)=some (be4 (T.length:Int)++S):=by
   rw[ga (by simp),Qo]
  have e5:sub (srt++(be4 (T.length:Int)++S)) ((srt.length+4:Nat):Int) ((srt++(be4 (T.length:Int)++S)).length:Int)=some S:=by
   rw[ga (by omega),←Q5,Z2 (by simp[et])]
  rw[Z,W,e4,zh,sn (by unfold U32;omega),zh,e5,zh];dsimp only;rw[sk (by omega) (by simp),zh,Oe.2 h.none,if_pos (by simp)];unfold fA;rw[decide_eq_true (by omega)]
theorem w6 {xs:List aa}(h:xs.length<=1048576):dO xs xs dG=some true:=by
 unfold dO;rw[if_neg (by simp)];refine i8 (λi=>(i:Int)) xs.length rfl (λi hi=>?_) ?_
 ·simp only[gy]
  rw[if_pos (by simpa using hi),aC hi,zh,zh];simp only[dG];rw[zh,if_neg (by simp),ak (by omega)];rfl
 ·simp only[gy]
  rw[if_neg (by simp)];rfl
theorem Gx {cols:Int}{srt kinds:List Int}{T:List aa}(h:nE cols srt T)(Z:∀v∈T,oW v)(hS:Srt (qlt srt) T)(hk:kinds.length<=1048576):
  jF (nF cols srt kinds T)=some (some ⟨cols,srt,T⟩,0):=by
 have a3:=h.co;have e0:=h.le;have c6:=h.srt_le;have J:CV cols T:=CV.of h Z;obtain⟨d1,d2⟩:=BD (srt:=srt) (kinds:=kinds) J (by omega);obtain⟨b3,a4⟩:=zV (b:=iG cols srt kinds T) (by omega);obtain⟨b6,c3⟩:=u6 (kinds:=kinds) J (cols+3).toNat;have c7:(cols+3).toNat<=11:=by omega
 have b5:(fF cols kinds T (cols+3).toNat).length<=100000000:=Nat.le_trans c3 (by omega);have b2:(nF cols srt kinds T).length=(iG cols srt kinds T).length+4:=by unfold nF;rw[zw,et]
 have hw:Qe.wrap (((nF cols srt kinds T).length:Int) - 4)=((iG cols srt kinds T).length:Int):=by rw[b2,ak (by omega)];omega
 have e1:sub (nF cols srt kinds T) ((iG cols srt kinds T).length:Int) ((nF cols srt kinds T).length:Int)=some (be4 (mq (iG cols srt kinds T))):=by
  rw[ga (by omega)];unfold nF;rw[Qo]
 have e2:sub (nF cols srt kinds T) 0 ((iG cols srt kinds T).length:Int)=some (iG cols srt kinds T):=by
  have:=d4 (xs:=nF cols srt kinds T) (lo:=0) (hi:=(iG cols srt kinds T).length) (by omega) (by omega);have e:(nF cols srt kinds T).take (iG cols srt kinds T).length=iG cols srt kinds T:=by unfold nF;rw[X4]
  rw[e] at this;exact this
 have a1:=sn a4 [];rw[Qp] at a1
 have b0:Qe.wrap (mq (iG cols srt kinds T))=mq (iG cols srt kinds T):=by
  unfold U32 at a4;rw[ak (by omega)]
 unfold jF;rw[if_neg (by simp;omega),hw,e1,zh,a1,zh,e2,zh,b3,zh,b0];unfold iZ;rw[if_neg (by simp),hw,e2,zh,Gw h ⟨b6,b5⟩,zh,if_neg (by simp)];dsimp only
 have b1:mk 5864062014805 (T.length:Int) aa.zero=some (T.map (tkV cols 0)):=by
  rw[rZ (by omega),Zl (g:=λ_=>aa.zero) (λv _=>H7 a3.1 v),List.map_const']
 rw[b1,zh]
 have a2:∀n,n<(cols+3).toNat->(((Qd (cols+3).toNat).drop n).map (kU cols kinds T)).flatten=kU cols kinds T n++(((Qd (cols+3).toNat).drop (n+1)).map (kU cols kinds T)).flatten:=by
  intro n W;rw[Q0 (by simpa using W)];simp
 have a9:∀k n:Nat,n+k=(cols+3).toNat->((((Qd (cols+3).toNat).drop n).map (kU cols kinds T)).flatten).length<=6400004*k:=by
  intro k
  induction k with
  |zero=>intro n W;rw[Qa (by simp;omega)];simp
  |succ k ih=>
   intro n W;rw[a2 n (by omega),zw];have:=(BB (kinds:=kinds) J n).2;have:=ih (n+1) (by omega);omega
 refine i8 (λn=>((((Qd (cols+3).toNat).drop n).map (kU cols kinds T)).flatten,(n:Int),T.map (tkV cols n))) (cols+3).toNat (by simp[fF]) (λn W=>?_) ?_
 ·have c1:=a9 ((cols+3).toNat - (n+1)) (n+1) (by omega)
  have d0:6400004*((cols+3).toNat - (n+1))<=6400004*11:=Zd _ (by omega);obtain⟨R,hR⟩:∃R,R=(((Qd (cols+3).toNat).drop (n+1)).map (kU cols kinds T)).flatten:=⟨_,rfl⟩
  obtain⟨B,hB⟩:∃B,B=oY (kG cols kinds n) (jZ cols n T):=⟨_,rfl⟩
  obtain⟨c4,a6⟩:=w5 (n:=n) J;have b7:=(u5 (kind:=kG cols kinds n) c4 a6).2;rw[←hB] at b7;rw[←hR] at c1;show fD ((T.length:Int),fF cols kinds T (cols+3).toNat,true,⟨cols,srt,[]⟩) ((((Qd (cols+3).toNat).drop n).map (kU cols kinds T)).flatten) (n:Int) (T.map (tkV cols n))=some (.inl ((((Qd (cols+3).toNat).drop (n+1)).map (kU cols kinds T)).flatten,((n+1:Nat):Int),T.map (tkV cols (n+1))))
  have hx:(((Qd (cols+3).toNat).drop n).map (kU cols kinds T)).flatten=be4 (B.length:Int)++(B++R):=by
   rw[a2 n W,←hR];unfold kU;rw[←hB,Q5]
  rw[hx,←hR];obtain⟨X,hX⟩:∃X,X=be4 (B.length:Int)++(B++R):=⟨_,rfl⟩
  have e3:X.length=4+(B.length+R.length):=by rw[hX];simp[et]
  have a5:dv X=some (B.length:Int):=by rw[hX];exact sn (by unfold U32;omega) _
  have a0:Qe.wrap (4+(B.length:Int))=((4+B.length:Nat):Int):=by rw[ak (by omega)];omega
  have s1:sub X 4 ((4+B.length:Nat):Int)=some B:=by
   have:=d4 (xs:=X) (lo:=4) (hi:=4+B.length) (by omega) (by omega);rw[show((4:Nat):Int)=4 from rfl] at this;rw[this,hX,←Q5,Z1 (by simp[et]),Z2 (et _)]
  have s2:sub X ((4+B.length:Nat):Int) (X.length:Int)=some R:=by
   rw[ga (by omega),hX,←Q5,Z2 (by simp[et])]
  have c0:hU B (T.length:Int)=some (jZ cols n T,true):=by
   have c5:∀v∈jZ cols n T,Rgt v:=λv Z=>by
    obtain⟨x,hx,rfl⟩:=Qz.1 Z;exact BA J hx n
   have:=Eu (kind:=kG cols kinds n) c5 a6;rw[←hB] at this;rw[show(jZ cols n T).length=T.length by simp[jZ]] at this;exact this
  rw[←hX];unfold fD;dsimp only;rw[ak (by omega),if_pos (by simp;omega),if_neg (by simp;omega),a5,zh,a0,decide_eq_false (by omega)];unfold iY;rw[if_neg (by simp),a5,zh,a0,s1,zh];dsimp only;rw[c0,zh,if_neg (by simp)];dsimp only;rw[Gu J (by omega),zh];unfold iX;rw[if_neg (by simp),a0,s2,zh,ak (by omega)]
  rfl
 ·show fD ((T.length:Int),fF cols kinds T (cols+3).toNat,true,⟨cols,srt,[]⟩) ((((Qd (cols+3).toNat).drop (cols+3).toNat).map (kU cols kinds T)).flatten) ((cols+3).toNat:Int) (T.map (tkV cols (cols+3).toNat))=_
  have hT:T.map (tkV cols (cols+3).toNat)=T:=by
   rw[Zl (g:=id) (λv hm=>?_),List.map_id];obtain⟨h1,h2⟩:=J.ok v hm;exact Jp a3.1 (qq h1 h2).2.1
  rw[hT,Qa (by simp)];unfold fD;dsimp only;rw[ak (by omega),if_neg (by simp;omega)];have b4:Rok T:=λv hm=>(Z v hm).len;obtain⟨T',h1,h2⟩:=tK (cs:=srt) (xs:=T) (by omega) (by omega) b4;obtain rfl:=h2.unique (fN srt) (Stb.refl hS)
  have c2:fX (some ⟨cols,srt,T'⟩)=some true:=by
   unfold fX;simp only[zh];rw[h1,zh,w6 (by omega)]
   rfl
  unfold kC;rw[if_neg (by simp)];simp only[zh];rw[sk (by omega) Z,zh,Oe.2 h,if_neg (by simp),c2,zh]
  rfl
set_option linter.unusedVariables false
set_option linter.unusedSimpArgs false
def atB (l:List aa)(id:aF):Option Nat:=l.findIdx? λv=>decide (v.fId=id)
theorem Ev {l:List aa}{id:aF}(h:l.length<=1048576):dP l (λy=>cB y id)=some (((atB l id).map λi:Nat=>(i:Int)).getD (-1)):=by
  unfold dP
  have key:∀k i:Nat,i+k=l.length->aq (λs:Int=>c9 l (λy=>cB y id) s) (i:Int)=some (((atB (l.drop i) id).map λj=>((i+j:Nat):Int)).getD (-1)):=by
    intro k
    induction k with
    | zero=>
      intro i hi;rw[Qa (by omega)];apply aS;simp only[c9];rw[if_neg (by simp;omega)];rfl
    | succ k ih=>
      intro i hi;have J:i<l.length:=by omega
      unfold atB;rw[Q0 J,List.findIdx?_cons]
      by_cases he:l[i].fId=id
      · rw[if_pos (by simpa using he)]
        apply aS;simp only[c9];rw[if_pos (by simpa using J),aC J,zh];simp only[cB];rw[zh,if_pos (by simpa using he)];simp
      · rw[if_neg (by simpa using he)]
        rw[bK (s':=((i+1:Nat):Int))]
        · rw[ih (i+1) (by omega)]
          unfold atB;cases (l.drop (i+1)).findIdx? λv=>decide (v.fId=id) with
          |none=>rfl
          |some j=>simp only[X9,Option.getD_some];congr 1;omega
        · simp only[c9]
          rw[if_pos (by simpa using J),aC J,zh];simp only[cB];rw[zh,if_neg (by simpa using he),ak (by omega)];rfl
  have:=key l.length 0 (by omega);rw[Z7] at this;simpa using this
theorem H8 {f:ay}{id:aF}(h:f.fL.length<=1048576):fM (some f) id=some (((atB f.fL id).map λi:Nat=>(i:Int)).getD 0,(atB f.fL id).isSome):=by
  unfold fM;rw[zh,Ev h,zh];cases atB f.fL id with
  |none=>rfl
  | some i=>
    simp only[X9,Option.getD_some,Option.isSome_some];rw[if_neg (by omega),decide_eq_true (by omega)]
theorem Ew:px=some true:=by
  let v1:aa:=⟨⟨1,0⟩,[⟨2,false,2,[]⟩],0⟩
  let v2:aa:=⟨⟨2,0⟩,[⟨2,false,1,[]⟩],0⟩
  have ok:∀(e n:Int),0<=e->e<10->0<=n->n<10->oW ⟨⟨e,0⟩,[⟨2,false,n,[]⟩],0⟩:=by
    intro e n h1 J h3 h4;refine⟨by dsimp only;omega,by dsimp only;omega,by dsimp only;omega,?_,by simp⟩;intro x hx;have:x=gU n:=by simpa using hx
    subst this;exact(Rgt.int n (by unfold cL;omega)).ok
  have W:∀v∈[v1,v2],oW v:=by
    intro v W;simp only[Z4,List.not_mem_nil,or_false] at W;rcases W with rfl|rfl
    ·exact ok 1 2 (by omega) (by omega) (by omega) (by omega)
    ·exact ok 2 1 (by omega) (by omega) (by omega) (by omega)
  have hA:nE 1 [0] [v1,v2]:=Oe.1 (by decide);rcases CR (cols:=1) (srt:=[0]) (kinds:=[]) (by simp) (by simp) W with⟨h,_⟩|⟨_,T,J,hC,hw⟩
  ·exact absurd (Oe.2 hA) h
  have hi:Stb (qlt [0]) ([]++[v1]++[v2]) ([]++v2::[v1]):=Stb.ins (fN [0]) (by simp[Srt]) (by
    intro s Z
    rw[Z8] at Z;subst Z;decide) (by simp)
  obtain rfl:T=[v2,v1]:=Stb.unique (fN [0]) J hi;have hr:=Gx (kinds:=[]) (hA.stb J) (λv hm=>W v ((J.mem (fN [0])).1 hm)) J.srt (by simp);unfold px;rw[hw,zh,hr,zh,if_neg (by simp),if_neg (by simp)];unfold nP;dsimp only;rw[if_neg (by simp),H8 (by simp),zh]
  rfl
theorem Ex {l:List aa}(h:l.length<=1048576)(J:Rok l):n8 l=some l:=by
  unfold n8;refine i8 (λi=>(l.take i,(i:Int))) l.length (by simp) (λi hi=>?_) ?_
  · simp only[pq]
    rw[if_pos (by simpa using hi),aC hi,zh,H3 (J _ (Q1 hi)),zh,aQ (by simp;omega),zh,ak (by omega),ja hi]
    rfl
  · simp only[pq]
    rw[if_neg (by simp),Qb];rfl
set_option linter.unusedVariables false
set_option linter.unusedSimpArgs false
open Option renaming bind_some→zh,bind_assoc→Zm,map_some→X9
open List renaming length_append→zw,getElem?_eq_getElem→Jn,drop_eq_getElem_cons→Q0,getElem_mem→Q1,eq_nil_of_length_eq_zero→Q2,take_of_length_le→Q3,take_append_drop→Q4,append_assoc→Q5,take_succ_eq_append_getElem→Q6,replicate→Q8,length_cons→Q9,drop_of_length_le→Qa,take_length→Qb,length_singleton→Qc,range→Qd,map_append→Qf,mem_append→Qh,cons_append→Qi,nil_append→Ql,drop_left→Qo,append_nil→Qp,getElem?_eq_some_iff→Qq,all_eq_true→Qr,pairwise_append→Qs,length_map→Qt,length_pos_iff→Qu,getElem_of_mem→Qv,mem_map→Qz,flatMap_cons→Z0,take_left'→Z1,drop_left'→Z2,mem_cons→Z4,drop_zero→Z7,mem_singleton→Z8,take_append_of_le_length→Za,length_replicate→Zb,drop_length→Zg,getElem?_append_right→Zj,flatten_append→Zk,map_congr_left→Zl,getElem?_append_left→Zn,pairwise_iff_getElem→Zo,mem_replicate→Zp,pairwise_cons→Zq,eq_of_mem_replicate→Zr,take_add_one→Zs,mem_range→Zt,length_eq_one_iff→Zu,getElem_map→Zv,length_take→Zw,length_drop→Zx,singleton_append→Zy,foldl_cons→Zz,take_left→X4,length→X6,map_cons→Xa
open Nat renaming le_refl→Qj,two_pow_add_eq_or_of_lt→Qw,pow_le_pow_right→Qy,strongRecOn→Z6,mul_le_mul→Z9,mul_le_mul_left→Zd,lt_of_lt_of_le→Zi
open Bool renaming and_eq_true→Qm,not_eq_true'→Qn,false_eq_true→Qx,eq_false_or_eq_true→Z3,and_eq_false_iff→Zc,or_eq_false_iff→Ze,not_true→X8
open Int renaming eq_ofNat_of_zero_le→Q7,emod_eq_of_lt→Qg,natCast_pow→Zf,fdiv_eq_ediv_of_nonneg→Zh,mul_comm→X7
open BitVec renaming ofInt→Qk,toNat_ofInt→Z5
open IntKind renaming i64→Qe,u64→X3,u8→X5,u32→Xb
theorem CU {srt:List Int}{l:List aa}(Z:srt.length<=1048576)(h:l.length<=1048576)(J:Rok l):kD srt l=some true:=by
 obtain⟨T,h1,W⟩:=tK (cs:=srt) (xs:=l) Z h J;obtain⟨T',h3,h4⟩:=Ae (cs:=srt) (xs:=l) Z h;obtain rfl:=W.unique (fN srt) h4;have hT:Rok T:=λv hv=>J v ((W.mem (fN srt)).1 hv);have a0:T.length<=1048576:=by rw[W.len (fN srt)];exact h
 unfold kD;rw[Ex h J,zh,h1,zh,h3,zh,Ew,zh,if_neg (by simp),oG a0 hT,zh];unfold gA;rw[if_neg (by simp),oG h J]
 rfl
set_option maxRecDepth 100000
set_option linter.unusedSimpArgs false
open Go.Proofs Tryz
theorem mixed:prog.follows .mixedOrders=true:=by kernel_rfl
def Ap.pr (x:Ap):Int×Bool×Int×List Int:=(x.fKind,x.fBool,x.fInt,x.fText)
def kAp:Kd Ap:=o8 Ap.pr (ci (aj .i64) (ci cj (ci (aj .i64) oy)))
theorem Jr:Fld kAp (aj .i64) 0 (λx=>x.fKind):=cQ eQ
theorem Ey:StF kAp (aj .i64) 0 (λx y=>{ x with fKind:=y }):=cS fG (λ_ _=>rfl)
theorem Js:Fld kAp cj 1 (λx=>x.fBool):=cQ (bX eQ)
theorem Jt:StF kAp cj 1 (λx y=>{ x with fBool:=y }):=cS (bL fG) (λ_ _=>rfl)
theorem Ju:Fld kAp (aj .i64) 2 (λx=>x.fInt):=cQ (bX (bX eQ))
theorem Jv:StF kAp (aj .i64) 2 (λx y=>{ x with fInt:=y }):=cS (bL (bL fG)) (λ_ _=>rfl)
theorem Jw:Fld kAp oy 3 (λx=>x.fText):=cQ (bX (bX (bX kI)))
theorem Jx:StF kAp oy 3 (λx y=>{ x with fText:=y }):=cS (bL (bL (bL bO))) (λ_ _=>rfl)
def aL.pr (x:aL):Int×Ap:=(x.fMany,x.fValue)
def bT:Kd aL:=o8 aL.pr (ci (aj .i64) kAp)
theorem H9:Fld bT (aj .i64) 0 (λx=>x.fMany):=cQ eQ
theorem w7:StF bT (aj .i64) 0 (λx y=>{ x with fMany:=y }):=cS fG (λ_ _=>rfl)
theorem Ia:Fld bT kAp 1 (λx=>x.fValue):=cQ (bX kI)
theorem BE:StF bT kAp 1 (λx y=>{ x with fValue:=y }):=cS (bL bO) (λ_ _=>rfl)
def bg.pr (x:bg):Int×Int×Ap×Ap×Int×Int:=(x.fKind,x.fMany,x.fMin,x.fMax,x.fNulls,x.fBytes)
def cw:Kd bg:=o8 bg.pr (ci (aj .i64) (ci (aj .i64) (ci kAp (ci kAp (ci (aj .i64) (aj .i64))))))
theorem Jy:Fld cw (aj .i64) 0 (λx=>x.fKind):=cQ eQ
theorem Ez:StF cw (aj .i64) 0 (λx y=>{ x with fKind:=y }):=cS fG (λ_ _=>rfl)
theorem Jz:Fld cw (aj .i64) 1 (λx=>x.fMany):=cQ (bX eQ)
theorem EA:StF cw (aj .i64) 1 (λx y=>{ x with fMany:=y }):=cS (bL fG) (λ_ _=>rfl)
theorem JA:Fld cw kAp 2 (λx=>x.fMin):=cQ (bX (bX eQ))
theorem EB:StF cw kAp 2 (λx y=>{ x with fMin:=y }):=cS (bL (bL fG)) (λ_ _=>rfl)
theorem JB:Fld cw kAp 6 (λx=>x.fMax):=cQ (bX (bX (bX eQ)))
theorem EC:StF cw kAp 6 (λx y=>{ x with fMax:=y }):=cS (bL (bL (bL fG))) (λ_ _=>rfl)
theorem JC:Fld cw (aj .i64) 10 (λx=>x.fNulls):=cQ (bX (bX (bX (bX eQ))))
theorem ED:StF cw (aj .i64) 10 (λx y=>{ x with fNulls:=y }):=cS (bL (bL (bL (bL fG)))) (λ_ _=>rfl)
theorem JD:Fld cw (aj .i64) 11 (λx=>x.fBytes):=cQ (bX (bX (bX (bX (bX kI)))))
theorem JE:StF cw (aj .i64) 11 (λx y=>{ x with fBytes:=y }):=cS (bL (bL (bL (bL (bL bO))))) (λ_ _=>rfl)
def DQ.pr (x:DQ):Int×Ap:=(x.fMany,x.fValue)
def Bn.pr (x:Bn):Int×Int×Ap×Ap×Int×Int:=(x.fKind,x.fMany,x.fMin,x.fMax,x.fNulls,x.fBytes)
def ae.pr (x:ae):List Int×Bool:=(x.fB,x.fOk)
def ia:Kd ae:=o8 ae.pr (ci (kSl (aj .u8)) cj)
theorem Ib:Fld ia (kSl (aj .u8)) 0 (λx=>x.fB):=cQ eQ
theorem Ic:StF ia (kSl (aj .u8)) 0 (λx y=>{ x with fB:=y }):=cS fG (λ_ _=>rfl)
theorem Id:Fld ia cj 1 (λx=>x.fOk):=cQ (bX kI)
theorem Ie:StF ia cj 1 (λx y=>{ x with fOk:=y }):=cS (bL bO) (λ_ _=>rfl)
def aF.pr (x:aF):Int×Int:=(x.fEpoch,x.fNumber)
def bm:Kd aF:=o8 aF.pr (ci (aj .u64) (aj .u32))
theorem JF:Fld bm (aj .u64) 0 (λx=>x.fEpoch):=cQ eQ
theorem EE:StF bm (aj .u64) 0 (λx y=>{ x with fEpoch:=y }):=cS fG (λ_ _=>rfl)
theorem JG:Fld bm (aj .u32) 1 (λx=>x.fNumber):=cQ (bX kI)
theorem EF:StF bm (aj .u32) 1 (λx y=>{ x with fNumber:=y }):=cS (bL bO) (λ_ _=>rfl)
def aa.pr (x:aa):aF×List Ap×Int:=(x.fId,x.fRow,x.fDeleted)
def ah:Kd aa:=o8 aa.pr (ci bm (ci (kSl kAp) (aj .u64)))
theorem vT:Fld ah bm 0 (λx=>x.fId):=cQ eQ
theorem Al:StF ah bm 0 (λx y=>{ x with fId:=y }):=cS fG (λ_ _=>rfl)
theorem JH:Fld ah (kSl kAp) 2 (λx=>x.fRow):=cQ (bX eQ)
theorem EG:StF ah (kSl kAp) 2 (λx y=>{ x with fRow:=y }):=cS (bL fG) (λ_ _=>rfl)
theorem JI:Fld ah (aj .u64) 3 (λx=>x.fDeleted):=cQ (bX (bX kI))
theorem EH:StF ah (aj .u64) 3 (λx y=>{ x with fDeleted:=y }):=cS (bL (bL bO)) (λ_ _=>rfl)
def ay.pr (x:ay):Int×List Int×List aa:=(x.fColumns,x.fSort,x.fL)
def bp:Kd ay:=o8 ay.pr (ci (aj .i64) (ci (kSl (aj .i64)) (kSl ah)))
theorem BF:Fld bp (aj .i64) 0 (λx=>x.fColumns):=cQ eQ
theorem BG:StF bp (aj .i64) 0 (λx y=>{ x with fColumns:=y }):=cS fG (λ_ _=>rfl)
theorem w8:Fld bp (kSl (aj .i64)) 1 (λx=>x.fSort):=cQ (bX eQ)
theorem BH:StF bp (kSl (aj .i64)) 1 (λx y=>{ x with fSort:=y }):=cS (bL fG) (λ_ _=>rfl)
theorem rq:Fld bp (kSl ah) 2 (λx=>x.fL):=cQ (bX (bX kI))
theorem If:StF bp (kSl ah) 2 (λx y=>{ x with fL:=y }):=cS (bL (bL bO)) (λ_ _=>rfl)
def oF.pr (x:oF):Int×List Int×List Int×List aa:=(x.fColumns,x.fSort,x.fKinds,x.fL)
def Bo.pr (x:Bo):Int×List Int×List aa:=(x.fColumns,x.fSort,x.fL)
theorem Am:mF prog 32 4 40:=⟨⟨t32,_,type32,rfl,rfl,rfl,rfl⟩⟩
theorem ej:cI prog 32 kAp:=⟨sizeOf32,isAgg32⟩
def tL:List Value:=[.int .i64 0,.bool false,.int .i64 0,.string (bts [])]
theorem oC:∀m,kAp.R m tL Ap.zero:=λ_=>⟨⟨rfl,ax (by decide)⟩,⟨rfl,⟨⟨rfl,ax (by decide)⟩,⟨rfl,(by decide),(by decide)⟩⟩⟩⟩
theorem Ao:dS prog 32 0 0:=d3 underlying32 rfl sizeOf3 (by decide) rfl
theorem ty3:cI prog 3 (aj .i64):=⟨sizeOf3,isAgg3⟩
theorem JJ {m:M}{cs:List Value}{x:Ap}(h:kAp.R m cs x):cs=[.int .i64 x.fKind,.bool x.fBool,.int .i64 x.fInt,.string (bts x.fText)]/\(∀n∈x.fText,0<=n/\n<256):=by
 obtain⟨h0,Z,W,J⟩:=h;refine⟨?_,J.2.1⟩;rw[←Q4 1 cs,show(cs).take 1=_ from h0.1,←Q4 1 ((cs).drop 1),show((cs).drop 1).take 1=_ from Z,←Q4 1 (((cs).drop 1).drop 1),show(((cs).drop 1).drop 1).take 1=_ from W.1,show(((cs).drop 1).drop 1).drop 1=_ from J.1]
 rfl
theorem w9:uB prog 32 kAp:=by
 refine⟨λm cs ds x y d w W h=>?_,λop o o' cs ds w=>?_⟩
 ·obtain⟨rfl,Z⟩:=JJ W
  obtain⟨rfl,J⟩:=JJ h;have e:x=y↔x.fKind=y.fKind/\x.fBool=y.fBool/\x.fInt=y.fInt/\x.fText=y.fText:=by cases x;cases y;simp
  show(Op.equalIn (d+20) 32 (.agg #[_,_,_,_]) (.agg #[_,_,_,_])).run _ _=_;rw[run_equalIn_struct w (d+19) 32 _ _ underlying32 stoodInHeld32];simp only[Program.fieldsOf,underlying32,Op.eqFields];simp[part,run_equalIn_int,run_equalIn_bool',run_equalIn_string,wo Z J]
  repeat' split
  all_goals simp_all
 ·show(eqGuard op 32 o o' (.agg _) (.agg _)).run _ _=_
  cases op<;>simp[eqGuard]
theorem JK:dS prog 32 1 1:=d3 underlying32 rfl sizeOf4 (by decide) rfl
theorem rt:dS prog 32 2 2:=d3 underlying32 rfl sizeOf2 (by decide) rfl
theorem ty2:cI prog 2 (aj .i64):=⟨sizeOf2,isAgg2⟩
theorem JL:dS prog 32 3 3:=d3 underlying32 rfl sizeOf9 (by decide) rfl
theorem el2:mF prog 2 1 8:=⟨⟨t2,_,type2,rfl,rfl,rfl,rfl⟩⟩
theorem BJ:dS prog 187 1 1:=d3 underlying187 rfl sizeOf32 (by decide) rfl
theorem xa:dS prog 187 0 0:=d3 underlying187 rfl sizeOf3 (by decide) rfl
def MO:List Value:=[.int .i64 0,.int .i64 0,.bool false,.int .i64 0,.string (bts [])]
theorem CW:∀m,bT.R m MO aL.zero:=λ_=>⟨⟨rfl,ax (by decide)⟩,⟨⟨rfl,ax (by decide)⟩,⟨rfl,⟨⟨rfl,ax (by decide)⟩,⟨rfl,(by decide),(by decide)⟩⟩⟩⟩⟩
theorem GY:mF prog 187 5 48:=⟨⟨t187,_,type187,rfl,rfl,rfl,rfl⟩⟩
def zc5:List Value:=[.int .u8 0]
theorem zr5:∀m,(aj .u8).R m zc5 0:=λ_=>⟨rfl,ax (by decide)⟩
def CX:List Value:=(Q8 8 zc5).flatten
theorem MP:∀m b,GS (aj .u8) m b CX (.slice (some ⟨b,0,none⟩) 8 8) (Q8 8 0):=λ_ _=>GS.zero zr5 rfl
theorem ty5:cI prog 5 (aj .u8):=⟨sizeOf5,isAgg5⟩
theorem el5:mF prog 5 1 1:=⟨⟨t5,_,type5,rfl,rfl,rfl,rfl⟩⟩
theorem MQ:cI prog 187 bT:=⟨sizeOf187,isAgg187⟩
theorem JM:cI prog 54 (aj .u64):=⟨sizeOf54,isAgg54⟩
theorem JN:mF prog 54 1 8:=⟨⟨t54,_,type54,rfl,rfl,rfl,rfl⟩⟩
theorem sq:cI prog 22 (kSl kAp):=⟨sizeOf22,isAgg22⟩
def sr:List Value:=[.int .i64 0,.int .i64 0,.int .i64 0,.bool false,.int .i64 0,.string (bts []),.int .i64 0,.bool false,.int .i64 0,.string (bts []),.int .i64 0,.int .i64 0]
theorem u7:∀m,cw.R m sr bg.zero:=λ_=>⟨⟨rfl,ax (by decide)⟩,⟨⟨rfl,ax (by decide)⟩,⟨⟨⟨rfl,ax (by decide)⟩,⟨rfl,⟨⟨rfl,ax (by decide)⟩,⟨rfl,(by decide),(by decide)⟩⟩⟩⟩,⟨⟨⟨rfl,ax (by decide)⟩,⟨rfl,⟨⟨rfl,ax (by decide)⟩,⟨rfl,(by decide),(by decide)⟩⟩⟩⟩,⟨⟨rfl,ax (by decide)⟩,⟨rfl,ax (by decide)⟩⟩⟩⟩⟩⟩
theorem u9:cI prog 34 cw:=⟨sizeOf34,isAgg34⟩
theorem tM:dS prog 34 4 10:=d3 underlying34 rfl sizeOf3 (by decide) rfl
theorem Oq:cI prog 55 (aj .u32):=⟨sizeOf55,isAgg55⟩
theorem EJ:dS prog 34 1 1:=d3 underlying34 rfl sizeOf3 (by decide) rfl
theorem Aq:dS prog 34 2 2:=d3 underlying34 rfl sizeOf32 (by decide) rfl
theorem Ar:dS prog 34 3 6:=d3 underlying34 rfl sizeOf32 (by decide) rfl
theorem vY:dS prog 34 5 11:=d3 underlying34 rfl sizeOf3 (by decide) rfl
theorem Ig:dS prog 161 0 0:=d3 underlying161 rfl sizeOf24 (by decide) rfl
theorem Gy:cI prog 24 (kSl (aj .u8)):=⟨sizeOf24,isAgg24⟩
theorem Ih:dS prog 161 1 1:=d3 underlying161 rfl sizeOf4 (by decide) rfl
def MR:List Value:=[.slice none 0 0,.bool false]
theorem GZ:∀m,ia.R m MR ae.zero:=λ_=>⟨⟨none,0,0,rfl,rfl,Qj _,(by decide),rfl⟩,rfl⟩
theorem Au:dS prog 34 0 0:=d3 underlying34 rfl sizeOf3 (by decide) rfl
theorem qE:cI prog 59 ah:=⟨sizeOf59,isAgg59⟩
def xb:List Value:=[.int .u64 0,.int .u32 0,.slice none 0 0,.int .u64 0]
theorem tN:∀m,ah.R m xb aa.zero:=λ_=>⟨⟨⟨rfl,ax (by decide)⟩,⟨rfl,ax (by decide)⟩⟩,⟨⟨none,0,0,rfl,rfl,Qj _,(by decide),rfl⟩,⟨rfl,ax (by decide)⟩⟩⟩
theorem mW:dS prog 59 1 2:=d3 underlying59 rfl sizeOf22 (by decide) rfl
theorem CY:mF prog 59 4 48:=⟨⟨t59,_,type59,rfl,rfl,rfl,rfl⟩⟩
theorem EK:dS prog 57 0 0:=d3 underlying57 rfl sizeOf54 (by decide) rfl
theorem EL:dS prog 57 1 1:=d3 underlying57 rfl sizeOf55 (by decide) rfl
theorem tO:cI prog 49 (kSl (aj .i64)):=⟨sizeOf49,isAgg49⟩
theorem ov:dS prog 59 0 0:=d3 underlying59 rfl sizeOf57 (by decide) rfl
theorem va:cI prog 57 bm:=⟨sizeOf57,isAgg57⟩
theorem EM:dS prog 59 2 3:=d3 underlying59 rfl sizeOf54 (by decide) rfl
theorem Gz {m:M}{cs:List Value}{x:aF}(h:bm.R m cs x):cs=[.int .u64 x.fEpoch,.int .u32 x.fNumber]:=by
 obtain⟨W,J⟩:=h
 skip
 rw[←Q4 1 cs,show(cs).take 1=_ from W.1,show(cs).drop 1=_ from J.1]
 rfl
theorem JO:uB prog 57 bm:=by
 refine⟨λm cs ds x y d w J h=>?_,λop o o' cs ds w=>?_⟩
 ·obtain rfl:=Gz J
  obtain rfl:=Gz h;have e:x=y↔x.fEpoch=y.fEpoch/\x.fNumber=y.fNumber:=by cases x;cases y;simp
  show(Op.equalIn (d+20) 57 (.agg #[_,_]) (.agg #[_,_])).run _ _=_;rw[run_equalIn_struct w (d+19) 57 _ _ underlying57 stoodInHeld57];simp only[Program.fieldsOf,underlying57,Op.eqFields];simp[part,run_equalIn_int,run_equalIn_bool',run_equalIn_string]
  repeat' split
  all_goals simp_all
 ·show(eqGuard op 57 o o' (.agg _) (.agg _)).run _ _=_
  cases op<;>simp[eqGuard]
theorem MS:laidOutB prog=true:=by kernel_rfl
def Av (x:aF):Value:= .agg #[.int .u64 x.fEpoch,.int .u32 x.fNumber]
theorem JP {m:M}{v:Value}{x:aF}(h:RV bm m v x):v=Av x:=by
 obtain⟨cs,h,rfl⟩:=h;obtain rfl:=Gz h
 rfl
theorem Ot {m:M}{v:Value}{x:aF}(h:RV bm m v x):∃l,keyOf prog 57 v=some l:=by
 rw[JP h];obtain⟨cs,h,rfl⟩:=h;obtain⟨W,J⟩:=h;exact Ds (d:=250) underlying57 (by decide) underlying54 underlying55 rfl rfl (by kernel_rfl) (by kernel_rfl) (by kernel_rfl) (by kernel_rfl) (by kernel_rfl) (GH W.2) (GH J.2)
theorem Ou {x y:aF}(h:Av x=Av y):x=y:=by
 obtain⟨a0,Z⟩:=x;obtain⟨J,W⟩:=y;simp[Av] at h;simp[h]
noncomputable def CZ:y5 prog 57 bm:=⟨Av,JP,Ou,deep_law_laid MS (m:=2) (by omega) (of_decide_eq_true (by kernel_rfl)) (by kernel_rfl) (by rw[underlying57]),Ot⟩
def qr:List Value:=[.int .i64 0,.slice none 0 0,.slice none 0 0]
theorem yA:∀m,bp.R m qr ay.zero:=λ_=>⟨⟨rfl,ax (by decide)⟩,⟨⟨none,0,0,rfl,rfl,Qj _,(by decide),rfl⟩,⟨none,0,0,rfl,rfl,Qj _,(by decide),rfl⟩⟩⟩
theorem MT:cI prog 178 kA4:=⟨sizeOf178,isAgg178⟩
theorem MU:uB prog 178 kA4:=Oj underlying178 type5 (by kernel_rfl) underlying5 isAgg5 (by kernel_rfl)
theorem mA:dS prog 120 0 0:=d3 underlying120 rfl sizeOf3 (by decide) rfl
theorem nG:dS prog 120 1 1:=d3 underlying120 rfl sizeOf49 (by decide) rfl
theorem el3:mF prog 3 1 8:=⟨⟨t3,_,type3,rfl,rfl,rfl,rfl⟩⟩
theorem nH:dS prog 120 2 2:=d3 underlying120 rfl sizeOf50 (by decide) rfl
theorem C0:cI prog 50 (kSl ah):=⟨sizeOf50,isAgg50⟩
def Ov:List Value:=[.int .u64 0,.int .u32 0]
theorem JQ:∀m,bm.R m Ov aF.zero:=λ_=>⟨⟨rfl,ax (by decide)⟩,⟨rfl,ax (by decide)⟩⟩
theorem Ow:cI prog 65 (kPt bp):=⟨sizeOf65,isAgg65⟩
theorem Ox:mF prog 22 1 24:=⟨⟨t22,_,type22,rfl,rfl,rfl,rfl⟩⟩
open Go.Proofs Go.Shelf Go.Lib
open Go.Sort (putRowK flatK HoldsK SWO PermIn SortedIn)
section
variable {P:Program}{W0:Bse}{m:M}{L:List (Nat×List Value)}{TL:List (Nat×Value)}{w:World}{O:Type}{k:Kd O}{b:Nat}{cs:List Value}{xs:List O}
theorem S.rebase (h:S W0 m w L TL):S ⟨w,λ_=>none⟩ m w [] []:=
 ⟨⟨Bel.refl _ _,λk o h=>by cases h⟩,λb l W=>(by
  obtain⟨c,t,fr,r,h1,h2,_⟩:=h.imm b l W
  exact⟨c,t,fr,r,h1,h2,λZ=>absurd (h.lt W) (Nat.not_lt.2 Z)⟩),λi e J=>by simp at J,λi j e e' J=>by simp at J,λi e J=>by simp at J,λi j e e' J=>by simp at J⟩
theorem JR (l:List (El k m xs)):Rl k m (l.flatMap λa=>a.1.1) (l.map λa=>a.1.2):=by
 induction l with
 |nil=>exact Rl.nil
 |cons a r ih=>exact Rl.app (Rl.single a.2.1) ih
theorem C1 {ρ:Ren}{v fv:Value}{a0:O->O->Option Int}{r:List O}(Ly:SlLaysF0.n6 P ρ)(aE:∀w,(isAgg (ρ.t 24)).run P w= .ok true w)(zE:∀w,(Go.sizeOf (ρ.t 24)).run P w= .ok k.sz w)(d2:k.agg=true)
  (hS:S W0 m w ((b,cs)::L) TL) (hg:GS k m b cs v xs) (hf:Fn2 P k k (aj .i64) m fv a0) (h:tY a0 xs=some r):
  Calls P (ρ.f 6) #[v,fv] w (Ret λ_ w'=>∃m',M.le m m'/\∃q0:List Value,S W0 m' w' ((b,q0)::L) TL/\GS k m' b q0 v r):=by
 obtain⟨g,cb,rfl,eg,c7⟩:=hf;obtain⟨a3,b0,c5⟩:=vi h;have a4:r.length=xs.length:=b0.length_eq
 by_cases hx:xs=[]
 ·subst hx
  have hr:r=[]:=Q2 a4;subst hr;obtain⟨a,cap,rfl,_⟩:=hg.val;refine(AnyF.slices_SortFunc_none Ly a cap (.func (.func g) #[] cb) w).mono ?_;rintro e w' ⟨rfl,rfl⟩;exact⟨m,M.le.refl m,cs,hS,hg⟩
 ·have e7:=hg
  obtain⟨h0,⟨rfl,_⟩|⟨cap,rfl,h2,h3,h4⟩⟩:=hg
  ·exact absurd rfl hx
  have hn:0<xs.length:=Qu.2 hx;have hp:=k.pos;have e8:xs.length*k.sz<=cap*k.sz:=Nat.mul_le_mul_right _ h2;have e9:0<xs.length*k.sz:=Nat.mul_pos hn hp;have b3:cs≠[]:=λe=>by subst e;simp at h3;omega
  obtain⟨W,b4,c2⟩:=BS h4
  have a1:W.length=xs.length:=by
   have:=congrArg X6 b4;simpa using this
  obtain⟨hB,hm,t,ht⟩:=hS.own 0 _ rfl b3;simp only at hB hm ht;have hi:Inhabited (El k m xs):=⟨W[0]'(by omega)⟩
  have c4:b<w.heap.size:=(Array.getElem?_eq_some_iff.1 ht).1
  have c1:∀(J:Nat) (os:Array Obj) (dk:Array (El k m xs)),dk.size=xs.length->sortWorldK (λa:El k m xs=>a.1.1) k.sz w b 0 J dk os=Go.Sort.grow ((Go.Sort.ahead w J).setRow b (((dk.toList.flatMap λa=>a.1.1)++cs.drop (xs.length*k.sz)).toArray)) os:=by
   intro J os dk a6;unfold sortWorldK;rw[Dm _ _ (Go.Sort.ahead w J) b cs t dk ht (by rw[a6];omega),yV,a6]
  have b2:∀(J:Nat) (os:Array Obj) (q:List Value),S W0 m (Go.Sort.grow ((Go.Sort.ahead w J).setRow b q.toArray) os) ((b,q)::L) TL:=λJ os q=>((hS.aheadN J).setL (i:=0) rfl b3 q).more os;have c3:∀x y:El k m xs,∃c,a0 x.1.2 y.1.2=some c/\inR .i64 c:=λx y=>a3.1 _ x.2.2 _ y.2.2
  have e6:CmpLays P g cb (λa:El k m xs=>a.1.1) k.sz (λx y=>(a0 x.1.2 y.1.2).getD 0) b 0 W.toArray.size w:=by
   intro J os dk a6 x y;rw[c1 J os dk (by rw[a6];simpa using a1)];generalize hw1:Go.Sort.grow ((Go.Sort.ahead w J).setRow b _) os=w1;have b5:=(b2 J os ((dk.toList.flatMap λa=>a.1.1)++cs.drop (xs.length*k.sz))).rebase;rw[hw1] at b5;obtain⟨c,hc,_⟩:=c3 x y;have hv:∀z:El k m xs,Value.agg z.1.1.toArray=k.val z.1.1:=λz=>by simp[Kd.val,d2]
   rw[hv x,hv y];refine(c7 ⟨w1,λ_=>none⟩ m w1 [] [] _ _ x.1.2 y.1.2 c (M.le.refl m) b5 ⟨_,x.2.1,rfl⟩ ⟨_,y.2.1,rfl⟩ hc).mono ?_;intro e w' he;cases e with
   |returned u=>
    obtain⟨m',_,d1,hu⟩:=he;obtain⟨rfl,_⟩:=aK hu;exact⟨by simp[hc],yU d1.below.toBel⟩
   |panicked ch=>exact he.elim
   |outgrown=>exact he.elim
  have hO:SWO (ltOf λx y:El k m xs=>(a0 x.1.2 y.1.2).getD 0):=by
   refine⟨λx=>?_,λx y z h1 h2=>?_,λx y z h1 h2=>?_⟩
   ·simp only[ltOf,decide_eq_false_iff_not];exact a3.2.1 _ x.2.2
   ·simp only[ltOf,decide_eq_true_eq] at*;exact a3.2.2.1 _ x.2.2 _ y.2.2 _ z.2.2 h1 h2
   ·simp only[ltOf,decide_eq_false_iff_not] at*;exact a3.2.2.2.1 _ x.2.2 _ y.2.2 _ z.2.2 h1 h2
  have hH:HoldsK (λa:El k m xs=>a.1.1) k.sz w b 0 W.toArray:=by
   intro j hj;have a2:j<xs.length*k.sz:=by simpa[a1] using hj
   have b1:=yV W.toArray
   have e1:(flatK (λa:El k m xs=>a.1.1) k.sz W.toArray)[j]! =cs[j]'(by omega):=by
    rw[getElem!_pos _ j (by simpa[a1] using a2)]
    have:(flatK (λa:El k m xs=>a.1.1) k.sz W.toArray).toList[j]? =cs[j]? :=by
     rw[b1];show(W.flatMap _)[j]? =_;rw[c2,List.getElem?_take,if_pos a2]
    rw[Jn (by simpa[a1] using a2),Jn (by omega)] at this;injection this with this
   refine⟨?_,?_⟩
   ·rw[e1]
    simp[World.cell?,ht,show j<cs.length by omega]
   ·simp[World.frozen?,ht]
  have c0:=AnyQ.slices_SortFunc Ly k.sz aE zE (λa:El k m xs=>a.1.1) (λx=>k.len x.2.1) (λx v hv=>k.one x.2.1 v hv) (λx y=>(a0 x.1.2 y.1.2).getD 0) hO g cb b 0 cap W.toArray w eg e6 hH c4 (by have:xs.length<=281474976710656:=h0;simp[a1];omega);have a9:W.toArray.size=xs.length:=by simpa using a1
  rw[a9] at c0;refine c0.mono ?_;rintro e w' ⟨rfl,Z,n,os,b7,e0,rfl⟩;have a5:Z.size=xs.length:=by rw[b7.1,a9]
  rw[c1 n os Z a5];refine⟨m,M.le.refl m,_,b2 n os _,?_⟩;have hR:=JR Z.toList
  have d0:(Z.toList.map λa=>a.1.2)=r:=by
   have b6:(Z.toList.map λa=>a.1.2).Perm xs:=by
    have:=b7.2.2;rw[←a5,Array.extract_size] at this;rw[a5,←a9,Array.extract_size] at this;have h9:=this.map (λa:El k m xs=>a.1.2);rw[List.toList_toArray,b4] at h9;exact h9
   have c6:(Z.toList.map λa=>a.1.2).Pairwise (λx y=> ¬ (a0 y x).getD 0<0):=by
    rw[List.pairwise_map,Zo];intro i j hi' a2 e4;have:=e0 i j (Nat.zero_le _) e4 (by simpa[a5] using a2);rw[getElem!_pos Z i (by simpa using hi'),getElem!_pos Z j (by simpa using a2)] at this;simpa[ltOf] using this
   refine List.Perm.eq_of_pairwise (le:=λx y=> ¬ (a0 y x).getD 0<0) ?_ c6 c5 (b6.trans b0.symm);intro x y e5 e3 h1 h2;exact a3.2.2.2.2 x (b6.mem_iff.1 e5) y (b0.mem_iff.1 e3) h2 h1
  have b1:(Z.toList.flatMap λa=>a.1.1).length=xs.length*k.sz:=by
   have:=hR.1;simpa[a5] using this
  refine⟨by rw[a4];exact h0,.inr ⟨cap,by rw[a4],by rw[a4];exact h2,by simp[b1];omega,?_⟩⟩;rw[a4,Za (by omega),Q3 (by omega),←d0];exact hR
end
open Go.Proofs Tryz
def uu:Go.Shelf.Ren:=⟨fun|6=>148|15=>152|14=>178|28=>179|29=>154|20=>186|21=>187|22=>188|23=>189|24=>190|25=>191|26=>192|27=>193|46=>199|47=>200|48=>201|49=>202|50=>203|57=>204|n=>n,fun|22=>22|24=>32|25=>134|3=>3|39=>94|0=>0|53=>55|55=>54|4=>4|46=>219|45=>218|50=>78|5=>5|9=>9|66=>228|70=>231|76=>233|77=>234|n=>n,λn=>n⟩
theorem Ii:SlLaysF0.n6 prog uu:={
 mixed:=by kernel_rfl
 f6:=⟨f148.name,by decide,func148.trans (congrArg some (by kernel_rfl))⟩
 f14:=⟨f178.name,by decide,func178.trans (congrArg some (by kernel_rfl))⟩
 f15:=func152.trans (congrArg some (by kernel_rfl))
 f20:=⟨f186.name,by decide,func186.trans (congrArg some (by kernel_rfl))⟩
 f21:=⟨f187.name,by decide,func187.trans (congrArg some (by kernel_rfl))⟩
 f22:=⟨f188.name,by decide,func188.trans (congrArg some (by kernel_rfl))⟩
 f23:=⟨f189.name,by decide,func189.trans (congrArg some (by kernel_rfl))⟩
 f24:=⟨f190.name,by decide,func190.trans (congrArg some (by kernel_rfl))⟩
 f25:=⟨f191.name,by decide,func191.trans (congrArg some (by kernel_rfl))⟩
 f26:=⟨f192.name,by decide,func192.trans (congrArg some (by kernel_rfl))⟩
 f27:=⟨f193.name,by decide,func193.trans (congrArg some (by kernel_rfl))⟩
 f28:=func179.trans (congrArg some (by kernel_rfl))
 f29:=func154.trans (congrArg some (by kernel_rfl))
 f46:=⟨f199.name,by decide,func199.trans (congrArg some (by kernel_rfl))⟩
 f47:=func200.trans (congrArg some (by kernel_rfl))
 f48:=func201.trans (congrArg some (by kernel_rfl))
 f49:=⟨f202.name,by decide,func202.trans (congrArg some (by kernel_rfl))⟩
 f50:=⟨f203.name,by decide,func203.trans (congrArg some (by kernel_rfl))⟩
 f57:=⟨f204.name,by decide,func204.trans (congrArg some (by kernel_rfl))⟩
 t0:=underlying0
 a0:=isAgg0
 z0:=sizeOf0
 v0:=zeroValue0
 t3:=underlying3
 a3:=isAgg3
 z3:=sizeOf3
 v3:=zeroValue3
 t4:=underlying4
 a4:=isAgg4
 z4:=sizeOf4
 v4:=zeroValue4
 t5:=underlying5
 a5:=isAgg5
 z5:=sizeOf5
 v5:=zeroValue5
 t9:=underlying9
 a9:=isAgg9
 z9:=sizeOf9
 v9:=zeroValue9
 t22:=underlying22
 a22:=isAgg22
 z22:=sizeOf22
 v22:=zeroValue22
 t25:=underlying134
 a25:=isAgg134
 z25:=sizeOf134
 v25:=zeroValue134
 t39:=underlying94
 a39:=isAgg94
 z39:=sizeOf94
 v39:=zeroValue94
 t45:=underlying218
 a45:=isAgg218
 z45:=sizeOf218
 v45:=zeroValue218
 t46:=underlying219
 a46:=isAgg219
 z46:=sizeOf219
 v46:=zeroValue219
 t50:=underlying78
 a50:=isAgg78
 z50:=sizeOf78
 v50:=zeroValue78
 t53:=underlying55
 a53:=isAgg55
 z53:=sizeOf55
 v53:=zeroValue55
 t55:=underlying54
 a55:=isAgg54
 z55:=sizeOf54
 v55:=zeroValue54
 t66:=underlying228
 a66:=isAgg228
 z66:=sizeOf228
 v66:=zeroValue228
 t70:=underlying231
 a70:=isAgg231
 z70:=sizeOf231
 v70:=zeroValue231
 t76:=underlying233
 a76:=isAgg233
 z76:=sizeOf233
 v76:=zeroValue233
 t77:=underlying234
 a77:=isAgg234
 z77:=sizeOf234
 v77:=zeroValue234
}
set_option maxRecDepth 100000
open Go.Proofs Tryz
theorem MV:cI prog 161 ia:=⟨sizeOf161,isAgg161⟩
def Oy:List Value:=[.pointer none]
theorem Oz:∀m,(kPt bp).R m Oy none:=λ_=>rfl
theorem MW:cI prog 120 bp:=⟨sizeOf120,isAgg120⟩
noncomputable def Sz:Sg:=I6 [(32,⟨Ap,kAp⟩),(57,⟨aF,bm⟩),(59,⟨aa,ah⟩),(187,⟨aL,bT⟩),(34,⟨bg,cw⟩),(120,⟨ay,bp⟩),(161,⟨ae,ia⟩),(65,⟨(Option ay),(kPt bp)⟩)]
noncomputable def ti2:TI prog Sz 2:=kX underlying2 sizeOf2 isAgg2 zeroValue2 rfl (by decide)
noncomputable def ti3:TI prog Sz 3:=kX underlying3 sizeOf3 isAgg3 zeroValue3 rfl (by decide)
noncomputable def ti4:TI prog Sz 4:=DP underlying4 sizeOf4 isAgg4 zeroValue4 rfl
noncomputable def ti5:TI prog Sz 5:=kX underlying5 sizeOf5 isAgg5 zeroValue5 rfl (by decide)
noncomputable def ti6:TI prog Sz 6:=kX underlying6 sizeOf6 isAgg6 zeroValue6 rfl (by decide)
noncomputable def ti9:TI prog Sz 9:=Cm underlying9 sizeOf9 isAgg9 zeroValue9 rfl
noncomputable def OA:TI prog Sz 10:=Cm underlying10 sizeOf10 isAgg10 zeroValue10 rfl
noncomputable def OB:TI prog Sz 11:=Cm underlying11 sizeOf11 isAgg11 zeroValue11 rfl
noncomputable def OC:TI prog Sz 12:=kX underlying12 sizeOf12 isAgg12 zeroValue12 rfl (by decide)
noncomputable def OD:TI prog Sz 21:=kX underlying21 sizeOf21 isAgg21 zeroValue21 rfl (by decide)
noncomputable def OE:TI prog Sz 25:=kX underlying25 sizeOf25 isAgg25 zeroValue25 rfl (by decide)
noncomputable def JS:TI prog Sz 54:=kX underlying54 sizeOf54 isAgg54 zeroValue54 rfl (by decide)
noncomputable def JT:TI prog Sz 55:=kX underlying55 sizeOf55 isAgg55 zeroValue55 rfl (by decide)
noncomputable def OF:TI prog Sz 94:=kX underlying94 sizeOf94 isAgg94 zeroValue94 rfl (by decide)
noncomputable def MX:TI prog Sz 218:=kX underlying218 sizeOf218 isAgg218 zeroValue218 rfl (by decide)
noncomputable def OG:TI prog Sz 24:=rR _ (slI ti5 _ 1 underlying24 sizeOf5 el5 type5 rfl rfl rfl) sizeOf24 isAgg24 zeroValue24 rfl
noncomputable def JU:TI prog Sz 32:=rS ej zeroValue32 Ap.zero oC
noncomputable def OH:TI prog Sz 49:=rR _ (slI ti3 _ 8 underlying49 sizeOf3 el3 type3 rfl rfl rfl) sizeOf49 isAgg49 zeroValue49 rfl
noncomputable def OI:TI prog Sz 57:=rS va zeroValue57 aF.zero JQ
noncomputable def MY:TI prog Sz 143:=rR _ (slI ti2 _ 8 underlying143 sizeOf2 el2 type2 rfl rfl rfl) sizeOf143 isAgg143 zeroValue143 rfl
noncomputable def MZ:TI prog Sz 189:=rR _ (slI JS _ 8 underlying189 sizeOf54 JN type54 rfl rfl rfl) sizeOf189 isAgg189 zeroValue189 rfl
noncomputable def JV:TI prog Sz 22:=rR _ (slI JU _ 40 underlying22 sizeOf32 Am type32 rfl rfl rfl) sizeOf22 isAgg22 zeroValue22 rfl
noncomputable def OK:TI prog Sz 34:=rS u9 zeroValue34 bg.zero u7
noncomputable def M0:TI prog Sz 161:=rS MV zeroValue161 ae.zero GZ
noncomputable def G0:TI prog Sz 187:=rS MQ zeroValue187 aL.zero CW
noncomputable def JW:TI prog Sz 59:=rS qE zeroValue59 aa.zero tN
noncomputable def M1:TI prog Sz 126:=rR _ (slI JV _ 24 underlying126 sizeOf22 Ox type22 rfl rfl rfl) sizeOf126 isAgg126 zeroValue126 rfl
noncomputable def M2:TI prog Sz 185:=rR _ (slI G0 _ 48 underlying185 sizeOf187 GY type187 rfl rfl rfl) sizeOf185 isAgg185 zeroValue185 rfl
noncomputable def OL:TI prog Sz 50:=rR _ (slI JW _ 48 underlying50 sizeOf59 CY type59 rfl rfl rfl) sizeOf50 isAgg50 zeroValue50 rfl
noncomputable def M3:TI prog Sz 120:=rS MW zeroValue120 ay.zero yA
noncomputable def OM:TI prog Sz 65:=rS Ow zeroValue65 none Oz
noncomputable def M4:AI prog Sz 177:=arI JT 16 underlying177 sizeOf55 zeroValue177 rfl rfl
noncomputable def M5:AI prog Sz 178:=arI ti5 4 underlying178 sizeOf5 zeroValue178 rfl rfl
noncomputable def M6:AI prog Sz 224:=arI ti5 8 underlying224 sizeOf5 zeroValue224 rfl rfl
noncomputable def JX:FI prog Sz 32 0:=⟨(.int .i64),⟨0,λx=>x.fKind,λx y=>{ x with fKind:=y },Jr,Ey⟩,Ao⟩
noncomputable def JY:FI prog Sz 32 1:=⟨.bool,⟨1,λx=>x.fBool,λx y=>{ x with fBool:=y },Js,Jt⟩,JK⟩
noncomputable def JZ:FI prog Sz 32 2:=⟨(.int .i64),⟨2,λx=>x.fInt,λx y=>{ x with fInt:=y },Ju,Jv⟩,rt⟩
noncomputable def J0:FI prog Sz 32 3:=⟨.str,⟨3,λx=>x.fText,λx y=>{ x with fText:=y },Jw,Jx⟩,JL⟩
noncomputable def ON:BI prog Sz 32:=⟨_,[(0,1),(1,1),(2,1),(3,1)],Ap.zero,_,underlying32,rfl,zeroValue32,oC,rfl⟩
noncomputable def J1:FI prog Sz 57 0:=⟨(.int .u64),⟨0,λx=>x.fEpoch,λx y=>{ x with fEpoch:=y },JF,EE⟩,EK⟩
noncomputable def J3:FI prog Sz 57 1:=⟨(.int .u32),⟨1,λx=>x.fNumber,λx y=>{ x with fNumber:=y },JG,EF⟩,EL⟩
noncomputable def OO:BI prog Sz 57:=⟨_,[(0,1),(1,1)],aF.zero,_,underlying57,rfl,zeroValue57,JQ,rfl⟩
noncomputable def J4:FI prog Sz 59 0:=⟨(.st 57),⟨0,λx=>x.fId,λx y=>{ x with fId:=y },vT,Al⟩,ov⟩
noncomputable def J5:FI prog Sz 59 1:=⟨(.sl (.st 32)),⟨2,λx=>x.fRow,λx y=>{ x with fRow:=y },JH,EG⟩,mW⟩
noncomputable def J6:FI prog Sz 59 2:=⟨(.int .u64),⟨3,λx=>x.fDeleted,λx y=>{ x with fDeleted:=y },JI,EH⟩,EM⟩
noncomputable def OP:BI prog Sz 59:=⟨_,[(0,2),(2,1),(3,1)],aa.zero,_,underlying59,rfl,zeroValue59,tN,rfl⟩
noncomputable def Ij:FI prog Sz 187 0:=⟨(.int .i64),⟨0,λx=>x.fMany,λx y=>{ x with fMany:=y },H9,w7⟩,xa⟩
noncomputable def Ik:FI prog Sz 187 1:=⟨(.st 32),⟨1,λx=>x.fValue,λx y=>{ x with fValue:=y },Ia,BE⟩,BJ⟩
noncomputable def M7:BI prog Sz 187:=⟨_,[(0,1),(1,4)],aL.zero,_,underlying187,rfl,zeroValue187,CW,rfl⟩
noncomputable def J7:FI prog Sz 34 0:=⟨(.int .i64),⟨0,λx=>x.fKind,λx y=>{ x with fKind:=y },Jy,Ez⟩,Au⟩
noncomputable def J8:FI prog Sz 34 1:=⟨(.int .i64),⟨1,λx=>x.fMany,λx y=>{ x with fMany:=y },Jz,EA⟩,EJ⟩
noncomputable def J9:FI prog Sz 34 2:=⟨(.st 32),⟨2,λx=>x.fMin,λx y=>{ x with fMin:=y },JA,EB⟩,Aq⟩
noncomputable def Ka:FI prog Sz 34 3:=⟨(.st 32),⟨6,λx=>x.fMax,λx y=>{ x with fMax:=y },JB,EC⟩,Ar⟩
noncomputable def Kb:FI prog Sz 34 4:=⟨(.int .i64),⟨10,λx=>x.fNulls,λx y=>{ x with fNulls:=y },JC,ED⟩,tM⟩
noncomputable def Kc:FI prog Sz 34 5:=⟨(.int .i64),⟨11,λx=>x.fBytes,λx y=>{ x with fBytes:=y },JD,JE⟩,vY⟩
noncomputable def OQ:BI prog Sz 34:=⟨_,[(0,1),(1,1),(2,4),(6,4),(10,1),(11,1)],bg.zero,_,underlying34,rfl,zeroValue34,u7,rfl⟩
noncomputable def Il:FI prog Sz 120 0:=⟨(.int .i64),⟨0,λx=>x.fColumns,λx y=>{ x with fColumns:=y },BF,BG⟩,mA⟩
noncomputable def Im:FI prog Sz 120 1:=⟨(.sl (.int .i64)),⟨1,λx=>x.fSort,λx y=>{ x with fSort:=y },w8,BH⟩,nG⟩
noncomputable def In:FI prog Sz 120 2:=⟨(.sl (.st 59)),⟨2,λx=>x.fL,λx y=>{ x with fL:=y },rq,If⟩,nH⟩
noncomputable def M8:BI prog Sz 120:=⟨_,[(0,1),(1,1),(2,1)],ay.zero,_,underlying120,rfl,zeroValue120,yA,rfl⟩
noncomputable def Io:FI prog Sz 161 0:=⟨(.sl (.int .u8)),⟨0,λx=>x.fB,λx y=>{ x with fB:=y },Ib,Ic⟩,Ig⟩
noncomputable def Ip:FI prog Sz 161 1:=⟨.bool,⟨1,λx=>x.fOk,λx y=>{ x with fOk:=y },Id,Ie⟩,Ih⟩
noncomputable def M9:BI prog Sz 161:=⟨_,[(0,1),(1,1)],ae.zero,_,underlying161,rfl,zeroValue161,GZ,rfl⟩
noncomputable def Ke:EI prog Sz 32:=⟨inferInstanceAs (DecidableEq Ap),w9,rfl⟩
noncomputable def Kf:EI prog Sz 57:=⟨inferInstanceAs (DecidableEq aF),JO,rfl⟩
noncomputable def OR:NI prog Sz 65:=⟨120,λx=>x,_,underlying65,λ_ _ _ h=>h⟩
noncomputable def Γ:Tab prog Sz:=⟨rQ [⟨2,ti2⟩,⟨3,ti3⟩,⟨4,ti4⟩,⟨5,ti5⟩,⟨6,ti6⟩,⟨9,ti9⟩,⟨10,OA⟩,⟨11,OB⟩,⟨12,OC⟩,⟨21,OD⟩,⟨22,JV⟩,⟨24,OG⟩,⟨25,OE⟩,⟨32,JU⟩,⟨34,OK⟩,⟨49,OH⟩,⟨50,OL⟩,⟨54,JS⟩,⟨55,JT⟩,⟨57,OI⟩,⟨59,JW⟩,⟨65,OM⟩,⟨94,OF⟩,⟨120,M3⟩,⟨126,M1⟩,⟨143,MY⟩,⟨161,M0⟩,⟨185,M2⟩,⟨187,G0⟩,⟨189,MZ⟩,⟨218,MX⟩],rQ [⟨177,M4⟩,⟨178,M5⟩,⟨224,M6⟩],zB [⟨32,0,JX⟩,⟨32,1,JY⟩,⟨32,2,JZ⟩,⟨32,3,J0⟩,⟨57,0,J1⟩,⟨57,1,J3⟩,⟨59,0,J4⟩,⟨59,1,J5⟩,⟨59,2,J6⟩,⟨187,0,Ij⟩,⟨187,1,Ik⟩,⟨34,0,J7⟩,⟨34,1,J8⟩,⟨34,2,J9⟩,⟨34,3,Ka⟩,⟨34,4,Kb⟩,⟨34,5,Kc⟩,⟨120,0,Il⟩,⟨120,1,Im⟩,⟨120,2,In⟩,⟨161,0,Io⟩,⟨161,1,Ip⟩],rQ [⟨32,Ke⟩,⟨57,Kf⟩],rQ [⟨32,ON⟩,⟨57,OO⟩,⟨59,OP⟩,⟨187,M7⟩,⟨34,OQ⟩,⟨120,M8⟩,⟨161,M9⟩],rQ [⟨65,OR⟩]⟩
noncomputable def mC {f:FuncId} {ps:List Pm} {rs:List Rm} {g:cU Sz ps->Option (aZ Sz (fm ps rs))} (ok:Ctr Sz prog f ps rs g) (h:∀vs w,(callFunc f vs).run prog w= .ok (.enter f vs) w):CS prog Sz:=⟨f,ps,rs,g,ok,h⟩
theorem ncR {f:FuncId}{fn:Func}{n:Nat}{ps:List Pm}{rs:List Rm}{g:cU Sz ps->Option (aZ Sz (fm ps rs))}(D:List (CS prog Sz))(res:List Nat)(hf:prog.funcs[f]? =some fn)(W:fn.ntmps=n)(A:An Sz (aZ Sz (fm ps rs)))(h:∀x,exF n Γ D (fn.body.getD .skip) ps rs res A x=g x)
  (hA:A.nc=true:=by exact rfl) (J:fn.body=some (fn.body.getD .skip):=by exact rfl) (Z:Nat.ble ps.length n=true:=by exact rfl) (a0:fn.results.toList=res.map ResultVar.tmp:=by exact rfl):Ctr Sz prog f ps rs g:=Ctr.nc A hA mixed hf J W Z a0 h
theorem nxR {f:FuncId}{fn:Func}{n:Nat}{ps:List Pm}{rs:List Rm}{g:cU Sz ps->Option (aZ Sz (fm ps rs))}(D:List (CS prog Sz))(res:List ResultVar)(hf:prog.funcs[f]? =some fn)(W:fn.ntmps=n)(A:An Sz (aZ Sz (fm ps rs)))(h:∀x,exX n Γ D (fn.body.getD .skip) ps rs res A x=g x)
  (hA:A.nc=true:=by exact rfl) (J:fn.body=some (fn.body.getD .skip):=by exact rfl) (Z:Nat.ble ps.length n=true:=by exact rfl) (a0:fn.results.toList=res:=by exact rfl):Ctr Sz prog f ps rs g:=Ctr.nX A hA mixed hf J W Z a0 h
end Go.Proofs.YthbonoagbeilkaaGreat.Hay
