import Derived.Test.YthbonoagbeilkaaGreatExQ
import Derived.Test.YthbonoagbeilkaaGreatHbW
import Derived.Test.YthbonoagbeilkaaGreatProg
import Derived.Test.YthbonoagbeilkaaGreatHbA
import Derived.Shelf.SlSortCmp.NoneTotal
import Derived.Shelf.SlLaysF0
namespace Go.Proofs.YthbonoagbeilkaaGreat.Hay
open Option renaming bind_some→qk,bind_assoc→Zo,map_some→Xa
open List renaming length_append→kz,getElem?_eq_getElem→Q0,drop_eq_getElem_cons→Q1,getElem_mem→Q2,take_of_length_le→Q3,eq_nil_of_length_eq_zero→Q4,take_append_drop→Q5,append_assoc→Q6,take_succ_eq_append_getElem→Q7,length_cons→Q9,replicate→Qa,take_length→Qb,drop_of_length_le→Qc,length_singleton→Qd,range→Qe,map_append→Qh,mem_append→Qj,cons_append→Qk,nil_append→Qm,drop_left→Qp,drop_zero→Qq,append_nil→Qr,getElem?_eq_some_iff→Qs,all_eq_true→Qt,pairwise_append→Qu,length_map→Qv,length_pos_iff→Qw,getElem_of_mem→Qx,mem_map→Z1,flatMap_cons→Z2,take_left'→Z3,drop_left'→Z4,pairwise_iff_getElem→Z6,mem_cons→Z8,mem_singleton→Zb,take_append_of_le_length→Zd,length_replicate→Ze,drop_length→Zi,getElem?_append_right→Zl,flatten_append→Zm,map_congr_left→Zn,getElem?_append_left→Zp,mem_replicate→Zq,pairwise_cons→Zr,eq_of_mem_replicate→Zs,take_add_one→Zt,mem_range→Zu,length_eq_one_iff→Zv,getElem_map→Zw,length_take→Zx,length_drop→Zy,singleton_append→Zz,foldl_cons→X3,take_left→X5,length→X7,map_cons→Xb,map_take→Xc
open Nat renaming le_refl→Qg,two_pow_add_eq_or_of_lt→Qy,pow_le_pow_right→Z0,strongRecOn→Za,mul_le_mul→Zc,mul_le_mul_left→Zg,lt_of_lt_of_le→Zk
open Bool renaming and_eq_true→Qn,not_eq_true'→Qo,false_eq_true→Qz,or_eq_false_iff→Z5,eq_false_or_eq_true→Z7,and_eq_false_iff→Zf,not_true→X9
open Int renaming eq_ofNat_of_zero_le→Q8,emod_eq_of_lt→Qi,natCast_pow→Zh,fdiv_eq_ediv_of_nonneg→Zj,mul_comm→X8
open BitVec renaming ofInt→Ql,toNat_ofInt→Z9
open IntKind renaming i64→Qf,u64→X4,u8→X6,u32→Xd
theorem fR {kind:Int}{l:List Ap}{b:List Int}(h:enc kind l=(b,0)):(0<=kind/\kind<=4)/\l.length<=64/\l.all right=true/\((kind=2\/kind=4)->lq l=true)/\((l=[]/\b=[])\/(l≠[]/\b=qj kind l)):=by
 unfold enc at h;split at h
 ·cases h
 rename_i h1;split at h
 ·cases h
 rename_i h2;split at h
 ·cases h
 rename_i Z;split at h
 ·cases h
 rename_i h4;refine⟨by omega,by omega,by simpa using Z,λW=>?_,?_⟩
 ·cases hi:lq l with
  |true=>rfl
  |false=>exact absurd ⟨W,hi⟩ h4
 ·split at h
  ·rename_i J;left;exact⟨J,(Prod.mk.inj h).1.symm⟩
  ·rename_i J;right;exact⟨J,(Prod.mk.inj h).1.symm⟩
def M0 (kind:Int)(b:List Int)(many:Nat)(g:List Ap)(ok:Bool):Prop:= ∀l:List Ap,(∀v∈l,Rgt v)->l.length=many->enc kind l=(b,0)->g=l/\ok=true
def jH (kind:Int)(b:List Int)(many:Nat)(x:List Ap×ah):Prop:=(∀v∈x.1,VOK v)/\x.1.length<=1048576/\M0 kind b many x.1 x.2.fOk
theorem Bt {l:List Ap}{k:Nat}(h:k<l.length):nS (l.drop k)=bv l[k]++nS (l.drop (k+1)):=by
 unfold nS;rw[Q1 h,Z2]
theorem ub {v:Ap}(h:Rgt v){r:List Int}{ok:Bool}{rest:List Int}(J:r=bv v++rest)(Z:Byt r)(W:r.length<140737488355328):cY ⟨r,ok⟩=some (v,⟨rest,ok⟩):=by
 rw[Ao Z W];dsimp only;rw[J,o4 h];dsimp only;rw[Qp]
theorem uc {r:ah}(J:Byt r.fB)(W:r.fB.length<140737488355328):∃v r',cY r=some (v,r')/\Rgt v/\Byt r'.fB/\r'.fB.length<=r.fB.length/\(r.fOk=false->r'.fOk=false):=by
 rw[Ao J W];cases hp:bI r.fB with
 |none=>exact⟨_,_,rfl,.null,J,Qg _,λ_=>rfl⟩
 |some x=>
  obtain⟨v,n⟩:=x;exact⟨_,_,rfl,(lU J hp).1,J.drop _,by simp,λh=>h⟩
theorem Bu {b:List Int}{many:Nat}(hb:Byt b)(hl:b.length<140737488355328)(hm:1<=many/\many<=64):∃x,bB ⟨b,true⟩ 0 (many:Int)=some x/\jH 0 b many x:=by
 unfold bB;rw[if_pos (by decide)];refine fe (I:=λs:List Ap×ah=>Byt s.2.fB/\s.2.fB.length<140737488355328/\(∀v∈s.1,Rgt v)/\s.1.length<=many/\∀l:List Ap,(∀v∈l,Rgt v)->l.length=many->b=nS l->s.1=l.take s.1.length/\s.2=⟨nS (l.drop s.1.length),true⟩) (μ:=λs=>many - s.1.length) (Q:=jH 0 b many) ?_ ⟨hb,hl,by simp,by simp,λl _ _ h=>⟨rfl,by rw[h];rfl⟩⟩;rintro ⟨a0,r⟩ ⟨h1,h2,h3,h4,h5⟩;dsimp only at*
 have a1:a0.length=many\/r.fOk=false->jH 0 b many (a0,r):=λh=>⟨λv hv=>(h3 v hv).ok,by dsimp only;omega,λl hr J W=>by
  obtain⟨_,_,_,_,W⟩:=fR W
  have a2:b=nS l:=by
   rcases W with⟨e,_⟩|⟨_,e⟩
   ·subst e;simp at J;omega
   ·exact e
  obtain⟨g1,g2⟩:=h5 l hr J a2;subst g2;rcases h with h|h
  ·rw[h,←J,Qb] at g1;exact⟨g1,rfl⟩
  ·cases h⟩
 unfold mz jz bJ
 by_cases hlt:a0.length<many
 ·rw [if_pos (decide_eq_true (by omega))]
  cases hok:r.fOk with
  |false=>right;exact⟨_,rfl,a1 (.inr hok)⟩
  | true=>
   left;rw[if_pos rfl];obtain⟨v,r',e1,e2,e3,e4,_⟩:=uc h1 h2;rw[e1,qk,aS (by simp;omega),qk];refine⟨_,rfl,⟨e3,by dsimp only;omega,λx Z=>?_,by simp;omega,λl hr J W=>?_⟩,by simp;omega⟩
   ·rcases Qj.1 Z with Z|Z
    ·exact h3 x Z
    ·have:x=v:=by simpa using Z
     subst this;exact e2
   ·obtain⟨g1,g2⟩:=h5 l hr J W
    subst g2;have hk:a0.length<l.length:=by omega
    have:=ub (hr _ (Q2 hk)) (ok:=true) (Bt hk) h1 h2;rw[this] at e1;obtain⟨rfl,rfl⟩:=Prod.mk.inj (Option.some.inj e1);refine⟨?_,by simp⟩;simp only[kz,Qd];rw[Q7 hk,←g1]
 ·right
  rw[if_neg (by simp;omega),if_neg (by decide)];exact⟨_,rfl,a1 (.inl (by omega))⟩
theorem M1:∀n:_root_.Fin 256,py 1 ((n.val:Nat):Int)=some (0,((n.val:Nat):Int)):=by decide+kernel
theorem Eo (v:Ap){n:Nat}(hn:n<=255):eI [v] (n:Int)=some (Qa n v):=by
 have W:py 1 (n:Int)=some (0,(n:Int)):=M1 ⟨n,by omega⟩;have e1:X4.wrap ((([v]:List Ap).length:Nat):Int)=1:=by rw[cA];rfl
 have e2:X4.wrap (n:Int)=(n:Int):=by rw[cA];omega
 unfold eI gG sJ;rw[if_neg (by simp),e1,e2,W,qk,qk];unfold eN gF;dsimp only;rw[if_neg (by simp),if_neg (by simp;omega)];rw[ak (by omega),sM (by omega),qk];refine nz (I:=λs:Int×List Ap=>∃k:Nat,s.1=(k:Int)/\k<=n/\(0<n->0<k)/\s.2=Qa k v++Qa (n - k) Ap.zero) (μ:=λs=>n - s.1.toNat) ?_ ?_
 ·rintro ⟨_,_⟩ ⟨k,rfl,hk,a0,rfl⟩
  dsimp only;unfold gE gD;have J:(Qa k v++Qa (n - k) Ap.zero).length=n:=by simp;omega
  by_cases hlt:k<n
  ·left
   have a3:vw (Qa k v++Qa (n - k) Ap.zero) (k:Int) ((Qa k v++Qa (n - k) Ap.zero).length:Int)=some (k,n - k):=by
    unfold vw;rw[if_pos (by omega),J];simp
   have a1:vw (Qa k v++Qa (n - k) Ap.zero) 0 (k:Int)=some (0,k):=by
    unfold vw;rw[if_pos (by omega)];simp
   have a2:Nat.ble (min k (n - k)) cd=true:=Nat.ble_eq_true_of_le (by unfold cd;omega);rw[if_pos (by rw[J];exact decide_eq_true (by omega)),a3,qk,a1,qk];dsimp only;rw[qd a2,qk]
   have hc:cpv (Qa k v++Qa (n - k) Ap.zero) (k,n - k) (0,k)=some (Qa (k+min k (n - k)) v++Qa (n - (k+min k (n - k))) Ap.zero):=by
    unfold cpv;rw[if_pos (by dsimp only;omega)];dsimp only;unfold spl
    have Z:((Qa k v++Qa (n - k) Ap.zero).drop 0).take (min k (n - k))=Qa (min k (n - k)) v:=by
     rw[Qq,Zd (by simp;omega)];rw[List.take_replicate];congr 1;omega
    rw[Z,Z3 (by simp),Ze,List.drop_append,List.drop_replicate,List.drop_replicate,Ze];have e4:k - (k+min k (n - k))=0:=by omega
    have e5:n - k - (k+min k (n - k) - k)=n - (k+min k (n - k)):=by omega
    rw[e4,e5,←Q6,←List.replicate_append_replicate];simp
   rw[hc,qk];refine⟨_,rfl,⟨k+min k (n - k),?_,by omega,by omega,rfl⟩,?_⟩
   ·dsimp only;rw[ak (by omega)];omega
   ·dsimp only;rw[ak (by omega)]
    have:=a0 (by omega);omega
  ·right
   have:k=n:=by omega
   subst this;rw[if_neg (by rw[J];simp)];simp
 ·refine⟨min 1 n,by simp,by omega,by omega,?_⟩
  dsimp only;unfold cpy;rcases Nat.eq_zero_or_pos n with h|h
  ·subst h;rfl
  ·have:min 1 n=1:=by omega
   rw[this];have e:n=(n - 1)+1:=by omega
   rw[e,List.replicate_succ];simp
def tk1 (r:ah):List Int×ah:=match r.fB with|[]=>([0],⟨[],false⟩)|c::t=>([c],⟨t,r.fOk⟩)
theorem take_one (r:ah):cp r 1=some (tk1 r):=by
 have:=xw (r:=r) (n:=1) (by omega);rw[show((1:Nat):Int)=1 from rfl] at this;rw[this];obtain⟨b,ok⟩:=r;unfold tk1;cases b with
 |nil=>rfl
 |cons c t=>simp
theorem sO (c:Int)(t:List Int)(ok:Bool):tk1 ⟨c::t,ok⟩=([c],⟨t,ok⟩):=rfl
theorem uK (r:ah)(h:Byt r.fB):∃c r1,tk1 r=([c],r1)/\(0<=c/\c<256)/\Byt r1.fB/\r1.fB.length<=r.fB.length/\(r1.fOk=false\/(r.fB=c::r1.fB/\r1.fOk=r.fOk)):=by
 obtain⟨b,ok⟩:=r;cases b with
 |nil=>exact⟨0,⟨[],false⟩,rfl,by decide,.nil,Qg _,.inl rfl⟩
 |cons c t=>exact⟨c,⟨t,ok⟩,rfl,h.head,h.tail,by simp,.inr ⟨rfl,rfl⟩⟩
def wC (rs:List aM):List Int:=rs.flatMap λr=>r.fMany::bv r.fValue
theorem wD {rs:List aM}{j:Nat}(h:j<rs.length):gq (rs.take (j+1))=gq (rs.take j)++Qa rs[j].fMany.toNat rs[j].fValue:=by
 unfold gq;rw[Q7 h,List.flatMap_append,List.flatMap_singleton]
theorem ud (rs:List aM)(j:Nat):gq rs=gq (rs.take j)++gq (rs.drop j):=by
 unfold gq;rw[←List.flatMap_append,Q5]
theorem C2 {b:List Int}{many:Nat}(hb:Byt b)(hl:b.length<140737488355328)(hm:1<=many/\many<=64):∃x,bB ⟨b,true⟩ 1 (many:Int)=some x/\jH 1 b many x:=by
 unfold bB;rw[if_neg (by decide),if_pos (by decide)];refine fe (I:=λs:List Ap×ah=>Byt s.2.fB/\s.2.fB.length<140737488355328/\(∀v∈s.1,Rgt v)/\s.1.length<=many/\∀l:List Ap,(∀v∈l,Rgt v)->l.length=many->b=uJ l->∃j,j<=(cJ l).length/\s.1=gq ((cJ l).take j)/\s.2=⟨wC ((cJ l).drop j),true⟩) (μ:=λs=>if s.2.fOk then s.2.fB.length+1 else 0) (Q:=jH 1 b many) ?_ ⟨hb,hl,by simp,by simp,λl _ _ h=>⟨0,by omega,rfl,by rw[h];rfl⟩⟩;rintro ⟨J,r⟩ ⟨h1,h2,h3,h4,h5⟩;dsimp only at*
 have a3:J.length=many\/r.fOk=false->jH 1 b many (J,r):=λh=>⟨λv hv=>(h3 v hv).ok,by dsimp only;omega,λl hr a0 Z=>by
  obtain⟨_,_,_,_,Z⟩:=fR Z
  have b0:b=uJ l:=by
   rcases Z with⟨e,_⟩|⟨_,e⟩
   ·subst e;simp at a0;omega
   ·exact e
  obtain⟨j,g0,W,g2⟩:=h5 l hr a0 b0;subst g2;rcases h with h|h
  ·refine⟨?_,rfl⟩
   have h6:=ud (cJ l) j;rw[o6.2.2,←W] at h6;have h7:=congrArg X7 h6;simp only[kz] at h7;have h8:gq ((cJ l).drop j)=[]:=Q4 (by omega);rw[h8,Qr] at h6;exact h6.symm
  ·cases h⟩
 unfold mA jA bJ
 by_cases hlt:J.length<many
 ·rw [if_pos (decide_eq_true (by omega))]
  cases hok:r.fOk with
  |false=>right;exact⟨_,rfl,a3 (.inr hok)⟩
  | true=>
   left;rw[if_pos rfl,take_one,qk];obtain⟨rb,b5⟩:=r;dsimp only at*;subst hok;obtain⟨c,r1,e1,hc,a5,a1,a2⟩:=uK ⟨rb,true⟩ h1;replace a1:r1.fB.length<140737488355328:=by dsimp only at a1;omega
   dsimp only at a2;rw[e1];dsimp only;rw[dx,qk];obtain⟨v,r',f1,f2,f3,f4,f5⟩:=uc a5 a1;obtain⟨cn,rfl⟩:=Q8 hc.1
   have hn:(if (Qf.wrap ((many:Int) - (J.length:Int)))<(Qf.wrap (cn:Int)) then Qf.wrap ((many:Int) - (J.length:Int)) else Qf.wrap (cn:Int))=((min cn (many - J.length):Nat):Int):=by
    rw[ak (by omega),ak (by omega)];split<;>omega
   rw[f1,qk];dsimp only;rw[hn,Eo v (by omega),qk,aS (by simp;omega),qk];refine⟨_,rfl,⟨f3,by dsimp only;omega,λx hx=>?_,by simp;omega,λl hr a0 Z=>?_⟩,?_⟩
   ·rcases Qj.1 hx with hx|hx
    ·exact h3 x hx
    ·have:=(Zq.1 hx).2
     subst this;exact f2
   ·obtain⟨j,g0,W,g2⟩:=h5 l hr a0 Z
    obtain⟨rfl,_⟩:=ah.mk.inj g2;obtain⟨q1,q2,q3⟩:=o6 (l:=l)
    have hj:j<(cJ l).length:=by
     rcases Nat.lt_or_ge j (cJ l).length with h|h
     ·exact h
     ·rw[Q3 h,q3] at W
      rw[W] at hlt;omega
    have hd:wC ((cJ l).drop j)=(cJ l)[j].fMany::(bv (cJ l)[j].fValue++wC ((cJ l).drop (j+1))):=by
     unfold wC;rw[Q1 hj,Z2];rfl
    have b4:=q1 _ (Q2 hj)
    have b3:((cn:Int)::r1.fB=(cJ l)[j].fMany::(bv (cJ l)[j].fValue++wC ((cJ l).drop (j+1))))/\r1.fOk=true:=by
     rcases a2 with h|⟨h,h'⟩
     ·exfalso
      rw[hd,sO] at e1;rw[←(Prod.mk.inj e1).2] at h;cases h
     ·rw[←hd,←h];exact⟨rfl,h'⟩
    obtain⟨b1,b2⟩:=b3;obtain⟨b6,a9⟩:=List.cons.inj b1;obtain⟨c0,b7⟩:=r1;dsimp only at*;subst b2;have hv:=ub (hr _ b4.2.2) (ok:=true) a9 a5 a1;rw[hv] at f1;obtain⟨rfl,rfl⟩:=Prod.mk.inj (Option.some.inj f1);refine⟨j+1,by omega,?_,by simp⟩;have a6:=wD hj;have a4:=ud (cJ l) (j+1);rw[q3,a6,←W] at a4;have:=congrArg X7 a4;simp only[kz,Ze] at this;rw[a6,←W];congr 2;omega
   ·dsimp only
    rcases a2 with h|⟨h,h'⟩
    ·rw[if_neg (by rw[f5 h];decide)];simp
    ·have:=congrArg X7 h
     simp only[Q9] at this;simp only[if_true];split<;>omega
 ·right
  rw[if_neg (by simp;omega),if_neg (by decide)];exact⟨_,rfl,a3 (.inl (by omega))⟩
theorem wE {r:ah}(hb:Byt r.fB):fI r=some (if r.fB.length<8 then (0,⟨[],false⟩) else (dW (r.fB.take 8),⟨r.fB.drop 8,r.fOk⟩)):=by
 have key:∀(t:List Int) (W:ah),Byt t->t.length=8->au (λs:(Int×Int)=>gh (t,W) s.1 s.2) (0,0)=some (dW t,W):=by
  intro t W ht hl;refine cj (λi=>(dW (t.take i),(i:Int))) 8 (by simp[dW]) (λi hi=>?_) ?_
  ·dsimp only
   unfold gh;have hi':i<t.length:=by omega
   have a0:=xr (t.take i) (ht.take i);have a1:=ht t[i] (Q2 hi')
   have hp:(256:Int)^(t.take i).length<=256^7:=by
    have:(t.take i).length<=7:=by simp;omega
    have h9:=Z0 (show 0<256 by omega) this;have J:=Int.ofNat_le.2 h9;simpa[Zh] using J
   have Z:=wv (x:=dW (t.take i)) (k:=8) (by omega);rw[show((8:Nat):Int)=8 from rfl] at Z
   have e:dW (t.take (i+1))=dW (t.take i)*256+t[i]:=by
    rw[Q7 hi',rj]
   have e1:dW (t.take i)*2^8%18446744073709551616=dW (t.take i)*2^8:=by omega
   have e2:t[i]%18446744073709551616=t[i]:=by omega
   dsimp only;rw[if_pos (decide_eq_true (by omega)),aH hi',qk,bD (by omega),Z,cA,e,e1,e2,Ef 8 (by omega) (by omega) (by omega) (by omega)]
   rfl
  ·unfold gh mc
   dsimp only;rw[if_neg (by rw[hl];simp),Q3 (by omega)];rfl
 unfold fI;have J:=xw (r:=r) (n:=8) (by omega);rw[show((8:Nat):Int)=8 from rfl] at J;rw[J,qk]
 by_cases h:r.fB.length<8
 ·rw[if_pos h,if_pos h,key _ _ (λc hc=>by rw[Zs hc];decide) (by simp)];rfl
 ·rw[if_neg h,if_neg h,key _ _ (hb.take _) (by simp;omega)]
theorem Ep {r:ah}(hb:Byt r.fB):∃x,eJ r=some x/\(Byt x.2.fB/\x.2.fB.length<=r.fB.length):=by
 unfold eJ;refine fe (I:=λs:Int×Int×ah=>∃k:Nat,s.2.1=(k:Int)/\k<=76/\Byt s.2.2.fB/\s.2.2.fB.length<=r.fB.length) (μ:=λs=>77 - s.2.1.toNat) (Q:=λx:Int×ah=>Byt x.2.fB/\x.2.fB.length<=r.fB.length) ?_ ⟨0,rfl,by omega,hb,Qg _⟩;rintro ⟨z,_,Z⟩ ⟨k,rfl,hk,h,W⟩;dsimp only at*;unfold jy gH my
 by_cases h70:(k:Int)<70
 ·rw[if_pos (decide_eq_true h70)]
  cases hok:Z.fOk with
  |false=>right;exact⟨_,rfl,h,W⟩
  | true=>
   rw[if_pos rfl,take_one,qk];obtain⟨c,r2,e1,hc,J,a0,_⟩:=uK Z h;rw[e1];dsimp only;rw[dx,qk,rS,qk]
   by_cases h128:c<128
   ·right;rw[if_pos (decide_eq_true h128)];exact⟨_,rfl,J,by dsimp only;omega⟩
   ·left;rw[if_neg (by simpa using h128)]
    refine⟨_,rfl,⟨k+7,?_,by omega,J,by dsimp only;omega⟩,?_⟩
    ·dsimp only;rw[ak (by omega)];rfl
    ·dsimp only;rw[ak (by omega)];omega
 ·right;rw[if_neg (by simpa using h70),if_neg (by decide)];exact⟨_,rfl,h,W⟩
theorem Jz:∀n:_root_.Fin 256,n.val&&&127=n.val%128:=by decide+kernel
theorem C3 (q:Nat):∃(c:Nat) (t:List Int),gj q=(c:Int)::t/\c<256/\c%128=q%128/\((c<128/\q<128/\t=[])\/(128<=c/\128<=q/\t=gj (q/128))):=by
 by_cases h:q<128
 ·exact⟨q,[],qh h,by omega,rfl,.inl ⟨h,h,rfl⟩⟩
 ·exact⟨q%128+128,_,sN h,by omega,by omega,.inr ⟨by omega,by omega,rfl⟩⟩
theorem Er {z:Nat}(hz:z<18446744073709551616)(rest:List Int):eJ ⟨gj z++rest,true⟩=some ((z:Int),⟨rest,true⟩):=by
 unfold eJ;have a6:(2:Nat)^64=18446744073709551616:=by decide
 refine nz (I:=λs:Int×Int×ah=>∃i:Nat,i<=9/\s=(((z%2^(7*i):Nat):Int),((7*i:Nat):Int),⟨gj (z/2^(7*i))++rest,true⟩)) (μ:=λs=>77 - s.2.1.toNat) ?_ ⟨0,by omega,by simp[Nat.mod_one]⟩;rintro _ ⟨i,hi,rfl⟩;dsimp only;unfold jy gH;obtain⟨c,t,e1,hc,a2,a0⟩:=C3 (z/2^(7*i))
 have a9:2^(7*i)*(z/2^(7*i)%128)+z%2^(7*i)<=z:=by
  have W:=Nat.div_add_mod z (2^(7*i));have Z:2^(7*i)*(z/2^(7*i)%128)<=2^(7*i)*(z/2^(7*i)):=Zg _ (Nat.mod_le _ _);omega
 have a4:z%2^(7*(i+1))=2^(7*i)*(z/2^(7*i)%128)+z%2^(7*i):=by
  rw[show 7*(i+1)=7*i+7 by omega,Nat.pow_add,Nat.mod_mul,show(2:Nat)^7=128 from rfl];omega
 have a3:z/2^(7*(i+1))=z/2^(7*i)/128:=by
  rw[show 7*(i+1)=7*i+7 by omega,Nat.pow_add,Nat.div_div_eq_div_mul]
 have a1:z%2^(7*i)<2^(7*i):=Nat.mod_lt _ (Nat.pow_pos (by decide))
 have a5:bOr .u64 ((z%2^(7*i):Nat):Int) (eK .u64 (X4.wrap (d4 .u8 (c:Int) 127)) ((7*i:Nat):Int))=((z%2^(7*(i+1)):Nat):Int):=by
  have W:d4 .u8 (c:Int) 127=((c%128:Nat):Int):=by
   have:=Jz ⟨c,hc⟩;simp only at this;rw[show(127:Int)=((127:Nat):Int) from rfl,Jr hc (by omega),this]
  rw[W,a2,cA,wv (by omega)]
  have Z:(((z/2^(7*i)%128:Nat):Int))%18446744073709551616=((z/2^(7*i)%128:Nat):Int):=by
   generalize z/2^(7*i)=q;omega
  have h3:(((z/2^(7*i)%128:Nat):Int))*2^(7*i)=((2^(7*i)*(z/2^(7*i)%128):Nat):Int):=by
   rw[Int.natCast_mul,Zh,X8];rfl
  rw[Z,h3]
  have h4:((2^(7*i)*(z/2^(7*i)%128):Nat):Int)%18446744073709551616=((2^(7*i)*(z/2^(7*i)%128):Nat):Int):=by
   generalize 2^(7*i)*(z/2^(7*i)%128)=u at*;omega
  rw[h4,Gm (by omega) (by omega),Nat.or_comm,←Qy a1,a4]
 rw[if_pos (decide_eq_true (by omega)),if_pos rfl,take_one,qk,e1,Qk,sO];dsimp only;rw[dx,qk,rS,qk,a5];rcases a0 with⟨g1,J,rfl⟩|⟨g1,J,rfl⟩
 ·right
  rw[if_pos (decide_eq_true (by omega))]
  have:z%2^(7*(i+1))=z:=by
   apply Nat.mod_eq_of_lt;rw[show 7*(i+1)=7*i+7 by omega,Nat.pow_add,Nat.mul_comm];have:=(Nat.div_lt_iff_lt_mul (Nat.pow_pos (n:=7*i) (show 0<2 by decide))).1 J;exact this
  rw[this];rfl
 ·left
  rw[if_neg (by simp;omega)];refine⟨_,rfl,⟨i+1,?_,?_⟩,?_⟩
  ·have W:128*2^(7*i)<=z:=(Nat.le_div_iff_mul_le (Nat.pow_pos (by decide))).1 J
   rcases Nat.lt_or_ge i 9 with h|h
   ·omega
   ·have:i=9:=by omega
    subst this;have:(128:Nat)*2^(7*9)=1180591620717411303424:=by decide
    omega
  ·rw[a3,ak (by omega)]
   congr 2
  ·dsimp only;rw[ak (by omega)];omega
theorem Id {a:Int}(J:cL a):ft .i64 a (-1)= -a - 1/\ft .i64 a 0=a:=by
 unfold ft;rw[lp,lp]
 have W:((Ql 64 a).toNat:Int)=a%18446744073709551616:=by
  rw[Z9];omega
 constructor
 ·show(((Ql 64 a^^^Ql 64 (-1)).toNat:Nat)+9223372036854775808:Int)%18446744073709551616 - 9223372036854775808=_
  have h:Ql 64 (-1)=BitVec.allOnes 64:=by decide
  rw[h,BitVec.xor_allOnes,BitVec.toNat_not];have:=(Ql 64 a).isLt;have e:(2:Nat)^64=18446744073709551616:=by decide
  unfold cL at J;omega
 ·show(((Ql 64 a^^^Ql 64 0).toNat:Nat)+9223372036854775808:Int)%18446744073709551616 - 9223372036854775808=_
  have h:Ql 64 0=0#64:=by decide
  rw[h,BitVec.xor_zero];unfold cL at J;omega
theorem M2 {d:Int}(h:cL d):ft .i64 (Qf.wrap (aO .u64 (zig d:Int) 1)) (Qf.wrap (0 - (Qf.wrap (d4 .u64 (zig d:Int) 1))))=d:=by
 have Z:=qi h;have h1:aO .u64 (zig d:Int) 1=((zig d/2:Nat):Int):=by have:=pE (x:=(zig d:Int)) (k:=1) (by omega);simpa using this
 have h2:d4 .u64 (zig d:Int) 1=((zig d%2:Nat):Int):=by
  rw[show(1:Int)=((1:Nat):Int) from rfl,Hi Z (by omega),Nat.and_one_is_mod]
 rw[h1,h2,ak (n:=((zig d/2:Nat):Int)) (by omega),ak (n:=((zig d%2:Nat):Int)) (by omega)];have J:cL ((zig d/2:Nat):Int):=by unfold cL;omega
 obtain⟨g1,W⟩:=Id J;unfold zig at*
 by_cases hd:d<0
 ·rw[if_pos hd] at*
  have:(0 - (((-2*d - 1).toNat%2:Nat):Int))= -1:=by omega
  rw[this,show Qf.wrap (-1)= -1 from by decide,g1];omega
 ·rw[if_neg hd] at*
  have:(0 - (((2*d).toNat%2:Nat):Int))=0:=by omega
  rw[this,show Qf.wrap 0=0 from by decide,W];omega
theorem Es {n m:Int}(h:cL m):Qf.wrap (n+Qf.wrap (m - n))=m:=by
 rw[lp,lp];unfold cL at h;omega
theorem Ie {v:Ap}(h:Rgt v)(J:v.fKind=2):v=io v.fInt:=by
 cases h<;>first|rfl|(simp at J)
theorem qY {l:List Ap}(h:lq l=true)(W:∀v∈l,Rgt v):∀v∈l,v=io v.fInt/\cL v.fInt:=λv J=>by
 have:=Qt.1 h v J;exact⟨Ie (W v J) (by simpa using this),(W v J).ok.int⟩
theorem Bv {b:List Int}{many:Nat}(hb:Byt b)(hl:b.length<140737488355328)(hm:1<=many/\many<=64):∃x,bB ⟨b,true⟩ 2 (many:Int)=some x/\jH 2 b many x:=by
 unfold bB;rw[if_neg (by decide),if_neg (by decide),if_pos (by decide),wE hb,qk];unfold d5;rw[qk,aS (by simp),qk];generalize J:(if ({ fB:=b,fOk:=true }:ah).fB.length<8 then ((0:Int),({ fB:=[],fOk:=false }:ah)) else (dW (({ fB:=b,fOk:=true }:ah).fB.take 8),⟨({ fB:=b,fOk:=true }:ah).fB.drop 8,true⟩))=x0
 have a5:Byt x0.2.fB/\x0.2.fB.length<140737488355328:=by
  rw[←J];dsimp only;split
  ·exact⟨.nil,by simp⟩
  ·exact⟨hb.drop _,by simp;omega⟩
 refine fe (I:=λs:List Ap×Int×ah=>Byt s.2.2.fB/\s.2.2.fB.length<140737488355328/\(∀v∈s.1,VOK v)/\s.1.length<=many/\∀l:List Ap,(∀v∈l,Rgt v)->l.length=many->lq l=true->b=o7 (l.map (·.fInt))->∃k,s.1.length=k+1/\s.1=l.take (k+1)/\s.2.1=(l.map (·.fInt)).getD k 0/\s.2.2=⟨((Qe (many - 1)).drop k).flatMap (mX (l.map (·.fInt))),true⟩) (μ:=λs=>many - s.1.length) (Q:=jH 2 b many) ?_ ⟨a5.1,a5.2,λv hv=>?_,by simp;omega,λl hr Z hi he=>?_⟩
 ·rintro ⟨a2,n,r⟩ ⟨h1,h2,h3,h4,h5⟩
  dsimp only at*
  have a4:a2.length=many\/r.fOk=false->jH 2 b many (a2,r):=λh=>⟨h3,by dsimp only;omega,λl hr Z he=>by
   obtain⟨_,_,_,hi,he⟩:=fR he
   have b0:b=o7 (l.map (·.fInt)):=by
    rcases he with⟨e,_⟩|⟨_,e⟩
    ·subst e;simp at Z;omega
    ·exact e
   obtain⟨k,g1,g2,g3,g4⟩:=h5 l hr Z (hi (.inl rfl)) b0;subst g4;rcases h with h|h
   ·rw[←g1,h,←Z,Qb] at g2;exact⟨g2,rfl⟩
   ·cases h⟩
  unfold mB jB bJ
  by_cases hlt:a2.length<many
  ·rw [if_pos (decide_eq_true (by omega))]
   cases hok:r.fOk with
   |false=>right;exact⟨_,rfl,a4 (.inr hok)⟩
   | true=>
    left;rw[if_pos rfl];obtain⟨⟨z,r'⟩,e1,e2,e3⟩:=Ep h1;rw[e1,qk];unfold d5;rw[qk,aS (by simp;omega),qk];dsimp only at e2 e3 ⊢;refine⟨_,rfl,⟨e2,by dsimp only;omega,λx J=>?_,by simp;omega,λl hr Z hi he=>?_⟩,by simp;omega⟩
    ·rcases Qj.1 J with J|J
     ·exact h3 x J
     ·have:x=io (Qf.wrap (n+(ft .i64 (Qf.wrap (aO .u64 z 1)) (Qf.wrap (0 - (Qf.wrap (d4 .u64 z 1))))))):=by simpa using J
      subst this;exact(Rgt.int _ (mH _)).ok
    ·obtain⟨k,g1,g2,g3,g4⟩:=h5 l hr Z hi he
     have hk:k+1<l.length:=by omega
     have a0:=qY hi hr;have W:∀i (h:i<l.length),(l.map (·.fInt)).getD i 0=l[i].fInt:=λi h=>by rw[B3 (by simpa using h)];simp
     have hd:(Qe (many - 1)).drop k=k::(Qe (many - 1)).drop (k+1):=by
      rw[Q1 (by simp;omega)];simp
     rw[hd,Z2] at g4
     have a9:mX (l.map (·.fInt)) k=gj (zig (Qf.wrap (l[k+1].fInt - l[k].fInt))):=by
      unfold mX;rw[W _ hk,W _ (by omega)]
     rw[a9] at g4;rw[g4,Er (qi (mH _))] at e1;obtain⟨rfl,rfl⟩:=Prod.mk.inj (Option.some.inj e1);rw[M2 (mH _),g3,W _ (by omega),Es (a0 _ (Q2 hk)).2];refine⟨k+1,by simp;omega,?_,(W _ hk).symm,rfl⟩;dsimp only;rw[Q7 hk,g2];congr 2;exact(a0 _ (Q2 hk)).1.symm
  ·right
   rw[if_neg (by simp;omega),if_neg (by decide)];exact⟨_,rfl,a4 (.inl (by omega))⟩
 ·have:v=io (Qf.wrap x0.1):=by simpa using hv
  subst this;exact(Rgt.int _ (mH _)).ok
 ·have h0:0<l.length:=by omega
  have a0:=qY hi hr;have W:∀i (h:i<l.length),(l.map (·.fInt)).getD i 0=l[i].fInt:=λi h=>by rw[B3 (by simpa using h)];simp
  have a3:=(a0 _ (Q2 h0)).2
  have a1:b=be8 (l[0].fInt%18446744073709551616)++(Qe (many - 1)).flatMap (mX (l.map (·.fInt))):=by
   rw[he];unfold o7;rw[W 0 h0,Qv,Z]
  have a6: ¬ b.length<8:=by rw[a1];simp[cf]
  dsimp only at J;rw[if_neg a6] at J;have h1:b.take 8=be8 (l[0].fInt%18446744073709551616):=by rw[a1];exact Z3 (cf _)
  have h2:b.drop 8=(Qe (many - 1)).flatMap (mX (l.map (·.fInt))):=by rw[a1];exact Z4 (cf _)
  rw[h1,h2,vp (by omega) (by omega)] at J;subst J;refine⟨0,rfl,?_,?_,rfl⟩
  ·dsimp only
   rw[Q7 h0,vq a3];simp only[List.take_zero,Qm];congr 1;exact(a0 _ (Q2 h0)).1.symm
  ·dsimp only;rw[W 0 h0,vq a3]
theorem yo (r:ah)(many w:Nat):(qg r many w).1.length=many/\(∀x∈(qg r many w).1,∃n:Nat,x=(n:Int)/\n<18446744073709551616):=by
  unfold qg;split
  ·exact⟨by simp,λx J=>⟨0,(Zq.1 J).2,by decide⟩⟩
  split
  ·exact⟨by simp,λx J=>⟨0,(Zq.1 J).2,by decide⟩⟩
  · rename_i h _
    refine⟨by simp,λx J=>?_⟩;obtain⟨i,_,rfl⟩:=Z1.1 J;refine⟨_,rfl,?_⟩;have Z:=oC (λk=>d3 r.fB (i*w+k)) w;have h2:(2:Nat)^w<=2^64:=Z0 (by decide) (by omega);have W:(2:Nat)^64=18446744073709551616:=by decide
    unfold unp;omega
theorem uV {pl:List Int}{w:Nat}(hw:w<=64)(h:∀x∈pl,0<=x/\x<2^w):qg ⟨eu pl w,true⟩ pl.length w=(pl,⟨[],true⟩):=by
  have W:(eu pl w).length=(pl.length*w+7)/8:=jo _ _ _;unfold qg;rw[if_neg (by omega),if_neg (by dsimp only;omega)];dsimp only;congr 1
  · apply List.ext_getElem
    ·simp
    · intro i Z J
      have:=CU pl w i [] J (h _ (Q2 J));rw[Qr] at this;simp[this]
  ·rw[←W,Zi]
theorem C4 {b:List Int}{many:Nat}(hb:Byt b)(hl:b.length<140737488355328)(hm:1<=many/\many<=64):∃x,bB ⟨b,true⟩ 3 (many:Int)=some x/\jH 3 b many x:=by
  unfold bB;rw[if_neg (by decide),if_neg (by decide),if_neg (by decide),if_pos (by decide),take_one,qk];obtain⟨c,r1,e1,hc,b3,b7,c0⟩:=uK ⟨b,true⟩ hb;rw[e1];dsimp only at*;rw[dx,qk];obtain⟨cn,rfl⟩:=Q8 hc.1
  refine fe (I:=λs:List Ap×Int×ah=>Byt s.2.2.fB/\s.2.2.fB.length<140737488355328/\(∀v∈s.1,Rgt v)/\s.1.length<=cn/\s.2.1=(s.1.length:Int)/\∀l:List Ap,(∀v∈l,Rgt v)->l.length=many->b=oQ l->s.1=(aX l).take s.1.length/\cn=(aX l).length/\s.2.2=⟨((aX l).drop s.1.length).flatMap bv++eu (l.map λv=>(ky (aX l) v:Int)) (wid ((aX l).length - 1)),true⟩) (μ:=λs=>cn - s.1.length) (Q:=jH 3 b many) ?_ ⟨b3,by dsimp only;omega,by simp,by simp,rfl,λl h Z J=>?_⟩
  · rintro ⟨W,wn,r⟩ ⟨h1,h2,h3,h4,a9,h5⟩
    dsimp only at*;subst a9;unfold mE
    by_cases hlt:W.length<cn
    · left
      rw[if_pos (decide_eq_true (by omega))];obtain⟨v,r',f1,f2,f3,f4,f5⟩:=uc h1 h2;rw[f1,qk,aS (by simp;omega),qk];refine⟨_,rfl,⟨f3,by dsimp only;omega,λx hx=>?_,by simp;omega,?_,λl h Z J=>?_⟩,by simp;omega⟩
      · rcases Qj.1 hx with hx|hx
        ·exact h3 x hx
        · have:x=v:=by simpa using hx
          subst this;exact f2
      ·dsimp only;rw[bV];simp;omega
      · obtain⟨g1,g2,g3⟩:=h5 l h Z J
        have hk:W.length<(aX l).length:=by omega
        obtain⟨w1,w2,w3⟩:=gJ h;rw[Q1 hk,Z2,Q6] at g3;subst g3;have hv:=ub (h _ ((w2 _).1 (Q2 hk))) (ok:=true) rfl h1 h2;rw[hv] at f1;obtain⟨rfl,rfl⟩:=Prod.mk.inj (Option.some.inj f1);refine⟨?_,g2,by simp⟩;simp only[kz,Qd];rw[Q7 hk,←g1]
    · right
      rw[if_neg (by simp;omega)];unfold mD
      have a5:X4.wrap (Qf.wrap ((if (W.length:Int)<1 then 1 else (W.length:Int)) - 1))=((W.length - 1:Nat):Int):=by
        rw[ak (by split<;>omega),cA];split<;>omega
      have a4:wid (W.length - 1)<=64:=rT (Zk (show W.length - 1<256 by omega) (by decide));rw[a5,len_eq (by omega),qk,uT h1 (by omega),qk];obtain⟨u1,u2⟩:=yo r many (wid (W.length - 1))
      have a3:∀l:List Ap,(∀v∈l,Rgt v)->l.length=many->b=oQ l->W=aX l/\qg r many (wid (W.length - 1))=(l.map (λv=>(ky (aX l) v:Int)),⟨[],true⟩):=λl h Z J=>by
        obtain⟨g1,g2,g3⟩:=h5 l h Z J;obtain⟨w1,w2,w3⟩:=gJ h;have e2:W.length=(aX l).length:=by omega
        rw[e2,Qb] at g1;refine⟨g1,?_⟩;rw[e2,Zi] at g3;simp only[List.flatMap_nil,Qm] at g3;rw[g3,e2,←Z]
        have:=uV (pl:=l.map λv=>(ky (aX l) v:Int)) (w:=wid ((aX l).length - 1)) (by rw[←e2];exact a4) (λx hx=>by
          obtain⟨v,hv,rfl⟩:=Z1.1 hx;have hp:=oD ((w2 v).2 hv);have c1:=Ej ((aX l).length - 1);refine⟨by omega,?_⟩;have:((ky (aX l) v:Nat):Int)<((2^wid ((aX l).length - 1):Nat):Int):=Int.ofNat_lt.2 (by omega)
          rwa[Zh] at this)
        rw[Qv] at this;exact this
      generalize qg r many (wid (W.length - 1))=U at*;obtain⟨pl,r2⟩:=U;dsimp only at*
      have b2:  ∃x,au (λs:(List Ap×Int)=>jC W (pl,r2) s.1 s.2) ([],0)=some x/\jH 3 b many x:=by
        refine fe (I:=λs:List Ap×Int=>(∀v∈s.1,Rgt v)/\s.1.length<=many/\s.2=(s.1.length:Int)/\∀l:List Ap,(∀v∈l,Rgt v)->l.length=many->b=oQ l->s.1=l.take s.1.length) (μ:=λs=>many - s.1.length) (Q:=jH 3 b many) ?_ ⟨by simp,by simp,rfl,λl _ _ _=>by simp⟩;rintro ⟨a0,an⟩ ⟨k1,k2,a6,k3⟩;dsimp only at*;subst a6;unfold jC bJ;dsimp only
        by_cases hlt2:a0.length<many
        · have hi:a0.length<pl.length:=by omega
          obtain⟨n,a2,c2⟩:=u2 _ (Q2 hi);have e3:X4.wrap (W.length:Int)=(W.length:Int):=by rw[cA];omega
          rw[if_pos (decide_eq_true (by omega)),aH hi,qk,e3,a2]
          by_cases hge:W.length<=n
          · right
            rw[if_pos (decide_eq_true (by omega))];refine⟨_,rfl,by simp,by simp,λl h Z J=>?_⟩;exfalso;obtain⟨_,_,_,_,J⟩:=fR J
            have a1:b=oQ l:=by
              rcases J with⟨e,_⟩|⟨_,e⟩
              ·subst e;simp at Z;omega
              ·exact e
            obtain⟨g1,g2⟩:=a3 l h Z a1;obtain⟨rfl,_⟩:=Prod.mk.inj g2;have hp:=oD (((gJ h).2.1 _).2 (Q2 (show a0.length<l.length by omega)));simp only[Zw] at a2;rw[g1] at hge;omega
          · left
            rw[if_neg (by simp;omega),aH (by omega),qk,aS (by simp;omega),qk];refine⟨_,rfl,⟨λx hx=>?_,by simp;omega,?_,λl h Z J=>?_⟩,by simp;omega⟩
            · rcases Qj.1 hx with hx|hx
              ·exact k1 x hx
              · have:x=W[n]:=by simpa using hx
                subst this;exact h3 _ (Q2 _)
            ·dsimp only;rw[bD (by omega)];simp
            · have q:=k3 l h Z J
              obtain⟨g1,g2⟩:=a3 l h Z J;obtain⟨rfl,_⟩:=Prod.mk.inj g2;have hk:a0.length<l.length:=by omega
              have b6:=((gJ h).2.1 _).2 (Q2 hk);simp only[Zw] at a2;have b1:n=ky (aX l) l[a0.length]:=by omega
              subst g1;subst b1;dsimp only;simp only[kz,Qd];rw[Q7 hk,←q,Gz b6]
        · right
          rw[if_neg (by simp;omega)];refine⟨_,rfl,λv hv=>(k1 v hv).ok,by dsimp only;omega,λl h Z J=>?_⟩;obtain⟨_,_,_,_,J⟩:=fR J
          have a1:b=oQ l:=by
            rcases J with⟨e,_⟩|⟨_,e⟩
            ·subst e;simp at Z;omega
            ·exact e
          have q:=k3 l h Z a1;obtain⟨g1,g2⟩:=a3 l h Z a1;obtain⟨_,rfl⟩:=Prod.mk.inj g2;have:a0.length=l.length:=by omega
          rw[this,Qb] at q;exact⟨q,rfl⟩
      obtain⟨x,b5,b4⟩:=b2;rw[b5];exact⟨x,rfl,b4⟩
  · obtain⟨w1,w2,w3⟩:=gJ h
    have b0:b=(((aX l).length:Nat):Int)::((aX l).flatMap bv++eu (l.map λv=>(ky (aX l) v:Int)) (wid ((aX l).length - 1))):=J;subst b0;rw[sO] at e1;obtain⟨e2,e3⟩:=Prod.mk.inj e1;refine⟨by simp,?_,?_⟩
    ·have:=(List.cons.inj e2).1;omega
    ·rw[←e3];rfl
theorem C5 {b:List Int}{many:Nat}{kind:Int}(hk:kind≠0/\kind≠1/\kind≠2/\kind≠3)(hb:Byt b)(hm:1<=many/\many<=64):∃x,bB ⟨b,true⟩ kind (many:Int)=some x/\jH kind b many x:=by
  unfold bB;rw[if_neg (by simpa using hk.1),if_neg (by simpa using hk.2.1),if_neg (by simpa using hk.2.2.1),if_neg (by simpa using hk.2.2.2),wE hb,qk];dsimp only;generalize h:(if b.length<8 then ((0:Int),({ fB:=[],fOk:=false }:ah)) else (dW (b.take 8),⟨b.drop 8,true⟩))=x0
  have b0:Byt x0.2.fB:=by
    rw[←h];split
    ·exact .nil
    ·exact hb.drop _
  rw[take_one,qk];obtain⟨c,r1,e1,hc,a9,b4,b5⟩:=uK x0.2 b0;rw[e1];dsimp only;obtain⟨cn,rfl⟩:=Q8 hc.1;rw[dx,qk,ak (by omega),uT a9 (by omega),qk];obtain⟨u1,u2⟩:=yo r1 many cn
  have a4:∀l:List Ap,(∀v∈l,Rgt v)->l.length=many->lq l=true->b=o8 (l.map (·.fInt))->x0.1=nR (l.map (·.fInt))%18446744073709551616/\qg r1 many cn=(bW (l.map (·.fInt)),⟨[],true⟩):=λl W Z hi he=>by
    have a2:=qY hi W;have h':∀x∈l.map (·.fInt),cL x:=λx h=>by obtain⟨v,hv,rfl⟩:=Z1.1 h;exact(a2 v hv).2
    have hu:=o9 h';obtain⟨hw,b2⟩:=mI hu
    have a1:b=be8 (nR (l.map (·.fInt))%18446744073709551616)++((ew (bW (l.map (·.fInt))):Nat):Int)::eu (bW (l.map (·.fInt))) (ew (bW (l.map (·.fInt)))):=by
      rw[he];unfold o8;simp
    have h8: ¬ b.length<8:=by rw[a1];simp[cf]
    rw[if_neg h8] at h;have h1:b.take 8=be8 (nR (l.map (·.fInt))%18446744073709551616):=by rw[a1];exact Z3 (cf _)
    have h2:b.drop 8=((ew (bW (l.map (·.fInt))):Nat):Int)::eu (bW (l.map (·.fInt))) (ew (bW (l.map (·.fInt)))):=by rw[a1];exact Z4 (cf _)
    rw[h1,h2,vp (by omega) (by omega)] at h;subst h;dsimp only at e1;rw[sO] at e1;obtain⟨e3,e4⟩:=Prod.mk.inj e1;have e5:cn=ew (bW (l.map (·.fInt))):=by have:=(List.cons.inj e3).1;omega
    subst e4;refine⟨rfl,?_⟩
    have:=uV (pl:=bW (l.map (·.fInt))) (w:=ew (bW (l.map (·.fInt)))) hw (λx h=>by
      have h3:=hu x h;have h4:=Ej x.toNat;have h5:=b2 x h;have h6:(2:Nat)^wid x.toNat<=2^ew (bW (l.map (·.fInt))):=Z0 (by decide) h5;refine⟨h3.1,?_⟩;have:((x.toNat:Nat):Int)<((2^ew (bW (l.map (·.fInt))):Nat):Int):=Int.ofNat_lt.2 (by omega);rw[Zh] at this;have e:((x.toNat:Nat):Int)=x:=by omega
      rw[e] at this
      exact this)
    have a6:(bW (l.map (·.fInt))).length=many:=by simp[bW,Z]
    rw[a6] at this;rw[e5];exact this
  generalize qg r1 many cn=U at*;obtain⟨pl,r2⟩:=U;obtain⟨n0,rn⟩:=x0;dsimp only at*;refine fe (I:=λs:List Ap×Int=>(∀v∈s.1,Rgt v)/\s.1.length<=many/\s.2=(s.1.length:Int)/\∀l:List Ap,(∀v∈l,Rgt v)->l.length=many->lq l=true->b=o8 (l.map (·.fInt))->s.1=l.take s.1.length) (μ:=λs=>many - s.1.length) (Q:=jH kind b many) ?_ ⟨by simp,by simp,rfl,λl _ _ _ _=>by simp⟩;rintro ⟨J,an⟩ ⟨k1,k2,a5,k3⟩;dsimp only at*;subst a5;unfold mF bJ;dsimp only
  by_cases hlt2:J.length<many
  · have hi:J.length<pl.length:=by omega
    left;unfold d5;rw[if_pos (decide_eq_true (by omega)),aH hi,qk,qk,aS (by simp;omega),qk];refine⟨_,rfl,⟨λx h=>?_,by simp;omega,?_,λl W Z a0 he=>?_⟩,by simp;omega⟩
    · rcases Qj.1 h with h|h
      ·exact k1 x h
      · have:x=io (Qf.wrap (X4.wrap (n0+pl[J.length]))):=by simpa using h
        subst this;exact .int _ (mH _)
    ·dsimp only;rw[bD (by omega)];simp
    · have q:=k3 l W Z a0 he
      obtain⟨g1,g2⟩:=a4 l W Z a0 he;obtain⟨rfl,_⟩:=Prod.mk.inj g2;have a2:=qY a0 W;have hk:J.length<l.length:=by omega
      have h1:=a2 _ (Q2 hk);dsimp only;simp only[kz,Qd];rw[Q7 hk,←q];congr 1
      have e9:Qf.wrap (X4.wrap (n0+(bW (l.map (·.fInt)))[J.length]))=l[J.length].fInt:=by
        have:(bW (l.map (·.fInt)))[J.length]=l[J.length].fInt - nR (l.map (·.fInt)):=by simp[bW]
        rw[this,g1,cA,lp];have:=h1.2;unfold cL at this;omega
      rw[e9];congr 1;exact h1.1.symm
  · right
    rw[if_neg (by simp;omega)];refine⟨_,rfl,λv hv=>(k1 v hv).ok,by dsimp only;omega,λl W Z he=>?_⟩;obtain⟨b3,_,_,a0,he⟩:=fR he;have b1:kind=4:=by omega
    subst b1
    have a3:b=o8 (l.map (·.fInt)):=by
      rcases he with⟨e,_⟩|⟨_,e⟩
      ·subst e;simp at Z;omega
      ·exact e
    have q:=k3 l W Z (a0 (.inr rfl)) a3;obtain⟨g1,g2⟩:=a4 l W Z (a0 (.inr rfl)) a3;obtain⟨_,rfl⟩:=Prod.mk.inj g2;have:J.length=l.length:=by omega
    rw[this,Qb] at q;exact⟨q,rfl⟩
theorem yp {b:List Int}{many:Nat}(kind:Int)(J:Byt b)(W:b.length<140737488355328)(h:1<=many/\many<=64):∃x,bB ⟨b,true⟩ kind (many:Int)=some x/\jH kind b many x:=by
  by_cases h0:kind=0
  ·subst h0;exact Bu J W h
  by_cases h1:kind=1
  ·subst h1;exact C2 J W h
  by_cases h2:kind=2
  ·subst h2;exact Bv J W h
  by_cases h3:kind=3
  ·subst h3;exact C4 J W h
  ·exact C5 ⟨h0,h1,h2,h3⟩ J h
open Option renaming bind_some→qk,bind_assoc→Zo,map_some→Xa
open List renaming length_append→kz,getElem?_eq_getElem→Q0,drop_eq_getElem_cons→Q1,getElem_mem→Q2,take_of_length_le→Q3,eq_nil_of_length_eq_zero→Q4,take_append_drop→Q5,append_assoc→Q6,take_succ_eq_append_getElem→Q7,length_cons→Q9,replicate→Qa,take_length→Qb,drop_of_length_le→Qc,length_singleton→Qd,range→Qe,map_append→Qh,mem_append→Qj,cons_append→Qk,nil_append→Qm,drop_left→Qp,drop_zero→Qq,append_nil→Qr,getElem?_eq_some_iff→Qs,all_eq_true→Qt,pairwise_append→Qu,length_map→Qv,length_pos_iff→Qw,getElem_of_mem→Qx,mem_map→Z1,flatMap_cons→Z2,take_left'→Z3,drop_left'→Z4,pairwise_iff_getElem→Z6,mem_cons→Z8,mem_singleton→Zb,take_append_of_le_length→Zd,length_replicate→Ze,drop_length→Zi,getElem?_append_right→Zl,flatten_append→Zm,map_congr_left→Zn,getElem?_append_left→Zp,mem_replicate→Zq,pairwise_cons→Zr,eq_of_mem_replicate→Zs,take_add_one→Zt,mem_range→Zu,length_eq_one_iff→Zv,getElem_map→Zw,length_take→Zx,length_drop→Zy,singleton_append→Zz,foldl_cons→X3,take_left→X5,length→X7,map_cons→Xb,map_take→Xc
open Nat renaming le_refl→Qg,two_pow_add_eq_or_of_lt→Qy,pow_le_pow_right→Z0,strongRecOn→Za,mul_le_mul→Zc,mul_le_mul_left→Zg,lt_of_lt_of_le→Zk
open Bool renaming and_eq_true→Qn,not_eq_true'→Qo,false_eq_true→Qz,or_eq_false_iff→Z5,eq_false_or_eq_true→Z7,and_eq_false_iff→Zf,not_true→X9
open Int renaming eq_ofNat_of_zero_le→Q8,emod_eq_of_lt→Qi,natCast_pow→Zh,fdiv_eq_ediv_of_nonneg→Zj,mul_comm→X8
open BitVec renaming ofInt→Ql,toNat_ofInt→Z9
open IntKind renaming i64→Qf,u64→X4,u8→X6,u32→Xd
open Classical in
noncomputable def dec (kind:Int) (b:List Int) (many:Int):List Ap×Int:=
 if kind<0\/4<kind then ([],62) else if many<0\/64<many then ([],61) else
 if h:∃l:List Ap,(∀v∈l,Rgt v)/\(l.length:Int)=many/\enc kind l=(b,0) then (h.choose,0) else ([],60)
theorem AC {a b:List Int}(W:a.length<=4611686018427387903):fU a b=some (decide (a=b)):=by
 unfold fU
 by_cases h:a.length=b.length
 ·rw [if_neg (by simp;omega)]
  have:=Al (f:=λs:Int=>fH a b s) (a.zip b) (λp=>p.1==p.2) false true (λi hi J=>?_) (λi hi J=>?_) ?_
  ·rw [this]
   have e:(a.zip b).all (λp=>p.1==p.2)=decide (a=b):=by
    clear this W
    induction a generalizing b with
    |nil=>cases b with
     |nil=>rfl
     |cons _ _=>simp at h
    | cons x a ih=>cases b with
     |nil=>simp at h
     |cons y b=>
      rw[List.zip_cons_cons,List.all_cons,ih (by simpa using h)]
      by_cases e:x=y
      ·simp[e]
      ·simp[e]
   rw[e];cases decide (a=b)<;>rfl
  ·simp only[List.length_zip] at hi
   simp only[List.getElem_zip,beq_iff_eq] at J;unfold fH;rw[if_pos (decide_eq_true (by omega)),aH (by omega),qk,aH (by omega),qk,if_neg (by simpa using J),bD (by omega)]
  ·simp only[List.length_zip] at hi
   simp only[List.getElem_zip,beq_eq_false_iff_ne] at J;unfold fH;rw[if_pos (decide_eq_true (by omega)),aH (by omega),qk,aH (by omega),qk,if_pos (by simpa using J)];rfl
  ·unfold fH nN
   rw[if_neg (by simp;omega)];rfl
 ·rw[if_pos (by simp;omega)]
  have:a≠b:=λe=>h (by rw[e]);simp[this]
theorem yH {kind:Int}{l:List Ap}:(enc kind l).2=0->l.all right=true/\l.length<=64:=λh=>by
 have:enc kind l=((enc kind l).1,0):=Prod.ext rfl h;obtain⟨_,J,W,_⟩:=fR this;exact⟨W,J⟩
theorem pH (l:List Int)(w:Nat):(eu l w).length=(l.length*w+7)/8:=jo _ _ _
theorem GB {kind:Int}{l:List Ap}(h:∀v∈l,Rgt v)(Z:l.length<=64):(qj kind l).length<=100000:=by
 obtain⟨w1,w2,w3⟩:=gJ h;unfold qj;split
 ·obtain⟨h1,h2,_⟩:=o6 (l:=l)
  have:=pP (cJ l) (λr=>r.fMany::bv r.fValue) 67 λx W=>by
   have:=(g7 (h _ (h1 x W).2.2)).2;simp;omega
  unfold uJ;omega
 split
 ·have:=pP (Qe ((l.map (·.fInt)).length - 1)) (mX (l.map (·.fInt))) 10 λx _=>oP (qi (mH _))
  unfold o7;simp only[kz,cf,List.length_range,Qv] at*;omega
 split
 ·have h1:=ln (l:=aX l) λv J=>h v ((w2 v).1 J)
  have a0:wid ((aX l).length - 1)<=64:=rT (Zk (show(aX l).length - 1<64 by omega) (by decide));have:=Zc Z a0;unfold oQ;simp only[Q9,kz,pH,Qv];omega
 split
 ·by_cases hi:∀x∈l.map (·.fInt),cL x
  ·have hu:=o9 hi
   have:=Zc Z (mI hu).1;have a1:(bW (l.map (·.fInt))).length=l.length:=by simp[bW]
   unfold o8;simp only[kz,cf,Qd,pH,a1];omega
  ·exfalso
   apply hi;intro x W;obtain⟨v,J,rfl⟩:=Z1.1 W;exact(h v J).ok.int
 ·have:=ln h
  unfold nS;omega
theorem B5 (kind:Int){l:List Ap}(h:∀v∈l,VOK v):(enc kind l).1.length<=100000:=by
 unfold enc
 repeat' split
 all_goals first|exact Nat.zero_le _|skip
 rename_i W J _ _;exact GB (rV h (by simpa using J)) (by omega)
theorem Et {kind:Int}{b:List Int}{many:Nat}{g:List Ap}{ok:Bool}(hk:0<=kind/\kind<=4)(hm:many<=64)(hg:∀v∈g,VOK v)(hx:∀l:List Ap,(∀v∈l,Rgt v)->l.length=many->enc kind l=(b,0)->g=l/\ok=true):
  (if (!ok)=true\/(enc kind g).2≠0\/g.length≠many\/(enc kind g).1≠b then ([],60) else (g,0))=dec kind b (many:Int):=by
 unfold dec;rw[if_neg (show ¬ (kind<0\/4<kind) by omega),if_neg (show ¬ ((many:Int)<0\/64<(many:Int)) by omega)]
 by_cases h:∃l:List Ap,(∀v∈l,Rgt v)/\(l.length:Int)=(many:Int)/\enc kind l=(b,0)
 ·rw[dif_pos h]
  obtain⟨c1,c2,J⟩:=h.choose_spec;obtain⟨Z,e2⟩:=hx _ c1 (by omega) J;rw[←Z] at c2 J;rw[if_neg,Z];rintro (h1|h1|h1|h1)
  ·rw[e2] at h1;cases h1
  ·rw[J] at h1;exact h1 rfl
  ·omega
  ·rw[J] at h1;exact h1 rfl
 ·rw[dif_neg h,if_pos]
  apply Classical.byContradiction;intro W;apply h;have n2:(enc kind g).2=0:=Classical.byContradiction λh=>W (.inr (.inl h));have n3:g.length=many:=Classical.byContradiction λh=>W (.inr (.inr (.inl h)));have n4:(enc kind g).1=b:=Classical.byContradiction λh=>W (.inr (.inr (.inr h)));exact⟨g,rV hg (yH n2).1,by omega,Prod.ext n4 n2⟩
theorem ue {kind many:Int}{b:List Int}(h:kind<0\/4<kind):dec kind b many=([],62):=by unfold dec;rw[if_pos h]
theorem uf {kind many:Int}{b:List Int}(J: ¬ (kind<0\/4<kind))(h:many<0\/64<many):dec kind b many=([],61):=by unfold dec;rw[if_neg J,if_pos h]
theorem Eu {b:List Int}(kind many:Int)(hb:Byt b)(hl:b.length<=1048576):kF kind b many=some (dec kind b many):=by
 have a0:ko kind b many true=some ([],62):=rfl;have a1:kj kind b many true=some ([],61):=rfl;unfold kF
 by_cases h0:kind<0
 ·rw[if_pos (by simpa using h0),a0,ue (.inl h0)]
 by_cases h4:4<kind
 ·rw[if_neg (by simpa using h0),decide_eq_true h4,a0,ue (.inr h4)]
 have Z: ¬ (kind<0\/4<kind):=by omega
 rw[if_neg (by simpa using h0),decide_eq_false h4];unfold ko;rw[if_neg (by decide)]
 by_cases m0:many<0
 ·rw[if_pos (by simpa using m0),a1,uf Z (.inl m0)]
 by_cases m64:64<many
 ·rw[if_neg (by simpa using m0),decide_eq_true m64,a1,uf Z (.inr m64)]
 rw[if_neg (by simpa using m0),decide_eq_false m64];unfold kj;rw[if_neg (by decide)];obtain⟨n,rfl⟩:=Q8 (show 0<=many by omega);have J:∀g x,iD g x=some (if x=true then ([],60) else (g,0)):=λg x=>by cases x<;>rfl
 have key:∀(g:List Ap) (r:ah),(∀v∈g,VOK v)->g.length<=1048576->kg kind b (n:Int) g r=some (if (!r.fOk)=true\/(enc kind g).2≠0\/g.length≠n\/(enc kind g).1≠b then ([],60) else (g,0)):=by
  intro g r hg a4;unfold kg;rw[qW kind hg a4,qk]
  by_cases e1:(!r.fOk)=true
  ·rw[if_pos e1,J,if_pos rfl,if_pos (.inl e1)]
  by_cases e2:(enc kind g).2=0
  ·by_cases e3:g.length=n
   ·rw[if_neg e1,if_neg (by simpa using e2),if_neg (by simpa using by omega),AC (by have:=B5 kind hg;omega),qk,J]
    by_cases e4:(enc kind g).1=b
    ·rw[if_neg (by simpa using e4),if_neg]
     rintro (h|h|h|h)
     ·exact e1 h
     ·exact h e2
     ·exact h e3
     ·exact h e4
    ·rw[if_pos (by simpa using e4),if_pos (.inr (.inr (.inr e4)))]
   ·rw[if_neg e1,if_neg (by simpa using e2),if_pos (by simp;omega),J,if_pos rfl,if_pos (.inr (.inr (.inl e3)))]
  ·rw[if_neg e1,if_pos (by simpa using e2),J,if_pos rfl,if_pos (.inr (.inl e2))]
 by_cases n0:n=0
 ·subst n0
  rw[if_neg (by decide),key _ _ (by simp) (by simp),Et (by omega) (by omega) (by simp) λl _ h2 _=>⟨(Q4 h2).symm,rfl⟩]
 ·obtain⟨x,a3,W,a5,a2⟩:=yp (b:=b) (many:=n) kind hb (by omega) (by omega)
  rw[if_pos (by simp;omega),a3,qk,key _ _ W a5,Et (by omega) (by omega) W a2]
theorem GC {kind:Int}{l:List Ap}(h:∀v∈l,Rgt v)(hl:l.length<=64):Byt (qj kind l):=by
 obtain⟨w1,w2,w3⟩:=gJ h
 have Z:∀{O:Type} (xs:List O) (f:O->List Int),(∀x∈xs,Byt (f x))->Byt (xs.flatMap f):=λxs f hf c hc=>by
  obtain⟨x,J,hc⟩:=List.mem_flatMap.1 hc;exact hf x J c hc
 unfold qj;split
 ·obtain⟨h1,h2,_⟩:=o6 (l:=l)
  exact Z _ _ λx J=> .cons (by have:=h1 x J;omega) (qe (h _ (h1 x J).2.2))
 split
 ·exact Byt.app (t8 _) (Z _ _ λx _=>En _)
 split
 ·exact .cons (by omega) (.app (Z _ _ λv W=>qe (h v ((w2 v).1 W))) (ww _ _))
 split
 ·have hi:∀x∈l.map (·.fInt),cL x:=λx J=>by
   obtain⟨v,W,rfl⟩:=Z1.1 J;exact(h v W).ok.int
  have:=(mI (o9 hi)).1;exact .app (.app (t8 _) (.cons (by omega) .nil)) (ww _ _)
 ·exact Z _ _ λv W=>qe (h v W)
theorem xD (kind:Int){l:List Ap}(h:∀v∈l,VOK v):Byt (enc kind l).1:=by
 unfold enc
 repeat' split
 all_goals first|exact .nil|skip
 rename_i W J _ _;exact GC (rV h (by simpa using J)) (by omega)
theorem uL {kind:Int}{l:List Ap}{b:List Int}(h:∀v∈l,VOK v)(J:enc kind l=(b,0)):∀v∈l,Rgt v:=rV h (fR J).2.2.1
theorem If {kind:Int}{l J:List Ap}{b:List Int}(h:∀v∈l,Rgt v)(h':∀v∈J,Rgt v)(hl:J.length=l.length)(W:enc kind l=(b,0))(a0:enc kind J=(b,0)):J=l:=by
 by_cases h0:l.length=0
 ·rw[Q4 h0,Q4 (hl.trans h0)]
 have hb:Byt b:=by have:=xD kind λv Z=>(h v Z).ok;rw[W] at this;exact this
 have a1:b.length<=100000:=by have:=B5 kind λv Z=>(h v Z).ok;rw[W] at this;exact this
 obtain⟨x,_,_,_,hx⟩:=yp (b:=b) (many:=l.length) kind hb (by omega) ⟨by omega,(fR W).2.1⟩;rw[←(hx l h rfl W).1,←(hx J h' hl a0).1]
theorem Ig {kind:Int}{l:List Ap}{b:List Int}(h:∀v∈l,VOK v)(J:enc kind l=(b,0)):dec kind b (l.length:Int)=(l,0):=by
 have W:=uL h J;obtain⟨k1,k2,_⟩:=fR J;unfold dec;rw[if_neg (show ¬ (kind<0\/4<kind) by omega),if_neg (show ¬ ((l.length:Int)<0\/64<(l.length:Int)) by omega)];have Z:∃l':List Ap,(∀v∈l',Rgt v)/\(l'.length:Int)=(l.length:Int)/\enc kind l'=(b,0):=⟨l,W,rfl,J⟩
 rw[dif_pos Z];obtain⟨c1,c2,c3⟩:=Z.choose_spec;rw[If W c1 (by omega) J c3]
theorem Ev (kind:Int)(b:List Int)(many:Int):(∃l:List Ap,dec kind b many=(l,0)/\(∀v∈l,Rgt v)/\(l.length:Int)=many/\enc kind l=(b,0))\/(∃e,dec kind b many=([],e)/\e≠0):=by
 unfold dec;split
 ·right;exact⟨62,rfl,by decide⟩
 split
 ·right;exact⟨61,rfl,by decide⟩
 split
 ·rename_i h
  left;exact⟨_,rfl,h.choose_spec⟩
 ·right;exact⟨60,rfl,by decide⟩
def y7 (l:List Ap)(s:Int×Int)(k:Nat):Int×Int:=if (enc (k:Int) l).2=0/\(s.2<0\/((enc (k:Int) l).1.length:Int)<s.2) then ((k:Int),((enc (k:Int) l).1.length:Int)) else s
def jp (l:List Ap)(n:Nat):Int×Int:=(Qe n).foldl (y7 l) (0,-1)
def AD (l:List Ap):Int:=(jp l 5).1
theorem wF (l:List Ap)(n:Nat):jp l (n+1)=y7 l (jp l n) n:=by simp[jp,List.range_succ]
theorem C6 (l:List Ap)(n:Nat):((jp l n).2<0/\(jp l n).1=0/\∀k:Nat,k<n->(enc (k:Int) l).2≠0)\/(0<=(jp l n).2/\(∃k:Nat,k<n/\(jp l n).1=(k:Int))/\(enc (jp l n).1 l).2=0/\(jp l n).2=((enc (jp l n).1 l).1.length:Int)/\∀k:Nat,k<n->(enc (k:Int) l).2=0->(jp l n).2<=((enc (k:Int) l).1.length:Int)):=by
 induction n with
 |zero=>left;exact⟨show((-1:Int))<0 by decide,rfl,λk Z=>by omega⟩
 | succ n ih=>
  rw[wF];generalize jp l n=s at*;unfold y7
  by_cases h:(enc (n:Int) l).2=0/\(s.2<0\/((enc (n:Int) l).1.length:Int)<s.2)
  ·rw[if_pos h]
   right;refine⟨by dsimp only;omega,⟨n,by omega,rfl⟩,h.1,rfl,λk Z J=>?_⟩;dsimp only;rcases ih with⟨W,_,i2⟩|⟨W,_,_,i4,i5⟩
   ·by_cases e:k=n
    ·subst e;omega
    ·exact absurd J (i2 k (by omega))
   ·by_cases e:k=n
    ·subst e;omega
    ·have:=i5 k (by omega) J
     omega
  ·rw[if_neg h]
   rcases ih with⟨W,i0,i2⟩|⟨W,⟨k0,a1,a0⟩,i3,i4,i5⟩
   ·left
    refine⟨W,i0,λk Z J=>?_⟩
    by_cases e:k=n
    ·subst e;exact h ⟨J,.inl W⟩
    ·exact i2 k (by omega) J
   ·right
    refine⟨W,⟨k0,by omega,a0⟩,i3,i4,λk Z J=>?_⟩
    by_cases e:k=n
    ·subst e
     rcases Int.lt_or_le ((enc (k:Int) l).1.length:Int) s.2 with h2|h2
     ·exact absurd ⟨J,.inr h2⟩ h
     ·exact h2
    ·exact i5 k (by omega) J
theorem Ih {l:List Ap}(h:∀v∈l,VOK v)(J:l.length<=1048576):oM l=some (AD l):=by
 unfold oM;refine cj (λi=>((jp l i).1,(jp l i).2,(i:Int))) 5 rfl (λi hi=>?_) ?_
 ·dsimp only
  rw[wF];generalize jp l i=s;unfold rM lJ oy y7;rw[if_pos (decide_eq_true (by omega)),qW _ h J,qk,bD (by omega)]
  by_cases e:(enc (i:Int) l).2=0
  ·rw[if_pos (by simpa using e)]
   by_cases e2:s.2<0
   ·rw[if_pos (decide_eq_true e2),if_pos rfl,if_pos ⟨e,.inl e2⟩]
   ·rw[if_neg (by simpa using e2)]
    by_cases e3:((enc (i:Int) l).1.length:Int)<s.2
    ·rw[if_pos (decide_eq_true e3),if_pos ⟨e,.inr e3⟩]
    ·rw[if_neg (by simpa using e3),if_neg (λh=>by rcases h.2 with h|h<;>contradiction)]
  ·rw[if_neg (by simpa using e),if_neg (by decide),if_neg (λh=>e h.1)]
 ·rfl
theorem Ii {l:List Ap}:(enc 0 l).2≠0->∀k:Int,0<=k/\k<=4->(enc k l).2≠0:=by
 intro h k Z;unfold enc at*;rw[if_neg (show ¬ ((0:Int)<0\/4<(0:Int)) by omega)] at h;rw[if_neg (show ¬ (k<0\/4<k) by omega)];split
 ·decide
 split
 ·decide
 rename_i J W;rw[if_neg J,if_neg W,if_neg (λh=>by omega)] at h;exfalso;apply h;split<;>rfl
theorem Pt {l:List Ap}:(enc (AD l) l).2=(enc 0 l).2/\(enc (AD l) l).1.length<=(enc 0 l).1.length:=by
 unfold AD;rcases C6 l 5 with⟨_,h,_⟩|⟨_,⟨k,W,Z⟩,h,q2,q3⟩
 ·rw[h];exact⟨rfl,Qg _⟩
 ·have e:(enc 0 l).2=0:=Classical.byContradiction λJ=>Ii J (jp l 5).1 (by omega) h
  have:=q3 0 (by omega) e;rw[show((0:Nat):Int)=0 from rfl] at this;exact⟨by rw[h,e],by omega⟩
def U32 (x:Int):Prop:=0<=x/\x<4294967296
theorem AE (x:Int):U32 (Xd.wrap x):=by rw[xq];unfold U32;omega
theorem xE (x y:Int):U32 (ft .u32 x y):=AE _
theorem M3 (x:Int):∃n:Nat,d4 .u32 x 15=(n:Int)/\n<16:=by
 unfold d4;rw[xq,BitVec.toNat_and];have h:(Ql Xd.bits 15).toNat=15:=by decide
 rw[h];have:(Ql Xd.bits x).toNat&&&15<=15:=Nat.and_le_right;exact⟨_,by rw[Qi (by omega) (by omega)],by omega⟩
theorem JA {t:List Int}(h:t.length=16)(Z:∀x∈t,U32 x)(x:Int):∃(j:Nat) (y:Int),ix t (d4 .u32 x 15)=some j/\t[j]? =some y/\U32 y:=by
 obtain⟨n,W,h2⟩:=M3 x;have J:n<t.length:=by omega
 exact⟨n,t[n],by rw[W];exact nP J,Q0 J,Z _ (Q2 J)⟩
theorem Ew {b t:List Int}(hl:b.length<4611686018427387904)(h:t.length=16)(J:∀x∈t,U32 x):∃n,pZ b t=some n/\U32 n:=by
 unfold pZ;refine fe (λs=>U32 s.1/\∃i:Nat,s.2=(i:Int)/\i<=b.length) (λs=>((b.length:Int) - s.2).toNat) U32 ?_ ⟨⟨by decide,by decide⟩,0,rfl,by omega⟩;rintro ⟨x,i'⟩ ⟨hx,i,hi,hi'⟩;dsimp only at hi;subst hi;dsimp only;unfold tU
 by_cases hlt:i<b.length
 ·left
  rw[if_pos (by simpa using hlt),aH hlt,qk];obtain⟨j,y,Z,W,h3⟩:=JA h J (ft .u32 x (Xd.wrap b[i]));rw[Z,qk,W,qk];obtain⟨j',z,k1,k2,k3⟩:=JA h J (ft .u32 y (aO .u32 (ft .u32 x (Xd.wrap b[i])) 4));rw[k1,qk,k2,qk,bD (by omega)];exact⟨_,rfl,⟨xE _ _,i+1,rfl,by omega⟩,by dsimp only;omega⟩
 ·right
  rw[if_neg (by simpa using hlt)];exact⟨_,rfl,xE _ _⟩
theorem JB {b:List Int}(hl:b.length<4611686018427387904):∃n,jg b=some n/\U32 n:=by
 unfold jg;refine fe (λs=>(∃i:Nat,s.1=(i:Int)/\i<=16)/\s.2.length=16/\∀x∈s.2,U32 x) (λs=>(16 - s.1).toNat) U32 ?_ ⟨⟨0,rfl,by omega⟩,by simp,λx J=>by rw[Zs J];exact⟨by decide,by decide⟩⟩;rintro ⟨i',t⟩ ⟨⟨i,hi,hi'⟩,ht,hu⟩;dsimp only at hi ht hu;subst hi;dsimp only;unfold tX
 by_cases hlt:i<16
 ·left
  rw[if_pos (by simpa using by omega)]
  have:∃r,au (λs:(Int×Int)=>p9 (i:Int) t s.1 s.2) (Xd.wrap (i:Int),0)=some r/\∃v,U32 v/\r= .inl (((i+1:Nat):Int),t.set i v):=by
   refine fe (λs=>U32 s.1/\∃i:Nat,s.2=(i:Int)/\i<=4) (λs=>(4 - s.2).toNat) _ ?_ ⟨AE _,0,rfl,by omega⟩;rintro ⟨x,q'⟩ ⟨J,q,hq,a0⟩;dsimp only at hq;subst hq;dsimp only;unfold p9
   by_cases hql:q<4
   ·left
    rw[if_pos (by simpa using by omega),bD (by omega)];exact⟨_,rfl,⟨xE _ _,q+1,rfl,by omega⟩,by dsimp only;omega⟩
   ·right
    rw[if_neg (by simpa using by omega)];unfold tW tV;have Z:i<t.length:=by omega
    rw[nP Z,qk,Q0 Z,qk,bD (by omega)];exact⟨_,rfl,x,J,rfl⟩
  obtain⟨r,W,v,hv,rfl⟩:=this;refine⟨_,W,⟨⟨i+1,rfl,by omega⟩,by simpa using ht,λx J=>?_⟩,by dsimp only;omega⟩;rcases List.mem_or_eq_of_mem_set J with h|h
  ·exact hu x h
  ·rw[h];exact hv
 ·right
  rw[if_neg (by simpa using by omega)];obtain⟨n,W,h2⟩:=Ew hl ht hu;exact⟨n,by rw[W];rfl,h2⟩
noncomputable def nq (b:List Int):Int:=(jg b).getD 0
theorem AF {b:List Int}(h:b.length<4611686018427387904):jg b=some (nq b)/\U32 (nq b):=by
 obtain⟨n,J,W⟩:=JB h;unfold nq;rw[J];exact⟨rfl,W⟩
def be4 (n:Int):List Int:=[n/2^24%256,n/2^16%256,n/2^8%256,n%256]
theorem xF (n:Int):Byt (be4 n):=by
 unfold be4;exact .cons (by omega) (.cons (by omega) (.cons (by omega) (.cons (by omega) .nil)))
theorem ff (n:Int):(be4 n).length=4:=rfl
theorem C7 {x:Int}{k:Nat}(h:k<=32):aO .u32 x (k:Int)=x/2^k:=by
 unfold aO;rw[Zj _ (Int.le_of_lt (Int.pow_pos (by decide)))];congr 2;simp[IntKind.bits];omega
theorem C8 {x:Int}{k:Nat}(h:k<=64):aO .i64 x (k:Int)=x/2^k:=by
 unfold aO;rw[Zj _ (Int.le_of_lt (Int.pow_pos (by decide)))];congr 2;simp[IntKind.bits];omega
noncomputable def mY (b:List Int):List Int:=b++be4 (nq b)
theorem yq {b:List Int}(W:b.length<=1000000000000):jQ b=some (mY b):=by
 unfold jQ;rw[(AF (b:=b) (by omega)).1,qk,bV,bV,bV,bV];have J:=C7 (x:=nq b) (k:=24) (by omega);have e2:=C7 (x:=nq b) (k:=16) (by omega);have h:=C7 (x:=nq b) (k:=8) (by omega);rw[show((24:Nat):Int)=24 from rfl] at J;rw[show((16:Nat):Int)=16 from rfl] at e2;rw[show((8:Nat):Int)=8 from rfl] at h;rw[J,e2,h,aS (by simp;omega),qk]
 rfl
theorem Ex {v:Ap}(h:Rgt v):oX v=some (bv v):=by
 unfold oX;rw[rQ (l:=[v]) (λx J=>by rw[Zb.1 J];exact h) (by simp),qk];simp only[sL,Qd,Z2,List.flatMap_nil,Qr];rw[qS,qk]
def rk:List Ap->Ap
 |[]=>kx
 |v::l=>l.foldl (λm x=>if ltV x m then x else m) v
def rl:List Ap->Ap
 |[]=>kx
 |v::l=>l.foldl (λm x=>if ltV m x then x else m) v
theorem AG (a b:Ap):0<vu a b↔ltV b a=true:=by
 unfold vu;split
 ·rename_i h;simp[AA h]
 ·split
  ·rename_i h;simp[h]
  ·rename_i h;simp at h;simp[h]
theorem ug {f:Ap->Ap->Ap}(J:∀m x,f m x=m\/f m x=x):∀(l:List Ap) (v:Ap),l.foldl f v∈v::l
 |[],v=>by simp
 | x::l,v=>by
  have:=ug J l (f v x);rw[X3];rcases J v x with h|h
  ·rw[h] at this ⊢
   rcases Z8.1 this with h'|h'
   ·rw[h'];simp
   ·simp[h']
  ·rw[h] at this ⊢
   simp[this]
theorem vx {l:List Ap}(h:l≠[]):rk l∈l:=by
 cases l with
 |nil=>exact absurd rfl h
 |cons v l=>exact ug (λm x=>by split<;>simp) l v
theorem vy {l:List Ap}(h:l≠[]):rl l∈l:=by
 cases l with
 |nil=>exact absurd rfl h
 |cons v l=>exact ug (λm x=>by split<;>simp) l v
theorem C9 {l:List Ap}(h:l≠[])(J:l.length<=1048576):fF l bZ=some (rk l):=by
 cases l with
 |nil=>exact absurd rfl h
 |cons v r=>
 unfold fF;rw[if_neg (by simp;omega)];unfold l9;rw[dx,qk];refine cj (λi=>(((i+1:Nat):Int),(r.take i).foldl (λm x=>if ltV x m then x else m) v)) r.length (by simp) (λi hi=>?_) ?_
 ·dsimp only
  unfold iU;have hi':i+1<(v::r).length:=by simp;omega
  simp only[Q9] at J;rw[if_pos (by simpa using by omega),aH hi',qk,ej,qk];rw[nQ hi];unfold iT;have e:(v::r)[i+1]=r[i]:=rfl;rw[e,bD (by omega)]
  by_cases hc:ltV r[i] ((r.take i).foldl (λm x=>if ltV x m then x else m) v)=true
  ·rw[if_pos (decide_eq_true ((nk _ _).2 hc)),qk,if_pos hc]
  ·rw[if_neg (by simpa using λh=>hc ((nk _ _).1 h)),if_neg hc]
 ·unfold iU l8
  dsimp only;rw[if_neg (by simp),Qb]
  rfl
theorem Da {l:List Ap}(h:l≠[])(J:l.length<=1048576):fG l bZ=some (rl l):=by
 cases l with
 |nil=>exact absurd rfl h
 |cons v r=>
 unfold fG;rw[if_neg (by simp;omega)];unfold mb;rw[dx,qk];refine cj (λi=>(((i+1:Nat):Int),(r.take i).foldl (λm x=>if ltV m x then x else m) v)) r.length (by simp) (λi hi=>?_) ?_
 ·dsimp only
  unfold iW;have hi':i+1<(v::r).length:=by simp;omega
  simp only[Q9] at J;rw[if_pos (by simpa using by omega),aH hi',qk,ej,qk];rw[nQ hi];unfold iV;have e:(v::r)[i+1]=r[i]:=rfl;rw[e,bD (by omega)]
  by_cases hc:ltV ((r.take i).foldl (λm x=>if ltV m x then x else m) v) r[i]=true
  ·rw[if_pos (decide_eq_true ((AG _ _).2 hc)),qk,if_pos hc]
  ·rw[if_neg (by simpa using λh=>hc ((AG _ _).1 h)),if_neg hc]
 ·unfold iW ma
  dsimp only;rw[if_neg (by simp),Qb]
  rfl
def lW (l:List Ap):Nat:=(l.filter λv=>v.fKind==0).length
def Db (kind:Int)(l:List Ap):bm:=⟨kind,(l.length:Int),rk l,rl l,(lW l:Int),0⟩
theorem sP (i:bm):∀(l:List Ap) (n:Nat),n+l.length<=1048576->cD (λ(s:bm) (x:Ap)=>eU s x) { i with fNulls:=(n:Int) } l=some ({ i with fNulls:=((n+lW l:Nat):Int) },true)
 |[],n,_=>by simp[cD,lW]
 | v::l,n,h=>by
  simp only[Q9] at h;simp only[cD]
  by_cases hv:(v.fKind==0)=true
  ·have e:eU { i with fNulls:=(n:Int) } v=some ({ i with fNulls:=((n+1:Nat):Int) },true):=by
    unfold eU;rw[if_pos hv,bD (by omega)]
   rw[e,qk,if_pos rfl,sP i l (n+1) (by omega)];simp only[lW,List.filter_cons,hv,if_true,Q9];congr 4;omega
  ·have e:eU { i with fNulls:=(n:Int) } v=some ({ i with fNulls:=(n:Int) },true):=by
    unfold eU;rw[if_neg hv]
   rw[e,qk,if_pos rfl,sP i l n (by omega)];simp only[lW,List.filter_cons,hv,Qz,if_false]
theorem vz (l:List Ap):lW l<=l.length:=List.length_filter_le _ _
theorem B6 {l:List Ap}(kind:Int)(h:l≠[])(J:l.length<=1048576):kf kind l=some (Db kind l):=by
 unfold kf iN;rw[C9 h J,qk,Da h J,qk,qk];rw[show(⟨kind,(l.length:Int),rk l,rl l,0,0⟩:bm)={ (⟨kind,(l.length:Int),rk l,rl l,0,0⟩:bm) with fNulls:=((0:Nat):Int) } from rfl,sP _ l 0 (by omega),qk,if_pos rfl,Nat.zero_add]
 rfl
theorem Ey {kind:Int}{l:List Ap}(h:∀v∈l,Rgt v)(Z:l.length<=64):(qj kind l).length<=60000:=by
 obtain⟨w1,w2,w3⟩:=gJ h;unfold qj;split
 ·obtain⟨h1,h2,_⟩:=o6 (l:=l)
  have:=pP (cJ l) (λr=>r.fMany::bv r.fValue) 67 λx W=>by
   have:=(g7 (h _ (h1 x W).2.2)).2;simp;omega
  unfold uJ;omega
 split
 ·have:=pP (Qe ((l.map (·.fInt)).length - 1)) (mX (l.map (·.fInt))) 10 λx _=>oP (qi (mH _))
  unfold o7;simp only[kz,cf,List.length_range,Qv] at*;omega
 split
 ·have h1:=ln (l:=aX l) λv J=>h v ((w2 v).1 J)
  have a0:wid ((aX l).length - 1)<=64:=rT (Zk (show(aX l).length - 1<64 by omega) (by decide));have:=Zc Z a0;unfold oQ;simp only[Q9,kz,pH,Qv];omega
 split
 ·by_cases hi:∀x∈l.map (·.fInt),cL x
  ·have hu:=o9 hi
   have:=Zc Z (mI hu).1;have a1:(bW (l.map (·.fInt))).length=l.length:=by simp[bW]
   unfold o8;simp only[kz,cf,Qd,pH,a1];omega
  ·exfalso
   apply hi;intro x W;obtain⟨v,J,rfl⟩:=Z1.1 W;exact(h v J).ok.int
 ·have:=ln h
  unfold nS;omega
theorem vA {kind:Int}{l:List Ap}{b:List Int}(h:∀v∈l,VOK v)(J:enc kind l=(b,0)):b.length<=60000:=by
 obtain⟨_,W,_,_,Z⟩:=fR J;rcases Z with⟨_,rfl⟩|⟨_,rfl⟩
 ·simp
 ·exact Ey (uL h J) W
def be2 (n:Nat):List Int:=[((n/256:Nat):Int),((n%256:Nat):Int)]
def fS (k m z:Int)(v w:Ap)(d:List Int):List Int:=k::m::z::(bv v++(bv w++(be2 d.length++d)))
def kI (kind:Int)(l:List Ap):Int:=if kind= -1 then AD l else kind
def lY (k:Int)(l:List Ap):List Int:=fS k (l.length:Int) (lW l:Int) (rk l) (rl l) (enc k l).1
noncomputable def wr (kind:Int) (l:List Ap):List Int×Int:=
 if l=[] then ([],70) else if (enc (kI kind l) l).2≠0 then ([],(enc (kI kind l) l).2) else (mY (lY (kI kind l) l),0)
theorem Ez {k m z:Int}{v w:Ap}{d:List Int}(hk:0<=k/\k<=4)(Z:1<=m/\m<=64)(hz:0<=z/\z<=m)(J:Rgt v)(W:Rgt w)(h:Byt d)(hl:d.length<65536):Byt (fS k m z v w d):=by
 unfold fS be2;refine .cons (by omega) (.cons (by omega) (.cons (by omega) (.app (qe J) (.app (qe W) (.app (.cons (by omega) (.cons (by omega) .nil)) h)))))
theorem qZ {k m z:Int}{v w:Ap}{d:List Int}:(fS k m z v w d).length=5+(bv v).length+(bv w).length+d.length:=by
 unfold fS be2;simp;omega
theorem GD {l:List Ap}(kind:Int)(h:∀v∈l,VOK v)(hl:l.length<=1048576):mw kind l=some (wr kind l):=by
 have key:∀k,l≠[]->lK l k=some (if (enc k l).2≠0 then ([],(enc k l).2) else (mY (lY k l),0)):=by
  intro k J;unfold lK;rw[qW k h hl,qk]
  by_cases he:(enc k l).2=0
  ·have Z:enc k l=((enc k l).1,0):=Prod.ext rfl he
   obtain⟨W,a9,_⟩:=fR Z;have hR:=uL h Z;have a0:=hR _ (vx J);have a6:=hR _ (vy J);have b0:=vA h Z;have b1:=xD k h;have hn:=vz l;have h0:0<l.length:=Qw.2 J;have l1:=(g7 a0).2;have l2:=(g7 a6).2;rw[if_neg (by simpa using he),if_neg (by simpa using he),B6 k J hl,qk];have e8:=C8 (x:=((enc k l).1.length:Int)) (k:=8) (by omega);rw[show((8:Nat):Int)=8 from rfl] at e8;simp only[Db];rw[Ex a0,qk,aS (by simp;omega),qk,Ex a6,qk,aS (by simp;omega),qk,aS (by simp;omega),qk,aS (by simp;omega),qk]
   have e:([X6.wrap k,X6.wrap (l.length:Int),X6.wrap (lW l:Int)]++bv (rk l)++bv (rl l)++[X6.wrap (aO .i64 ((enc k l).1.length:Int) 8),X6.wrap ((enc k l).1.length:Int)]++(enc k l).1)=lY k l:=by
    unfold lY fS be2;rw[bV,bV,bV,bV,bV,e8];have a1:k%256=k:=by omega
    have a2:(l.length:Int)%256=(l.length:Int):=by omega
    have a3:(lW l:Int)%256=(lW l:Int):=by omega
    have a4:((enc k l).1.length:Int)/2^8%256=(((enc k l).1.length/256:Nat):Int):=by omega
    have a5:((enc k l).1.length:Int)%256=(((enc k l).1.length%256:Nat):Int):=by omega
    rw[a1,a2,a3,a4,a5];simp
   have s2:(lY k l).length<=1000000000000:=by unfold lY;rw[qZ];omega
   rw[e,yq s2,qk]
  ·rw[if_pos (by simpa using he),if_pos he]
 unfold mw wr
 by_cases J:l=[]
 ·subst J;rfl
 ·have h0:0<l.length:=Qw.2 J
  rw[if_neg (by simp;omega),if_neg J];unfold kI
  by_cases W:kind= -1
  ·rw[if_pos (by simpa using W),if_pos W,Ih h hl,qk,key _ J]
  ·rw[if_neg (by simpa using W),if_neg W,key _ J]
theorem vB {b:List Int}(W:Byt b)(hl:b.length<140737488355328):kP b=some (match bI b with|some (v,n)=>(v,b.drop n,true)|none=>(kx,[],false)):=by
 unfold kP
 have step:∀k,1<=k->k<=b.length->k<=66->lN b (k:Int)=match bI (b.take k) with|some (v,n)=>(if n=k then some (.inr (v,b.drop k,true)) else some (.inl ((k+1:Nat):Int)))|none=>some (.inl ((k+1:Nat):Int)):=by
  intro k J Z h3;have hs:=dV (xs:=b) (lo:=0) (hi:=k) (by omega) Z;rw[show((0:Nat):Int)=0 from rfl] at hs;unfold lN lM;rw[if_pos (by simpa using by omega),if_pos (by simp;omega),hs,qk,aS (by simp;omega),qk,Qq,Zz,qU (W.take _),qk,fQ Z,bD (by omega)];have a0:(b.take k).length=k:=by simp;omega
  cases hp:bI (b.take k) with
  |none=>rfl
  |some x=>
   obtain⟨v,n⟩:=x;simp only[a0]
   by_cases e:n=k
   ·rw[if_pos e,if_pos e];rfl
   ·rw[if_neg e,if_neg e];rfl
 cases hp:bI b with
 | some x=>
  obtain⟨v,n⟩:=x;have hn:=qf W hp;refine cj (λi=>((i+1:Nat):Int)) (n - 1) rfl (λi hi=>?_) ?_
  ·rw[step (i+1) (by omega) (by omega) (by omega)]
   cases hq:bI (b.take (i+1)) with
   |none=>rfl
   |some y=>
    obtain⟨v',n'⟩:=y;obtain⟨J,Z⟩:=pF W hq;rw[hp] at J;simp only[Option.some.injEq,Prod.mk.injEq] at J;omega
  ·have e:n - 1+1=n:=by omega
   rw[e,step n (by omega) (by omega) (by omega),th W hp (Qg _)];simp
 | none=>
  refine cj (λi=>((i+1:Nat):Int)) (min b.length 66) rfl (λi hi=>?_) ?_
  ·rw[step (i+1) (by omega) (by omega) (by omega)]
   cases hq:bI (b.take (i+1)) with
   |none=>rfl
   |some y=>
    obtain⟨v',n'⟩:=y;obtain⟨J,Z⟩:=pF W hq;rw[hp] at J;cases J
  ·have e0:lM b ((min b.length 66+1:Nat):Int) false=some (.inr (kx,[],false)):=rfl
   unfold lN;split
   ·have:decide (((min b.length 66+1:Nat):Int)<=66)=false:=by
     rename_i h;simp at h ⊢;omega
    rw[this,e0]
   ·exact e0
theorem orI {a b:Nat}(h:a<65536)(Z:b<65536):bOr .i64 (a:Int) (b:Int)=((a|||b:Nat):Int):=by
 unfold bOr
 have J:(Ql Qf.bits (a:Int)).toNat=a:=by
  show(Ql 64 (a:Int)).toNat=a;rw[Z9];omega
 have W:(Ql Qf.bits (b:Int)).toNat=b:=by
  show(Ql 64 (b:Int)).toNat=b;rw[Z9];omega
 rw[BitVec.toNat_or,J,W];have:a|||b<2^16:=Nat.or_lt_two_pow (by simpa using h) (by simpa using Z)
 have e:(2:Nat)^16=65536:=by decide
 rw[ak (by omega)]
theorem EA {x y:Int}(J:0<=x/\x<256)(h:0<=y/\y<256):bOr .i64 (eK .i64 (Qf.wrap x) 8) (Qf.wrap y)=((x.toNat*256+y.toNat:Nat):Int):=by
 rw[rR J,rR h];obtain⟨a,rfl⟩:=Q8 J.1;obtain⟨b,rfl⟩:=Q8 h.1
 have e:eK .i64 (a:Int) 8=((2^8*a:Nat):Int):=by
  unfold eK;have:(2:Int)^(min (8:Int).toNat Qf.bits)=256:=by decide
  rw[this,ak (by omega)];omega
 rw[e,orI (by omega) (by omega),←Qy (by omega)];simp only[Int.toNat_natCast];omega
structure Blk (b:List Int)(k m z:Int)(v w:Ap)(d r:List Int):Prop where
 eq:b=fS k m z v w d++r
 hk:0<=k/\k<=4
 hm:1<=m/\m<=64
 hz:0<=z/\z<=m
 hv:Rgt v
 hw:Rgt w
 hd:d.length<65536
 hr:4<=r.length
def y8 (k m z:Int)(v w:Ap)(d:List Int):bm:=⟨k,m,v,w,z,((fS k m z v w d).length+4:Nat)⟩
theorem Blk.parts {b:List Int}{k m z k' m' z':Int}{v w:Ap}{d r:List Int}(h:Blk (k::m::z::b) k' m' z' v w d r):k=k'/\m=m'/\z=z'/\bI b=some (v,(bv v).length)/\bI (b.drop (bv v).length)=some (w,(bv w).length)/\(b.drop (bv v).length).drop (bv w).length=be2 d.length++(d++r):=by
 have:=h.eq;unfold fS at this;simp only[Qk,List.cons.injEq,Q6] at this;obtain⟨Z,h2,W,J⟩:=this;refine⟨Z,h2,W,?_,?_,?_⟩
 ·rw[J,o4 h.hv]
 ·rw[J,Qp,o4 h.hw]
 ·rw[J,Qp,Qp]
theorem Blk.one {b:List Int}{k m z k' m' z':Int}{v w v' w':Ap}{d r d' r':List Int}(h:Blk b k m z v w d r)(h':Blk b k' m' z' v' w' d' r'):k=k'/\m=m'/\z=z'/\v=v'/\w=w'/\d=d'/\r=r':=by
 have e:=h.eq;unfold fS at e;simp only[Qk] at e;rw[e] at h h';obtain⟨a1,a2,a3,a4,a5,a6⟩:=h.parts;obtain⟨b1,b2,b3,W,Z,J⟩:=h'.parts;rw[a4] at W;simp only[Option.some.injEq,Prod.mk.injEq] at W;obtain⟨rfl,_⟩:=W;rw[a5] at Z;simp only[Option.some.injEq,Prod.mk.injEq] at Z;obtain⟨rfl,_⟩:=Z;rw[a6] at J;unfold be2 at J;simp only[Qk,Qm,List.cons.injEq] at J;have a0:d.length=d'.length:=by omega
 obtain⟨c1,c2⟩:=List.append_inj J.2.2 a0;exact⟨b1,b2,b3,rfl,rfl,c1,c2⟩
abbrev AH:bm:=⟨0,0,Ap.zero,Ap.zero,0,0⟩
theorem Ij {b:List Int}(Z:Byt b)(hl:b.length<=1000000000000):
  (∃k m z v w d r,Blk b k m z v w d r/\jh b=some (y8 k m z v w d,d,true))\/(jh b=some (AH,[],false)/\∀k m z v w d r,¬ Blk b k m z v w d r):=by
 have gj:∀{b:List Int},b.length<3->∀k m z v w d r,¬ Blk b k m z v w d r:=by
  intro b hs k m z v w d r h;have:=h.eq;rw[this] at hs;simp[qZ] at hs;omega
 have c6:∀b,gc b true=some (AH,[],false):=λb=>rfl
 match b,Z,hl with
 |[],_,_=>exact .inr ⟨rfl,gj (by simp)⟩
 |[_],_,_=>exact .inr ⟨rfl,gj (by simp)⟩
 |[_,_],_,_=>exact .inr ⟨rfl,gj (by simp)⟩
 | k ::m::z::t,Z,hl=>
  have b0:=Z.head;have b1:=Z.tail.head;have b2:=Z.tail.tail.head;have W:Byt t:=Z.tail.tail.tail;simp only[Q9] at hl;have i0:idx (k::m::z::t) 0=some k:=dx _ _;have i1:idx (k::m::z::t) 1=some m:=yi _ _ _;have i2:idx (k::m::z::t) 2=some z:=aH (xs:=k::m::z::t) (i:=2) (by simp);have e3:sub (k::m::z::t) 3 ((k::m::z::t).length:Int)=some t:=fQ (xs:=k::m::z::t) (k:=3) (by simp)
  have c0:jh (k::m::z::t)=if 4<k\/m=0\/64<m\/m<z then some (AH,[],false) else gc (k::m::z::t) false:=by
   unfold jh;rw[if_neg (by simp;omega),i0,qk,i1,qk,qk,i2,qk,qk]
   by_cases c1:4<k
   ·rw[if_pos (by simpa using c1),if_pos (.inl c1)];rfl
   rw[if_neg (by simpa using c1)]
   by_cases c2:m=0
   ·rw[if_pos (by simpa using c2),if_pos (.inr (.inl c2))];rfl
   rw[if_neg (by simpa using c2)]
   by_cases c3:64<m
   ·rw[if_pos (by simpa using c3),if_pos (.inr (.inr (.inl c3)))];rfl
   rw[if_neg (by simpa using c3)]
   by_cases c4:m<z
   ·rw[if_pos (.inr (.inr (.inr c4))),decide_eq_true c4];rfl
   rw[if_neg (by omega),decide_eq_false c4]
  rw[c0]
  by_cases c:4<k\/m=0\/64<m\/m<z
  ·rw[if_pos c]
   refine .inr ⟨rfl,λk' m' z' v w d r h=>?_⟩;obtain⟨rfl,rfl,rfl,_⟩:=h.parts;have:=h.hk;have:=h.hm;have:=h.hz;omega
  rw[if_neg c];unfold gc;rw[if_neg (by decide),i0,qk,i1,qk,i2,qk,e3,qk,vB W (by omega),qk];cases hp:bI t with
  |none=>
   have hf:∃x,kP ([]:List Int)=some x:=⟨_,vB (b:=[]) .nil (by simp)⟩
   obtain⟨x,hx⟩:=hf;simp only;rw[hx,qk];refine .inr ⟨rfl,λk' m' z' v w d r h=>?_⟩;have:=h.parts.2.2.2.1;rw[hp] at this;cases this
  | some q=>
   obtain⟨v,n1⟩:=q;have d0:=qf W hp;simp only;rw[vB (W.drop _) (by simp;omega),qk];cases hp2:bI (t.drop n1) with
   |none=>
    refine .inr ⟨rfl,λk' m' z' v' w d r h=>?_⟩;obtain⟨_,_,_,h1,h2,_⟩:=h.parts;rw[hp] at h1;simp only[Option.some.injEq,Prod.mk.injEq] at h1;rw[←h1.2,hp2] at h2;cases h2
   | some q2=>
    obtain⟨w,n2⟩:=q2;have c5:=qf (W.drop _) hp2;simp only[X9,Qz,if_false];obtain⟨b5,t1,a6,b6⟩:=lU W hp;obtain⟨b4,t2,a3,b7⟩:=lU (W.drop _) hp2;have a0:(t.drop n1).drop n2=t2:=by rw[a3,b7,Qp]
    have a5:Byt t2:=by rw[←a0];exact(W.drop _).drop _
    have b3:t.drop n1=t1:=by rw[a6,b6,Qp]
    have a2:t=bv v++(bv w++t2):=by rw[a6,←a3,b3]
    have a1:t2.length<2->∀k' m' z' v' w' d r,¬ Blk (k::m::z::t) k' m' z' v' w' d r:=by
     intro h2 k' m' z' v' w' d r h;obtain⟨_,_,_,p1,p2,J⟩:=h.parts;rw[hp] at p1;simp only[Option.some.injEq,Prod.mk.injEq] at p1;rw[←p1.2,hp2] at p2;simp only[Option.some.injEq,Prod.mk.injEq] at p2;rw[←p1.2,←p2.2,a0] at J;rw[J] at h2;simp[be2] at h2;omega
    unfold mW;simp only[a0]
    match t2,a2,a0,a5,a1,a3 with
    |[],_,_,_,a1,_=>exact .inr ⟨by rw[if_pos (by decide)],a1 (by simp)⟩
    |[_],_,_,_,a1,_=>exact .inr ⟨by rw[if_pos (by simp)],a1 (by simp)⟩
    | x::y::rest,a2,a0,a5,a1,a3=>
     have bx:=a5.head;have by_:=a5.tail.head;obtain⟨n,hn⟩:∃n,n=x.toNat*256+y.toNat:=⟨_,rfl⟩
     have e2:sub (x::y::rest) 2 ((x::y::rest).length:Int)=some rest:=fQ (xs:=x::y::rest) (k:=2) (by simp);have c7:rest.length<=t.length:=by rw[a2];simp;omega
     rw[if_neg (by simp;omega),dx,qk,yi,qk,e2,qk,EA bx by_,←hn,ak (by omega)];have d1:n<65536:=by omega
     by_cases hrl:rest.length<n+4
     ·rw[if_pos (by simpa using by omega)]
      refine .inr ⟨rfl,λk' m' z' v' w' d r h=>?_⟩;obtain⟨_,_,_,p1,p2,J⟩:=h.parts;rw[hp] at p1;simp only[Option.some.injEq,Prod.mk.injEq] at p1;rw[←p1.2,hp2] at p2;simp only[Option.some.injEq,Prod.mk.injEq] at p2;rw[←p1.2,←p2.2,a0] at J;unfold be2 at J;simp only[Qk,Qm,List.cons.injEq] at J;have h4:=h.hr;have h5:rest.length=d.length+r.length:=by rw[J.2.2];simp
      omega
     ·have e4:=dV (xs:=rest) (lo:=0) (hi:=n) (by omega) (by omega)
      rw[show((0:Nat):Int)=0 from rfl,Qq] at e4;rw[if_neg (by simpa using by omega),e4,qk];have a9:(rest.take n).length=n:=by simp;omega
      have hB:Blk (k::m::z::t) k m z v w (rest.take n) (rest.drop n):=by
       refine⟨?_,by omega,by omega,by omega,b5,b4,by omega,by simp;omega⟩;rw[a2];unfold fS be2;rw[a9];have q1:((n/256:Nat):Int)=x:=by omega
       have q2:((n%256:Nat):Int)=y:=by omega
       rw[q1,q2];simp
      refine .inl ⟨k,m,z,v,w,rest.take n,rest.drop n,hB,?_⟩
      have a4:(k::m::z::t).length=3+(bv v).length+(bv w).length+2+rest.length:=by
       rw[a2];simp;omega
      rw[a4];unfold y8;rw[qZ,a9,ak (show -9223372036854775808<=k/\_ by omega),ak (show -9223372036854775808<=m/\_ by omega),ak (show -9223372036854775808<=z/\_ by omega)]
      have q3:Qf.wrap (((3+(bv v).length+(bv w).length+2+rest.length:Nat):Int) - (rest.length:Int))=((5+(bv v).length+(bv w).length:Nat):Int):=by
       rw[ak (by simp only[Q9] at a4;omega)];omega
      have q4:Qf.wrap (((5+(bv v).length+(bv w).length:Nat):Int)+(n:Int))=((5+(bv v).length+(bv w).length+n:Nat):Int):=by
       rw[ak (by simp only[Q9] at a4;omega)];omega
      have q5:Qf.wrap (((5+(bv v).length+(bv w).length+n:Nat):Int)+4)=((5+(bv v).length+(bv w).length+n+4:Nat):Int):=by
       rw[ak (by simp only[Q9] at a4;omega)];omega
      rw[q3,q4,q5]
theorem GE {b:List Int}(Z:Byt b)(hl:b.length<=1000000000000){k m z:Int}{v w:Ap}{d r:List Int}(h:Blk b k m z v w d r):jh b=some (y8 k m z v w d,d,true):=by
 rcases Ij Z hl with⟨k',m',z',v',w',d',r',W,J⟩|⟨_,J⟩
 ·obtain⟨rfl,rfl,rfl,rfl,rfl,rfl,_⟩:=h.one W
  exact J
 ·exact absurd h (J _ _ _ _ _ _ _)
noncomputable def Dc (k m z:Int) (v w:Ap) (d r:List Int):List Ap×Int×Int:=
 if r.take 4=be4 (nq (fS k m z v w d)) then
  if (dec k d m).2≠0 then ([],0,70)
  else if (lW (dec k d m).1:Int)=z/\rk (dec k d m).1=v/\rl (dec k d m).1=w then ((dec k d m).1,((fS k m z v w d).length+4:Nat),0) else ([],0,70)
 else ([],0,71)
theorem GF {b:List Int}(hb:Byt b)(hl:b.length<=1000000000000){k m z:Int}{v w:Ap}{d r:List Int}(h:Blk b k m z v w d r):kp b=some (Dc k m z v w d r):=by
 unfold kp;rw[GE hb hl h,qk];have Z:=h.eq;have hr:=h.hr;have hd:=h.hd;have a4:Byt (fS k m z v w d):=by rw[Z] at hb;exact hb.left
 have a6:Byt d:=by
  have:=a4;unfold fS at this;exact this.tail.tail.tail.right.right.right
 have a9:b.length=(fS k m z v w d).length+r.length:=by rw[Z,kz]
 obtain⟨n,J⟩:∃n,n=(fS k m z v w d).length:=⟨_,rfl⟩
 have t1:b.take n=fS k m z v w d:=by rw[Z,J,X5]
 have t2:b.take (n+4)=fS k m z v w d++r.take 4:=by
  rw[Z,J,List.take_append,Q3 (Nat.le_add_right _ _),Nat.add_sub_cancel_left]
 have s1:=dV (xs:=b) (lo:=0) (hi:=n) (by omega) (by omega);have s2:=dV (xs:=b) (lo:=0) (hi:=n+4) (by omega) (by omega);rw[show((0:Nat):Int)=0 from rfl,Qq] at s1 s2;have hw:Qf.wrap (((n+4:Nat):Int) - 4)=(n:Int):=by rw[ak (by omega)];omega
 unfold y8;simp only[←J,X9,Qz,if_false];rw[hw,s1,qk];unfold jE;rw[t1,aS (by simp;omega),qk,Qm,qk,yq (by omega),qk,s2,qk,t2,AC (by unfold mY;simp[ff];omega),qk];unfold Dc mY
 by_cases c1:r.take 4=be4 (nq (fS k m z v w d))
 ·rw[if_pos c1,c1,decide_eq_true rfl]
  simp only[X9,Qz,if_false];rw[Eu _ _ a6 (by omega),qk]
  by_cases c2:(dec k d m).2=0
  ·rw[if_neg (by simpa using c2),if_neg (by simpa using c2)]
   rcases Ev k d m with⟨l,e,g1,W,g3⟩|⟨e,g1,W⟩
   ·rw[e]
    simp only;have hm:=h.hm;have a5:l≠[]:=λe=>by rw[e] at W;simp at W;omega
    rw[B6 k a5 (by omega),qk];simp only[Db]
    by_cases a1:(lW l:Int)=z<;>by_cases a2:rk l=v<;>by_cases a3:rl l=w<;>simp[i7,a1,a2,a3,J]
   ·rw[g1] at c2;exact absurd c2 W
  ·rw[if_pos (by simpa using c2),if_pos c2]
 ·have a0: ¬ (fS k m z v w d++be4 (nq (fS k m z v w d))=fS k m z v w d++r.take 4):=λh=>c1 (List.append_cancel_left h).symm
  rw[if_neg c1,decide_eq_false a0]
  rfl
theorem AJ {l:List Ap}{kind:Int}(h:∀v∈l,VOK v)(J:(wr kind l).2=0):∃k,l≠[]/\(∀v∈l,Rgt v)/\enc k l=((enc k l).1,0)/\k=kI kind l/\wr kind l=(mY (lY k l),0)/\∀t,Blk (mY (lY k l)++t) k (l.length:Int) (lW l:Int) (rk l) (rl l) (enc k l).1 (be4 (nq (lY k l))++t):=by
 unfold wr at J
 by_cases hne:l=[]
 ·rw[if_pos hne] at J;cases J
 rw[if_neg hne] at J
 by_cases he:(enc (kI kind l) l).2=0
 ·have W:enc (kI kind l) l=((enc (kI kind l) l).1,0):=Prod.ext rfl he
  obtain⟨hk,a0,_⟩:=fR W;have Z:=uL h W;have hn:=vz l;have h0:0<l.length:=Qw.2 hne;have a1:=vA h W;refine⟨kI kind l,hne,Z,W,rfl,by unfold wr;rw[if_neg hne,if_neg (by simpa using he)],λt=>⟨by unfold mY lY;simp,hk,by omega,by omega,Z _ (vx hne),Z _ (vy hne),by omega,by simp[ff]⟩⟩
 ·rw[if_pos (by simpa using he)] at J;exact absurd J he
theorem EB {l:List Ap}{kind:Int}(h:∀v∈l,VOK v)(W:(wr kind l).2=0):Byt (wr kind l).1/\(wr kind l).1.length<=100000:=by
 obtain⟨k,J,hR,he,_,W,hB⟩:=AJ h W;obtain⟨hk,a1,_⟩:=fR he;have hn:=vz l;have h0:0<l.length:=Qw.2 J;have a2:=vA h he;have Z:=hR _ (vx J);have a0:=hR _ (vy J);have l1:=(g7 Z).2;have l2:=(g7 a0).2;rw[W];unfold mY;refine⟨.app (Ez hk ⟨by omega,by omega⟩ ⟨by omega,by omega⟩ Z a0 (xD k h) (by omega)) (xF _),?_⟩;simp only[kz,ff];unfold lY;rw[qZ];omega
theorem Ik {l:List Ap}{kind:Int}(h:∀v∈l,VOK v)(J:(wr kind l).2=0){t:List Int}(ht:Byt t)(hl:t.length<=900000000000):kp ((wr kind l).1++t)=some (l,((wr kind l).1.length:Int),0):=by
 obtain⟨W,Z⟩:=EB h J;obtain⟨k,a0,hR,he,_,J,hB⟩:=AJ h J;rw[J] at W Z ⊢;simp only at W Z ⊢;rw[GF (W.app ht) (by simp only[kz];omega) (hB t)];have hd:=Ig h he;unfold Dc;rw[hd,if_pos (by rw[Z3 (ff _)];rfl),if_neg (by simp),if_pos ⟨rfl,rfl,rfl⟩];have:(mY (lY k l)).length=(lY k l).length+4:=by unfold mY;simp[ff]
 rw[this];rfl
open Option renaming bind_some→qk,bind_assoc→Zo,map_some→Xa
open List renaming length_append→kz,getElem?_eq_getElem→Q0,drop_eq_getElem_cons→Q1,getElem_mem→Q2,take_of_length_le→Q3,eq_nil_of_length_eq_zero→Q4,take_append_drop→Q5,append_assoc→Q6,take_succ_eq_append_getElem→Q7,length_cons→Q9,replicate→Qa,take_length→Qb,drop_of_length_le→Qc,length_singleton→Qd,range→Qe,map_append→Qh,mem_append→Qj,cons_append→Qk,nil_append→Qm,drop_left→Qp,drop_zero→Qq,append_nil→Qr,getElem?_eq_some_iff→Qs,all_eq_true→Qt,pairwise_append→Qu,length_map→Qv,length_pos_iff→Qw,getElem_of_mem→Qx,mem_map→Z1,flatMap_cons→Z2,take_left'→Z3,drop_left'→Z4,pairwise_iff_getElem→Z6,mem_cons→Z8,mem_singleton→Zb,take_append_of_le_length→Zd,length_replicate→Ze,drop_length→Zi,getElem?_append_right→Zl,flatten_append→Zm,map_congr_left→Zn,getElem?_append_left→Zp,mem_replicate→Zq,pairwise_cons→Zr,eq_of_mem_replicate→Zs,take_add_one→Zt,mem_range→Zu,length_eq_one_iff→Zv,getElem_map→Zw,length_take→Zx,length_drop→Zy,singleton_append→Zz,foldl_cons→X3,take_left→X5,length→X7,map_cons→Xb,map_take→Xc
open Nat renaming le_refl→Qg,two_pow_add_eq_or_of_lt→Qy,pow_le_pow_right→Z0,strongRecOn→Za,mul_le_mul→Zc,mul_le_mul_left→Zg,lt_of_lt_of_le→Zk
open Bool renaming and_eq_true→Qn,not_eq_true'→Qo,false_eq_true→Qz,or_eq_false_iff→Z5,eq_false_or_eq_true→Z7,and_eq_false_iff→Zf,not_true→X9
open Int renaming eq_ofNat_of_zero_le→Q8,emod_eq_of_lt→Qi,natCast_pow→Zh,fdiv_eq_ediv_of_nonneg→Zj,mul_comm→X8
open BitVec renaming ofInt→Ql,toNat_ofInt→Z9
open IntKind renaming i64→Qf,u64→X4,u8→X6,u32→Xd
end Go.Proofs.YthbonoagbeilkaaGreat.Hay
/- The checksum, bit by bit and by half bytes (plain numbers). -/
namespace Go.Proofs.YthbonoagbeilkaaGreat.Hay
open Option renaming bind_some→qk,bind_assoc→Zo,map_some→Xa
open List renaming length_append→kz,getElem?_eq_getElem→Q0,drop_eq_getElem_cons→Q1,getElem_mem→Q2,take_of_length_le→Q3,eq_nil_of_length_eq_zero→Q4,take_append_drop→Q5,append_assoc→Q6,take_succ_eq_append_getElem→Q7,length_cons→Q9,replicate→Qa,take_length→Qb,drop_of_length_le→Qc,length_singleton→Qd,range→Qe,map_append→Qh,mem_append→Qj,cons_append→Qk,nil_append→Qm,drop_left→Qp,drop_zero→Qq,append_nil→Qr,getElem?_eq_some_iff→Qs,all_eq_true→Qt,pairwise_append→Qu,length_map→Qv,length_pos_iff→Qw,getElem_of_mem→Qx,mem_map→Z1,flatMap_cons→Z2,take_left'→Z3,drop_left'→Z4,pairwise_iff_getElem→Z6,mem_cons→Z8,mem_singleton→Zb,take_append_of_le_length→Zd,length_replicate→Ze,drop_length→Zi,getElem?_append_right→Zl,flatten_append→Zm,map_congr_left→Zn,getElem?_append_left→Zp,mem_replicate→Zq,pairwise_cons→Zr,eq_of_mem_replicate→Zs,take_add_one→Zt,mem_range→Zu,length_eq_one_iff→Zv,getElem_map→Zw,length_take→Zx,length_drop→Zy,singleton_append→Zz,foldl_cons→X3,take_left→X5,length→X7,map_cons→Xb,map_take→Xc
open Nat renaming le_refl→Qg,two_pow_add_eq_or_of_lt→Qy,pow_le_pow_right→Z0,strongRecOn→Za,mul_le_mul→Zc,mul_le_mul_left→Zg,lt_of_lt_of_le→Zk
open Bool renaming and_eq_true→Qn,not_eq_true'→Qo,false_eq_true→Qz,or_eq_false_iff→Z5,eq_false_or_eq_true→Z7,and_eq_false_iff→Zf,not_true→X9
open Int renaming eq_ofNat_of_zero_le→Q8,emod_eq_of_lt→Qi,natCast_pow→Zh,fdiv_eq_ediv_of_nonneg→Zj,mul_comm→X8
open BitVec renaming ofInt→Ql,toNat_ofInt→Z9
open IntKind renaming i64→Qf,u64→X4,u8→X6,u32→Xd
open Option renaming bind_some→qk,bind_assoc→Zo,map_some→Xa
open List renaming length_append→kz,getElem?_eq_getElem→Q0,drop_eq_getElem_cons→Q1,getElem_mem→Q2,take_of_length_le→Q3,eq_nil_of_length_eq_zero→Q4,take_append_drop→Q5,append_assoc→Q6,take_succ_eq_append_getElem→Q7,length_cons→Q9,replicate→Qa,take_length→Qb,drop_of_length_le→Qc,length_singleton→Qd,range→Qe,map_append→Qh,mem_append→Qj,cons_append→Qk,nil_append→Qm,drop_left→Qp,drop_zero→Qq,append_nil→Qr,getElem?_eq_some_iff→Qs,all_eq_true→Qt,pairwise_append→Qu,length_map→Qv,length_pos_iff→Qw,getElem_of_mem→Qx,mem_map→Z1,flatMap_cons→Z2,take_left'→Z3,drop_left'→Z4,pairwise_iff_getElem→Z6,mem_cons→Z8,mem_singleton→Zb,take_append_of_le_length→Zd,length_replicate→Ze,drop_length→Zi,getElem?_append_right→Zl,flatten_append→Zm,map_congr_left→Zn,getElem?_append_left→Zp,mem_replicate→Zq,pairwise_cons→Zr,eq_of_mem_replicate→Zs,take_add_one→Zt,mem_range→Zu,length_eq_one_iff→Zv,getElem_map→Zw,length_take→Zx,length_drop→Zy,singleton_append→Zz,foldl_cons→X3,take_left→X5,length→X7,map_cons→Xb,map_take→Xc
open Nat renaming le_refl→Qg,two_pow_add_eq_or_of_lt→Qy,pow_le_pow_right→Z0,strongRecOn→Za,mul_le_mul→Zc,mul_le_mul_left→Zg,lt_of_lt_of_le→Zk
open Bool renaming and_eq_true→Qn,not_eq_true'→Qo,false_eq_true→Qz,or_eq_false_iff→Z5,eq_false_or_eq_true→Z7,and_eq_false_iff→Zf,not_true→X9
open Int renaming eq_ofNat_of_zero_le→Q8,emod_eq_of_lt→Qi,natCast_pow→Zh,fdiv_eq_ediv_of_nonneg→Zj,mul_comm→X8
open BitVec renaming ofInt→Ql,toNat_ofInt→Z9
open IntKind renaming i64→Qf,u64→X4,u8→X6,u32→Xd
open Option renaming bind_some→qk,bind_assoc→Zo,map_some→Xa
open List renaming length_append→kz,getElem?_eq_getElem→Q0,drop_eq_getElem_cons→Q1,getElem_mem→Q2,take_of_length_le→Q3,eq_nil_of_length_eq_zero→Q4,take_append_drop→Q5,append_assoc→Q6,take_succ_eq_append_getElem→Q7,length_cons→Q9,replicate→Qa,take_length→Qb,drop_of_length_le→Qc,length_singleton→Qd,range→Qe,map_append→Qh,mem_append→Qj,cons_append→Qk,nil_append→Qm,drop_left→Qp,drop_zero→Qq,append_nil→Qr,getElem?_eq_some_iff→Qs,all_eq_true→Qt,pairwise_append→Qu,length_map→Qv,length_pos_iff→Qw,getElem_of_mem→Qx,mem_map→Z1,flatMap_cons→Z2,take_left'→Z3,drop_left'→Z4,pairwise_iff_getElem→Z6,mem_cons→Z8,mem_singleton→Zb,take_append_of_le_length→Zd,length_replicate→Ze,drop_length→Zi,getElem?_append_right→Zl,flatten_append→Zm,map_congr_left→Zn,getElem?_append_left→Zp,mem_replicate→Zq,pairwise_cons→Zr,eq_of_mem_replicate→Zs,take_add_one→Zt,mem_range→Zu,length_eq_one_iff→Zv,getElem_map→Zw,length_take→Zx,length_drop→Zy,singleton_append→Zz,foldl_cons→X3,take_left→X5,length→X7,map_cons→Xb,map_take→Xc
open Nat renaming le_refl→Qg,two_pow_add_eq_or_of_lt→Qy,pow_le_pow_right→Z0,strongRecOn→Za,mul_le_mul→Zc,mul_le_mul_left→Zg,lt_of_lt_of_le→Zk
open Bool renaming and_eq_true→Qn,not_eq_true'→Qo,false_eq_true→Qz,or_eq_false_iff→Z5,eq_false_or_eq_true→Z7,and_eq_false_iff→Zf,not_true→X9
open Int renaming eq_ofNat_of_zero_le→Q8,emod_eq_of_lt→Qi,natCast_pow→Zh,fdiv_eq_ediv_of_nonneg→Zj,mul_comm→X8
open BitVec renaming ofInt→Ql,toNat_ofInt→Z9
open IntKind renaming i64→Qf,u64→X4,u8→X6,u32→Xd
theorem GG {n:Int}(h:U32 n):dW (be4 n)=n:=by
 unfold U32 at h;unfold be4 dW;simp only[X3,List.foldl_nil];omega
set_option linter.unusedVariables false
set_option linter.unusedSimpArgs false
section
variable {O:Type}
theorem JC {xs:List O}{i:Nat}(h:i<xs.length):ix xs (i:Int)=some i:=by
  unfold ix;rw[if_pos (by omega)];simp
theorem sQ {xs A B:List O}{x:O}{i:Int}(e:xs=A++x::B)(hi:i=(A.length:Int)):ix xs i=some A.length:=by
  subst e hi;unfold ix;rw[if_pos (by simp;omega)];simp
theorem nU {xs A B:List O}{x:O}(e:xs=A++x::B):xs[A.length]? =some x:=by subst e;simp
theorem wG {xs A B:List O}{x:O}(y:O)(e:xs=A++x::B):xs.set A.length y=A++y::B:=by subst e;simp
theorem Hl {β:Type}{xs A B:List O}{x:O}{i:Int}{k:Nat->O->Option β}(e:xs=A++x::B)(hi:i=(A.length:Int)):((ix xs i).bind λj=>(xs[j]?).bind λx=>k j x)=k A.length x:=by
  rw[sQ e hi,qk,nU e,qk]
def swp (xs:List O)(i j:Int):Option (List O):=
  (ix xs i).bind λa=>(xs[a]?).bind λx=>(ix xs j).bind λb=>(xs[b]?).bind λy=>(ix xs j).bind λc=>(xs[c]?).bind λ_=>
  (ix (xs.set c x) i).bind λd=>((xs.set c x)[d]?).bind λ_=>some ((xs.set c x).set d y)
theorem EC {A B C xs:List O}{x y:O}{i j:Int}(e:xs=A++x::(B++y::C))(hi:i=(A.length:Int))(h:j=(A.length:Int)+1+B.length):swp xs i j=some (A++y::(B++x::C)):=by
  have e2:xs=(A++x::B)++y::C:=by rw[e];simp
  have h:j=((A++x::B).length:Int):=by rw[h];simp;omega
  unfold swp;rw[sQ e hi,qk,nU e,qk,sQ e2 h,qk,nU e2,qk,qk,nU e2,qk];have W:=wG x e2;rw[W];have J:(A++x::B)++x::C=A++x::(B++x::C):=by simp
  rw[sQ J hi,qk,nU J,qk,wG y J]
theorem ED {A B C xs:List O}{x y:O}{i j:Int}(e:xs=A++x::(B++y::C))(hi:i=(A.length:Int))(h:j=(A.length:Int)+1+B.length):swp xs j i=some (A++y::(B++x::C)):=by
  have e2:xs=(A++x::B)++y::C:=by rw[e];simp
  have h:j=((A++x::B).length:Int):=by rw[h];simp;omega
  unfold swp;rw[sQ e2 h,qk,nU e2,qk,sQ e hi,qk,nU e,qk,qk,nU e,qk];have Z:=wG y e;rw[Z];have J:A++y::(B++y::C)=(A++y::B)++y::C:=by simp
  have W:j=((A++y::B).length:Int):=by rw[h];simp
  have e5:(A++x::B).length=(A++y::B).length:=by simp
  rw[sQ J W,qk,nU J,qk,wG x J];simp
theorem xG {n:Nat}{S:List O}(h:S.length=n+1):∃S' s,S=S'++[s]/\S'.length=n:=by
  have J:S≠[]:=by intro e;rw[e] at h;cases h
  refine⟨S.dropLast,S.getLast J,(List.dropLast_concat_getLast J).symm,by simp[h]⟩
theorem Stb.perm {lt:O->O->Bool}(h:Swo lt){l J:List O}(W:Stb lt l J):J.Perm l:=by
  classical
  rw[List.perm_iff_count];intro a;rw[←List.count_filter (p:=eqv lt a) (j3 h a),W.flt a,List.count_filter (j3 h a)]
theorem Stb.len {lt:O->O->Bool}(h:Swo lt){l J:List O}(W:Stb lt l J):J.length=l.length:=(W.perm h).length_eq
theorem Stb.app {lt:O->O->Bool}{l h m m':List O}(J:Stb lt l h)(W:Stb lt (h++m) m'):Stb lt (l++m) m':=
  W.trans λa=>by simp[J.flt]
end
def Cmp {O:Type}(lt:O->O->Bool)(p:O->O->Option Int):Prop:= ∀x y,∃c,p x y=some c/\decide (c<0)=lt x y
section
variable {lt:aa->aa->Bool}{p:aa->aa->Option Int}
theorem JD (h:Swo lt) (hp:Cmp lt p) (L R:List aa) (v:aa) (a x6:Int) (ha:a=(L.length:Int)) (Z: -9223372036854775808<=x6+1/\x6+1<=9223372036854775807):
    ∀(n:Nat) (S1 S2:List aa) (j:Int) (xs:List aa),S1.length=n->j=(L.length:Int)+S1.length->xs=L++S1++v::(S2++R)->Srt lt (S1++S2)->(∀s∈S2,lt v s=true)->j<4611686018427387904->
    ∃T,au (λs:(Int×List aa)=>bg a p x6 s.1 s.2) (j,xs)=some (.inl (x6+1,L++T++R))/\Stb lt (S1++S2++[v]) T:=by
  intro n
  induction n with
  | zero=>
    intro S1 S2 j xs hn hj a0 W hv hb;obtain rfl:=Q4 hn;refine⟨v::S2,?_,?_⟩
    · apply aT
      simp only[bg];rw[if_neg (by simp;simp at hj;omega)];simp only[be,dQ,ak Z];simp[a0]
    ·simpa using Stb.ins h (S1:=[]) W hv (by simp)
  | succ n ih=>
    intro S1 S2 j xs hn hj a0 W hv hb;obtain⟨J,s,rfl,a3⟩:=xG hn;rw[kz,Qd] at hj;have e1:xs=(L++J)++s::([]++v::(S2++R)):=by rw[a0];simp
    have e2:xs=(L++(J++[s]))++v::(S2++R):=a0;have a1:j - 1=((L++J).length:Int):=by rw[kz];omega
    have a4:j=((L++(J++[s])).length:Int):=by simp;omega
    have hw:Qf.wrap (j - 1)=j - 1:=ak (by omega);obtain⟨c,hc,hd⟩:=hp v s
    have a2:bg a p x6 j xs=be x6 j xs (lt v s):=by
      simp only[bg];rw[if_pos (by simp;omega),Hl e2 a4,hw,Hl e1 a1,hc,qk,hd]
    cases hl:lt v s with
    | true=>
      have a5:bg a p x6 j xs=some (.inl (j - 1,(L++J)++v::([]++s::(S2++R)))):=by
        have h1:(swp xs (j - 1) j)=_:=EC e1 a1 (by rw[←a1];simp)
        have h2:be x6 j xs true=(swp xs (j - 1) j).bind λr=>some (.inl (j - 1,r)):=by
          simp only[be,swp,Zo,qk,hw,if_true]
        rw[a2,hl,h2,h1,qk]
      obtain⟨T,h1,h2⟩:=ih J (s::S2) (j - 1) _ a3 (by omega) rfl (by simpa using W) (by
        intro x Z;rcases Z8.1 Z with rfl|Z
        ·exact hl
        ·exact hv x Z) (by omega)
      refine⟨T,?_,by simpa using h2⟩;rw[bK a5];simpa using h1
    | false=>
      refine⟨J++[s]++v::S2,?_,?_⟩
      · apply aT
        show bg a p x6 j xs=_;rw[a2,hl];simp only[be,dQ,ak Z];simp[a0]
      · refine Stb.ins h W hv (zI h ?_ hl)
        unfold Srt at W ⊢;rw[Qu] at W;exact W.1
theorem Il (h:Swo lt)(hp:Cmp lt p)(L R:List aa)(a b:Int)(ha:a=(L.length:Int))(hb:b<4611686018427387904):
    ∀(Y J S:List aa) (j:Int) (xs:List aa),Stb lt J S->j=(L.length:Int)+S.length->b=(L.length:Int)+S.length+Y.length->xs=L++S++(Y++R)->
    ∃T,au (λs:(Int×List aa)=>bC a b p s.1 s.2) (j,xs)=some (L++T++R)/\Stb lt (J++Y) T:=by
  intro Y
  induction Y with
  | nil=>
    intro J S j xs W hj Z a0;refine⟨S,?_,by simpa using W⟩;apply aT;simp only[bC];rw[if_neg (by simp;simp at Z;omega)];simp[a0]
  | cons v Y ih=>
    intro J S j xs W hj Z a0;rw[Q9] at Z;obtain⟨T,h1,h2⟩:=JD h hp L (Y++R) v a j ha (by omega) S.length S [] j xs rfl hj (by rw[a0];simp) (by simpa using W.srt) (by simp) (by omega)
    have a2:bC a b p j xs=some (.inl (j+1,L++T++(Y++R))):=by
      simp only[bC];rw[if_pos (by simp;omega)];exact h1
    rw[Qr] at h2;have a1:=h2.len h;rw[kz,Qd] at a1;obtain⟨T',h3,h4⟩:=ih (J++[v]) T (j+1) _ (W.app h2) (by omega) (by omega) rfl;refine⟨T',?_,by simpa using h4⟩;rw[bK a2,h3]
theorem EE (h:Swo lt)(hp:Cmp lt p)(L X R:List aa){a b:Int}{xs:List aa}(Z:a=(L.length:Int))(W:b=(L.length:Int)+X.length)(hn:b<4611686018427387904)(J:xs=L++X++R):
    ∃T,ce xs a b p=some (L++T++R)/\Stb lt X T:=by
  unfold ce;rw[ak (by omega)];cases X with
  | nil=>
    refine⟨[],?_,⟨List.Pairwise.nil,λ_=>rfl⟩⟩;apply aT;simp only[bC];rw[if_neg (by simp;simp at W;omega)];simp[J]
  | cons v X=>
    rw[Q9] at W;obtain⟨T,h1,h2⟩:=Il h hp L R a b Z hn X [v] [v] (a+1) xs ⟨by simp[Srt],λ_=>rfl⟩ (by simp;omega) (by simp;omega) (by rw[J];simp);exact⟨T,h1,by simpa using h2⟩
end
set_option linter.unusedVariables false
set_option linter.unusedSimpArgs false
section
variable {lt:aa->aa->Bool}{p:aa->aa->Option Int}
theorem GH (p1 p2 p3:Int):∀(J W A h B Z C:List aa) (i:Int) (xs:List aa),W.length=J.length->h.length=Z.length->i=(h.length:Int)->p1=(A.length:Int)->
  p2=(A.length:Int)+h.length+J.length+B.length->p3=i+J.length->xs=A++h++J++B++Z++W++C->p2+p3<4611686018427387904->
  au (λs:(Int×List aa)=>bO p1 p2 p3 s.1 s.2) (i,xs)=some (A++(h++W)++B++(Z++J)++C):=by
 intro J
 induction J with
 |nil=>
  intro W A h B Z C i xs h1 h2 h3 h4 h5 h6 a0 hb;obtain rfl:=Q4 (h1.trans rfl);apply aT;simp only[bO];rw[if_neg (by simp;simp at h6;omega)];simp[a0]
 | cons u J ih=>
  intro W A h B Z C i xs h1 h2 h3 h4 h5 h6 a0 hb;cases W with
  |nil=>cases h1
  | cons v W=>
   rw[Q9,Q9] at h1;rw[Q9] at h5 h6;have e1:xs=(A++h)++u::((J++B++Z)++v::(W++C)):=by rw[a0];simp
   have hi:p1+i=((A++h).length:Int):=by rw[kz];omega
   have hj:p2+i=((A++h).length:Int)+1+(J++B++Z).length:=by simp only[kz];omega
   have a1:bO p1 p2 p3 i xs=some (.inl (i+1,(A++h)++v::((J++B++Z)++u::(W++C)))):=by
    have h1:=ED e1 hi hj
    have h2:bO p1 p2 p3 i xs=(swp xs (p2+i) (p1+i)).bind λr=>some (.inl (i+1,r)):=by
     simp only[bO,swp,Zo,qk];rw[if_pos (by simp;omega),ak (by omega),ak (by omega),ak (by omega)]
    rw[h2,h1,qk]
   rw[bK a1,ih W A (h++[v]) B (Z++[u]) C (i+1) _ (by omega) (by simp;omega) (by simp;omega) h4 (by simp;omega) (by omega) (by simp) hb];simp
theorem AK {A U B V C xs:List aa}{p1 p2 h:Int}(Z:V.length=U.length)(J:p1=(A.length:Int))(h3:p2=(A.length:Int)+U.length+B.length)(h4:h=(U.length:Int))(W:xs=A++U++B++V++C)(hb:p2+h<4611686018427387904):
  b8 xs p1 p2 h p=some (A++V++B++U++C):=by
 unfold b8;have:=GH p1 p2 h U V A [] B [] C 0 xs Z rfl rfl J (by simp;omega) (by omega) (by simpa using W) hb;simpa using this
theorem GI (m:Int):∀(n:Nat) (X Y A C:List aa) (i j:Int) (xs:List aa),X.length+Y.length=n->0<X.length->0<Y.length->i=(X.length:Int)->j=(Y.length:Int)->m=(A.length:Int)+X.length->
  xs=A++X++Y++C->m+j<2305843009213693952->i<2305843009213693952->
  au (λs:(Int×Int×List aa)=>bG m p s.1 s.2.1 s.2.2) (i,j,xs)=some (A++Y++X++C):=by
 intro n
 induction n using Za with
 | _ n ih=>
  intro X Y A C i j xs hn Z hY hi hj W J hb a1
  by_cases hij:i=j
  ·apply aT
   simp only[bG];rw[if_neg (by simp[hij])];simp only[iP];rw[ak (by omega),AK (A:=A) (U:=X) (B:=[]) (V:=Y) (C:=C) (by omega) (by omega) (by simp;omega) hi (by simp[J]) (by omega)];simp
  ·by_cases hlt:j<i
   ·have a0:X=X.take Y.length++X.drop Y.length:=(Q5 _ _).symm
    have h:bG m p i j xs=some (.inl (i - j,j,(A++Y)++X.drop Y.length++X.take Y.length++C)):=by
     simp only[bG]
     rw[if_pos (by simp[hij]),if_pos (by simp[hlt]),ak (by omega),AK (A:=A) (U:=X.take Y.length) (B:=X.drop Y.length) (V:=Y) (C:=C) (by simp;omega) (by omega) (by simp;omega) (by simp;omega)
      (by rw[J];simp) (by omega),qk,ak (by omega)]
    rw[bK h,ih (n - Y.length) (by omega) (X.drop Y.length) (X.take Y.length) (A++Y) C (i - j) j _ (by simp;omega) (by simp;omega) (by simp;omega) (by simp;omega) (by simp;omega) (by simp;omega) rfl (by omega) (by omega)];simp
   ·have a2:Y=Y.take (Y.length - X.length)++Y.drop (Y.length - X.length):=(Q5 _ _).symm
    have h:bG m p i j xs=some (.inl (i,j - i,A++Y.drop (Y.length - X.length)++Y.take (Y.length - X.length)++(X++C))):=by
     simp only[bG]
     rw[if_pos (by simp[hij]),if_neg (by simp;omega),ak (n:=m - i) (by omega),ak (n:=m+j) (by omega),ak (n:=m+j - i) (by omega),
      AK (A:=A) (U:=X) (B:=Y.take (Y.length - X.length)) (V:=Y.drop (Y.length - X.length)) (C:=C) (by simp;omega) (by omega) (by simp;omega) (by omega)
      (by rw[J];simp) (by omega),qk,ak (by omega)]
     simp
    rw[bK h,ih (n - X.length) (by omega) (Y.drop (Y.length - X.length)) (Y.take (Y.length - X.length)) A (X++C) i (j - i) _ (by simp;omega) (by simp;omega) (by simp;omega) (by simp;omega) (by simp;omega) (by simp;omega) rfl (by omega) (by omega)];simp
theorem JE {A X Y C xs:List aa}{a m b:Int}(h:0<X.length)(W:0<Y.length)(ha:a=(A.length:Int))(Z:m=a+X.length)(hb:b=m+Y.length)(J:xs=A++X++Y++C)(hn:b<2305843009213693952):
  cz xs a m b p=some (A++Y++X++C):=by
 unfold cz;rw[ak (by omega),ak (by omega)];exact GI m _ X Y A C _ _ xs rfl h W (by omega) (by omega) (by omega) J (by omega) (by omega)
theorem GJ (e:Int)(he:e<4611686018427387904)(x:aa)(Q:List aa):∀(h J:List aa) (k:Int) (xs:List aa),k=(J.length:Int)->e - 1=k+h.length->xs=J++x::(h++Q)->
  au (λs:(Int×List aa)=>bP e s.1 s.2) (k,xs)=some (J++h++x::Q):=by
 intro h
 induction h with
 |nil=>
  intro J k xs hk Z W;apply aT;simp only[bP];rw[ak (by omega),if_neg (by simp;simp at Z;omega)];simp[iq,W]
 | cons b h ih=>
  intro J k xs hk Z W;rw[Q9] at Z;have e1:xs=J++x::([]++b::(h++Q)):=by rw[W];simp
  have a0:bP e k xs=some (.inl (k+1,J++b::([]++x::(h++Q)))):=by
   have h2:=ED e1 hk (j:=k+1) (by simp;omega)
   have h3:bP e k xs=(swp xs (k+1) k).bind λr=>some (.inl (k+1,r)):=by
    simp only[bP,swp,Zo,qk];rw[ak (n:=e - 1) (by omega),if_pos (by simp;omega),ak (by omega)]
   rw[h3,h2,qk]
  rw[bK a0,ih (J++[b]) (k+1) _ (by simp;omega) (by omega) (by simp)];simp
theorem GK (e:Int)(y:aa)(J:List aa)(he:e=(J.length:Int)):∀(n:Nat) (h Q:List aa) (k:Int) (xs:List aa),h.length=n->k=e+h.length->xs=J++h++y::Q->k<4611686018427387904->
  au (λs:(Int×List aa)=>bQ e s.1 s.2) (k,xs)=some (J++y::(h++Q)):=by
 intro n
 induction n with
 |zero=>
  intro h Q k xs W Z a0 hb;obtain rfl:=Q4 W;apply aT;simp only[bQ];rw[if_neg (by simp;simp at Z;omega)];simp[ir,a0]
 | succ n ih=>
  intro h Q k xs W Z a0 hb;obtain⟨a1,s,rfl,a3⟩:=xG W;rw[kz,Qd] at Z;have e1:xs=(J++a1)++s::([]++y::Q):=by rw[a0];simp
  have a2:bQ e k xs=some (.inl (k - 1,(J++a1)++y::([]++s::Q))):=by
   have h2:=EC e1 (i:=k - 1) (j:=k) (by simp;omega) (by simp;omega)
   have h3:bQ e k xs=(swp xs (k - 1) k).bind λr=>some (.inl (k - 1,r)):=by
    simp only[bQ,swp,Zo,qk];rw[if_pos (by simp;omega),ak (by omega)]
   rw[h3,h2,qk]
  rw[bK a2,ih a1 (s::Q) (k - 1) _ a3 (by omega) (by simp) (by omega)];simp
end
theorem uM {β:Type}{F:Int×Int->Option ((Int×Int)⊕β)}(g:Nat->Bool)(W J:Nat)(K:Nat->Option β)
  (a1:∀lo hi:Nat,W<=lo->lo<hi->hi<=J->F (lo,hi)=some (.inl (if g ((lo+hi)/2) then (((lo+hi)/2+1:Nat),hi) else (lo,((lo+hi)/2:Nat)))))
  (a0:∀s:Nat,W<=s->s<=J->F (s,s)=(K s).map Sum.inr) (h:W<=J):
  ∃s:Nat,W<=s/\s<=J/\(s=W\/g (s - 1)=true)/\(s=J\/g s=false)/\au F ((W:Int),(J:Int))=K s:=by
 have key:∀(n lo hi:Nat),hi - lo=n->W<=lo->lo<=hi->hi<=J->(lo=W\/g (lo - 1)=true)->(hi=J\/g hi=false)->
   ∃s:Nat,W<=s/\s<=J/\(s=W\/g (s - 1)=true)/\(s=J\/g s=false)/\au F ((lo:Int),(hi:Int))=K s:=by
  intro n
  induction n using Za with
  | _ n ih=>
   intro lo hi hn h1 h2 h3 h4 h5
   by_cases hlt:lo<hi
   ·have Z:=a1 lo hi h1 hlt h3
    cases hg:g ((lo+hi)/2) with
    |true=>
     rw[hg,if_pos rfl] at Z;rw[bK Z];exact ih (hi - ((lo+hi)/2+1)) (by omega) _ _ rfl (by omega) (by omega) h3 (Or.inr (by simpa using hg)) h5
    |false=>
     rw[hg,if_neg (by simp)] at Z;rw[bK Z];exact ih ((lo+hi)/2 - lo) (by omega) _ _ rfl h1 (by omega) (by omega) h4 (Or.inr hg)
   ·obtain rfl:lo=hi:=by omega
    refine⟨lo,h1,h3,h4,h5,?_⟩;rw[oa,a0 lo h1 h3];cases K lo<;>rfl
 exact key _ W J rfl (Qg _) h (Qg _) (Or.inl rfl) (Or.inl rfl)
theorem rW {x:Int}(h:0<=x/\x<9223372036854775808):Qf.wrap (aO .u64 (X4.wrap (Qf.wrap x)) 1)=x/2:=by
 rw[ak (n:=x) (by omega),cA,Qi (by omega) (by omega)];have:aO .u64 x ((1:Nat):Int)=x/2^1:=pE (by decide);rw[show(1:Int)=((1:Nat):Int) from rfl,this,ak (by omega)]
 rfl
section
variable {O:Type}
theorem rY {β:Type}{xs:List O}{x:O}{i:Int}{h:Nat}{k:Nat->O->Option β}(e:xs[h]? =some x)(hi:i=(h:Int)):((ix xs i).bind λj=>(xs[j]?).bind λx=>k j x)=k h x:=by
 obtain⟨J,W⟩:=Qs.1 e;rw[hi,JC J,qk,e,qk]
theorem xsA {L A B R:List O}{k:Nat}(h:k<A.length):(L++A++B++R)[L.length+k]? =A[k]? :=by
 rw[Q6,Q6,Zl (by omega),show L.length+k - L.length=k by omega,Zp h]
theorem xsB {L A B R:List O}{k:Nat}(h:k<B.length):(L++A++B++R)[L.length+A.length+k]? =B[k]? :=by
 rw[Q6,Zl (by simp),show L.length+A.length+k - (L++A).length=k by simp,Zp h]
theorem yr {A:List O}{k:Nat}(h:k<A.length){x:O}(e:A[k]? =some x):∃A',A.take (k+1)=A'++[x]:=by
 obtain⟨J,W⟩:=Qs.1 e;exact⟨A.take k,by rw[Zt,e];rfl⟩
theorem wH {A:List O}{k:Nat}{x:O}(e:A[k]? =some x):∃A',A.drop k=x::A':=by
 obtain⟨h,J⟩:=Qs.1 e;exact⟨A.drop (k+1),by rw[Q1 h,J]⟩
theorem JF {lt:O->O->Bool}(h:Swo lt){A1 A2 B1 B2:List O}(hA:Srt lt (A1++A2))(hB:Srt lt (B1++B2))
  (h1:B1=[]\/A2=[]\/ ∃Z b a A',B1=Z++[b]/\A2=a::A'/\lt b a=true)
  (h2:A1=[]\/B2=[]\/ ∃A' a b Z,A1=A'++[a]/\B2=b::Z/\lt b a=false):
  (∀b∈B1,∀a∈A2,lt b a=true)/\(∀a∈A1,∀b∈B2,lt b a=false):=by
 unfold Srt at hA hB;rw[Qu] at hA hB;constructor
 ·rcases h1 with rfl|rfl|⟨Z,bl,af,A',rfl,rfl,hl⟩
  ·simp
  ·simp
  ·intro b W a J
   cases hba:lt b a with
   |true=>rfl
   | false=>
    exfalso
    have a1:lt bl b=false:=by
     rcases Qj.1 W with W|W
     ·exact(Qu.1 hB.1).2.2 b W bl (by simp)
     ·simp at W;subst W;exact h.irr _
    have a0:lt a af=false:=by
     rcases Z8.1 J with rfl|J
     ·exact h.irr _
     ·exact(Zr.1 hA.2.1).1 a J
    have:=h.inc bl a af (h.inc bl b a a1 hba) a0;rw[hl] at this;cases this
 ·rcases h2 with rfl|rfl|⟨A',al,bf,Z,rfl,rfl,hl⟩
  ·simp
  ·simp
  ·intro a J b W
   have a1:lt b bf=false:=by
    rcases Z8.1 W with rfl|W
    ·exact h.irr _
    ·exact(Zr.1 hB.2.1).1 b W
   have a0:lt al a=false:=by
    rcases Qj.1 J with J|J
    ·exact(Qu.1 hA.1).2.2 a J al (by simp)
    ·simp at J;subst J;exact h.irr _
   exact h.inc b bf a a1 (h.inc bf al a hl a0)
theorem Srt.take {lt:O->O->Bool}{A:List O}(h:Srt lt A)(k:Nat):Srt lt (A.take k):=List.Pairwise.sublist (List.take_sublist k A) h
theorem Srt.drop {lt:O->O->Bool}{A:List O}(h:Srt lt A)(k:Nat):Srt lt (A.drop k):=List.Pairwise.sublist (List.drop_sublist k A) h
end
set_option linter.unusedVariables false
set_option linter.unusedSimpArgs false
section
variable {lt:aa->aa->Bool}{p:aa->aa->Option Int}
def Dd (lt:aa->aa->Bool)(p:aa->aa->Option Int)(h:List aa->Int->Int->Int->(aa->aa->Option Int)->Option (List aa))(N:Nat):Prop:=
  ∀ (L A B R:List aa) (a m b:Int) (xs:List aa),0<A.length->0<B.length->a=(L.length:Int)->m=(L.length:Int)+A.length->b=(L.length:Int)+A.length+B.length->xs=L++A++B++R->
    A.length+B.length<=N->xs.length<1152921504606846976->Srt lt A->Srt lt B->∃T,h xs a m b p=some (L++T++R)/\Stb lt (A++B) T
def gx (lt:aa->aa->Bool)(xs:List aa)(i j:Nat):Bool:=match xs[i]?,xs[j]? with
  |some x,some y=>lt x y
  |_,_=>false
theorem wI {xs:List aa}{i j:Nat}{x y:aa}(h:xs[i]? =some x)(J:xs[j]? =some y):gx lt xs i j=lt x y:=by simp[gx,h,J]
theorem uh (h:Swo lt){L A B R xs:List aa}(a2:xs=L++A++B++R)(hA:Srt lt A)(hB:Srt lt B)(k1 k2:Nat)(h1:k1<=A.length)(h2:k2<=B.length)
    (c1:k2=0\/k1=A.length\/(0<k2/\k1<A.length/\gx lt xs (L.length+A.length+(k2 - 1)) (L.length+k1)=true))
    (c2:k1=0\/k2=B.length\/(0<k1/\k2<B.length/\gx lt xs (L.length+A.length+k2) (L.length+(k1 - 1))=false)):
    (∀b∈B.take k2,∀a∈A.drop k1,lt b a=true)/\(∀a∈A.take k1,∀b∈B.drop k2,lt b a=false):=by
  have W:Srt lt (A.take k1++A.drop k1):=by rw[Q5];exact hA
  have J:Srt lt (B.take k2++B.drop k2):=by rw[Q5];exact hB
  refine JF h W J ?_ ?_
  · rcases c1 with rfl|rfl|⟨hk,a1,hg⟩
    ·simp
    ·simp
    · right;right
      have eb:B[k2 - 1]? =some B[k2 - 1]:=Q0 (by omega);have Z:A[k1]? =some A[k1]:=Q0 a1;obtain⟨B',J⟩:=yr (by omega) eb;obtain⟨A',W⟩:=wH Z;rw[show k2 - 1+1=k2 by omega] at J;refine⟨B',_,_,A',J,W,?_⟩;rw[←hg,a2,wI ((xsB (by omega)).trans eb) ?_];exact(xsA a1).trans Z
  · rcases c2 with rfl|rfl|⟨hk,a0,hg⟩
    ·simp
    ·simp
    · right;right
      have Z:A[k1 - 1]? =some A[k1 - 1]:=Q0 (by omega);have eb:B[k2]? =some B[k2]:=Q0 a0;obtain⟨A',W⟩:=yr (by omega) Z;obtain⟨B',J⟩:=wH eb;rw[show k1 - 1+1=k1 by omega] at W;refine⟨A',_,_,B',W,J,?_⟩;rw[←hg,a2,wI ((xsB a0).trans eb) ?_];exact(xsA (by omega)).trans Z
theorem Im (h :Swo lt) (hp:Cmp lt p) {L B R xs:List aa} {x:aa} {a m b:Int} (a9:0<B.length) (ha:a=(L.length:Int)) (hm:m=(L.length:Int)+1) (hb:b=(L.length:Int)+1+B.length)
    (J:xs=L++[x]++B++R) (hn:xs.length<1152921504606846976) (W:Srt lt B):
    ∃T,au (λs:(Int×Int)=>ct xs a p s.1 s.2) (m,b)=some (L++T++R)/\Stb lt ([x]++B) T:=by
  have b0:xs.length=L.length+1+B.length+R.length:=by rw[J];simp;omega
  have ex:xs[L.length]? =some x:=by rw[J];simp
  have a4:m=((L.length+1:Nat):Int):=by omega
  have a6:b=((L.length+1+B.length:Nat):Int):=by omega
  obtain⟨s,h1,h2,Z,h4,h5⟩:=uM (F:=λs:(Int×Int)=>ct xs a p s.1 s.2) (λc=>gx lt xs c L.length) (L.length+1) (L.length+1+B.length)
    (λs=>eP xs a (s:Int)) (λlo hi h1 h2 Z=>by
      have hc:(lo+hi)/2<xs.length:=by omega
      have ec:xs[(lo+hi)/2]? =some xs[(lo+hi)/2]:=Q0 hc;obtain⟨c,a5,a3⟩:=hp xs[(lo+hi)/2] x;simp only[ct];rw[if_pos (by simp;omega),rW (by omega),rY ec (by omega),rY ex ha,a5,qk,a3,wI ec ex,ak (by omega)]
      split<;>rfl)
    (λs h1 h2=>by
      simp only[ct]
      rw[if_neg (by simp)]) (by omega)
  obtain⟨k,rfl⟩:∃k,s=L.length+1+k:=⟨s - (L.length+1),by omega⟩
  have a0   :=uh h (A:=[x]) J (by simp[Srt]) W 0 k (by simp) (by omega)
    (by rcases Z with Z|Z
        ·left;omega
        · by_cases hk:k=0
          ·left;exact hk
          · right;right;refine⟨by omega,by simp,?_⟩
            rw[←Z];congr 1;simp;omega)
    (Or.inl rfl)
  have a2:    ∀b∈B.drop k,lt b x=false:=by
    have := uh h (A:=[x]) J (by simp[Srt]) W 1 k (by simp) (by omega) (Or.inr (Or.inl rfl))
      (by rcases h4 with h4|h4
          ·right;left;omega
          · by_cases hk:k=B.length
            ·right;left;exact hk
            · right;right;refine⟨by omega,by omega,?_⟩
              rw[←h4];congr 1)
    intro b hb;exact this.2 x (by simp) b hb
  refine⟨B.take k++x::B.drop k,?_,?_⟩
  · rw[a4,a6,h5]
    unfold eP;rw[GJ _ (by omega) x (B.drop k++R) (B.take k) L a xs ha (by simp;omega) (by rw[J,←Q6 (B.take k),Q5];simp)];simp
  · have a1:Srt lt (B.take k++B.drop k):=by rw[Q5];exact W
    have:=Stb.cat h (A1:=[]) (A2:=[x]) (B1:=B.take k) (B2:=B.drop k) (R1:=B.take k) (R2:=x::B.drop k) (Stb.refl (W.take k))
      (Stb.refl (by
        unfold Srt;rw[Zz,Zr]
        exact⟨a2,W.drop k⟩)) (by simp[Srt]) a1 (λb hb a ha=>a0.1 b hb a ha) (by simp)
    simpa using this
theorem GL (h :Swo lt) (hp:Cmp lt p) {L A R xs:List aa} {y:aa} {a m:Int} (b0:0<A.length) (J:a=(L.length:Int)) (hm:m=(L.length:Int)+A.length)
    (a0:xs=L++A++[y]++R) (hn:xs.length<1152921504606846976) (Z:Srt lt A):
    ∃T,au (λs:(Int×Int)=>cu xs m p s.1 s.2) (a,m)=some (L++T++R)/\Stb lt (A++[y]) T:=by
  have a9:xs.length=L.length+A.length+1+R.length:=by rw[a0];simp;omega
  have ey:xs[L.length+A.length]? =some y:=by
    rw[a0];simp
  have a1:m=((L.length+A.length:Nat):Int):=by omega
  obtain⟨s,h1,h2,h3,h4,h5⟩:=uM (F:=λs:(Int×Int)=>cu xs m p s.1 s.2) (λc=> !gx lt xs (L.length+A.length) c) L.length (L.length+A.length)
    (λs=>eQ xs m (s:Int)) (λlo hi h1 h2 h3=>by
      have hc:(lo+hi)/2<xs.length:=by omega
      have ec:xs[(lo+hi)/2]? =some xs[(lo+hi)/2]:=Q0 hc;obtain⟨c,a5,a3⟩:=hp y xs[(lo+hi)/2];simp only[cu];rw[if_pos (by simp;omega),rW (by omega),rY ey a1,rY ec (by omega),a5,qk,a3,wI ey ec,ak (by omega)]
      split<;>rfl)
    (λs h1 h2=>by
      simp only[cu]
      rw[if_neg (by simp)]) (by omega)
  obtain⟨k,rfl⟩:∃k,s=L.length+k:=⟨s - L.length,by omega⟩
  have hk:k<=A.length:=by omega
  have a4:    ∀a∈A.drop k,lt y a=true:=by
    have := uh h a0 Z (by simp[Srt]:Srt lt [y]) k 1 hk (by simp)
      (by rcases h4 with h4|h4
          ·right;left;omega
          · by_cases hk':k=A.length
            ·right;left;exact hk'
            · right;right;refine⟨by omega,by omega,?_⟩
              simpa using h4)
      (Or.inr (Or.inl rfl))
    intro a J;exact this.1 y (by simp) a J
  have a2:    ∀a∈A.take k,lt y a=false:=by
    have := uh h a0 Z (by simp[Srt]:Srt lt [y]) k 0 hk (by simp) (Or.inl rfl)
      (by rcases h3 with h3|h3
          ·left;omega
          · by_cases hk':k=0
            ·left;exact hk'
            · right;right;refine⟨by omega,by simp,?_⟩
              rw[show L.length+(k - 1)=L.length+k - 1 by omega]
              simpa using h3)
    intro a J;exact this.2 a J y (by simp)
  refine⟨A.take k++y::A.drop k,?_,?_⟩
  · rw[J,a1]
    rw[←a1,←J] at h5 ⊢;rw[h5];unfold eQ;rw[GK _ y (L++A.take k) (by simp;omega) _ (A.drop k) R m xs rfl (by simp;omega) (by rw[a0];simp) (by omega)];simp
  · have a6:Srt lt (A.take k++A.drop k):=by rw[Q5];exact Z
    have:=Stb.cat h (A1:=A.take k) (A2:=A.drop k) (B1:=[y]) (B2:=[]) (R1:=A.take k++[y]) (R2:=A.drop k) (Stb.refl (by
        unfold Srt;rw[Qu];refine⟨Z.take k,by simp,λa J b W=>?_⟩;rw[Zb] at W;subst W
        exact a2 a J)) (by simpa using Stb.refl (Z.drop k)) a6 (by simp[Srt]) (λb W a J=>by
          rw[Zb] at W;subst W
          exact a4 a J) (by simp)
    simpa using this
theorem M4 {J:List aa->Int->Int->Int->(aa->aa->Option Int)->Option (List aa)}{xs:List aa}{a m b s mid e:Int}
    (a0:mid=(a+b)/2) (he:e=mid+m - s) (h0:0<=a) (h1:0<=m) (h2:0<=b) (h3:0<=s) (ha:a<1152921504606846976) (hb:b<1152921504606846976) (hm:m<1152921504606846976) (hs:s<1152921504606846976):
    dm xs a m b p J s=(if s<m/\m<e then cz xs s m e p else some xs).bind λr=>
      (if a<s/\s<mid then J r a s mid p else some r).bind λh=>(if mid<e/\e<b then J h mid e b p else some h):=by
  have W:Qf.wrap (aO .u64 (X4.wrap (Qf.wrap (a+b))) 1)=mid:=by rw[rW (by omega),a0]
  have hN:Qf.wrap (mid+m)=mid+m:=ak (by omega);have Z:Qf.wrap (mid+m - s)=e:=by rw[ak (by omega),he]
  have a1:∀h,cZ a m b p J s h=(if mid<e/\e<b then J h mid e b p else some h):=by
    intro h;simp only[cZ,eD,W,hN,Z]
    by_cases c1:mid<e<;>by_cases c2:e<b<;>simp[c1,c2]
  have h9:∀r,dh a m b p J s r=(if a<s/\s<mid then J r a s mid p else some r).bind λh=>(if mid<e/\e<b then J h mid e b p else some h):=by
    intro r;simp only[dh,eR,W,a1]
    by_cases c1:a<s<;>by_cases c2:s<mid<;>simp[c1,c2]
  simp only[dm,eS,W,hN,Z,h9]
  by_cases c1:s<m<;>by_cases c2:m<e<;>simp[c1,c2]
end
set_option linter.unusedVariables false
set_option linter.unusedSimpArgs false
section
variable {lt:aa->aa->Bool}{p:aa->aa->Option Int}
theorem M5 (h:Swo lt) (hp:Cmp lt p) {a2:List aa->Int->Int->Int->(aa->aa->Option Int)->Option (List aa)} {N:Nat} (b3:Dd lt p a2 N):
    Dd lt p (dC a2) (N+1):=by
  intro L A B R a m b xs d0 b7 ha hm hb a5 hN hn hA hB;have e3:xs.length=L.length+A.length+B.length+R.length:=by rw[a5];simp;omega
  simp only[dC]
  by_cases hA1:A.length=1
  · rw[ak (n:=m - a) (by omega),if_pos (by simp;omega)]
    obtain⟨x,rfl⟩:=Zv.1 hA1;exact Im h hp b7 ha (by simpa using hm) (by simpa using hb) a5 hn hB
  rw[ak (n:=m - a) (by omega),if_neg (by simp;omega)]
  by_cases hB1:B.length=1
  · rw[ak (n:=b - m) (by omega),if_pos (by simp;omega)]
    obtain⟨y,rfl⟩:=Zv.1 hB1;exact GL h hp d0 ha hm a5 hn hA
  rw[ak (n:=b - m) (by omega),if_neg (by simp;omega)];have hM:Qf.wrap (aO .u64 (X4.wrap (Qf.wrap (a+b))) 1)=(a+b)/2:=rW (by omega);have b0:Qf.wrap ((a+b)/2+m)=(a+b)/2+m:=ak (by omega)
  obtain⟨aN,e6⟩:∃n:Nat,n=L.length:=⟨_,rfl⟩
  obtain⟨J,e5⟩:∃n:Nat,n=L.length+A.length:=⟨_,rfl⟩
  obtain⟨bN,e7⟩:∃n:Nat,n=L.length+A.length+B.length:=⟨_,rfl⟩
  have c6:a=(aN:Int):=by omega
  have c3:m=(J:Int):=by omega
  have e8:b=(bN:Int):=by omega
  obtain⟨mid,e4⟩:∃n:Nat,n=(aN+bN)/2:=⟨_,rfl⟩
  have b2:(a+b)/2=(mid:Int):=by omega
  rw[b2] at hM b0
  have key: ∀a1 a0:Nat,aN<=a1->a1<=a0->a0<=J->a0<=mid->(a1=aN\/a1+bN=mid+J)->(a0=J\/a0=mid)->mid+J<=a1+bN->
      ∃T,dq xs a m b p a2 (a1:Int) (a0:Int)=some (L++T++R)/\Stb lt (A++B) T:=by
    intro a1 a0 q1 q2 q3 q4 q5 q6 q7
    obtain⟨s,h1,h2,h3,h4,h5⟩:=uM (F:=λs:(Int×Int)=>dp xs a m b p a2 s.1 s.2) (λc=> !gx lt xs (mid+J - 1 - c) c) a1 a0
      (λs=>dm xs a m b p a2 (s:Int)) (λlo hi g1 g2 g3=>by
        have hc:(lo+hi)/2<xs.length:=by omega
        have hd:mid+J - 1 - (lo+hi)/2<xs.length:=by omega
        have ec:xs[(lo+hi)/2]? =some xs[(lo+hi)/2]:=Q0 hc;have ed:xs[mid+J - 1 - (lo+hi)/2]? =some xs[mid+J - 1 - (lo+hi)/2]:=Q0 hd;obtain⟨c,c5,b6⟩:=hp xs[mid+J - 1 - (lo+hi)/2] xs[(lo+hi)/2];simp only[dp];rw[if_pos (by simp;omega),hM,rW (by omega),b0,ak (n:=(mid:Int)+m - 1) (by omega),ak (n:=(mid:Int)+m - 1 - ((lo:Int)+hi)/2) (by omega),rY ed (by omega),rY ec (by omega),c5,qk,b6,wI ed ec,ak (by omega)]
        split<;>rfl)
      (λs g1 g2=>by
        simp only[dp]
        rw[if_neg (by simp)]) q2
    unfold dq;rw[h5,M4 (mid:=(mid:Int)) (e:=((mid+J - s:Nat):Int)) b2.symm (by omega) (by omega) (by omega) (by omega) (by omega) (by omega) (by omega) (by omega) (by omega)];obtain⟨k1,d1⟩:∃k,s=L.length+k:=⟨s - L.length,by omega⟩
    obtain⟨k2,e0⟩:∃k,mid+J - s=L.length+A.length+k:=⟨mid+J - s - (L.length+A.length),by omega⟩
    have b5:k1<=A.length:=by omega
    have c4:k2<=B.length:=by omega
    obtain⟨c1,c2⟩:=uh h a5 hA hB k1 k2 b5 c4
      (by rcases h4 with h4|h4
          · rcases q6 with q6|q6
            ·right;left;omega
            ·left;omega
          · by_cases W:k2=0
            ·left;exact W
            by_cases e2:k1=A.length
            ·right;left;exact e2
            right;right;refine⟨by omega,by omega,?_⟩;rw[show L.length+A.length+(k2 - 1)=mid+J - 1 - s by omega,←d1]
            simpa using h4)
      (by rcases h3 with h3|h3
          · rcases q5 with q5|q5
            ·left;omega
            ·right;left;omega
          · by_cases W:k1=0
            ·left;exact W
            by_cases e2:k2=B.length
            ·right;left;exact e2
            right;right;refine⟨by omega,by omega,?_⟩;rw[show L.length+A.length+k2=mid+J - 1 - (s - 1) by omega,show L.length+(k1 - 1)=s - 1 by omega]
            simpa using h3)
    have eA:A.take k1++A.drop k1=A:=Q5 _ _;have eB:B.take k2++B.drop k2=B:=Q5 _ _;have a4:(A.take k1).length=k1:=by simp;omega
    have a3:(A.drop k1).length=A.length - k1:=by simp
    have a6:(B.take k2).length=k2:=by simp;omega
    have b1:(B.drop k2).length=B.length - k2:=by simp
    have b4:xs=L++A.take k1++A.drop k1++B.take k2++(B.drop k2++R):=by
      rw[a5]
      conv=>lhs;rw[←eA,←eB]
      simp only[Q6]
    have c0:(if (s:Int)<m/\m<((mid+J - s:Nat):Int) then cz xs s m ((mid+J - s:Nat):Int) p else some xs)=some (L++A.take k1++B.take k2++(A.drop k1++B.drop k2++R)):=by
      split
      · rename_i hc
        rw[JE (A:=L++A.take k1) (X:=A.drop k1) (Y:=B.take k2) (C:=B.drop k2++R) (by rw[a3];omega) (by rw[a6];omega) (by rw[kz,a4];omega) (by rw[a3];omega) (by rw[a6];omega)
          b4 (by omega)]
        simp
      · rename_i hc
        rw[b4]
        by_cases W:k1=A.length
        · have:A.drop k1=[]:=Qc (by omega)
          rw[this];simp only[Q6,Qm,Qr]
        · have e2:k2=0:=by omega
          have:B.take k2=[]:=by rw[e2];rfl
          rw[this];simp only[Q6,Qm,Qr]
    rw[c0,qk]
    have d2:∃Z,(if a<(s:Int)/\(s:Int)<(mid:Int) then a2 (L++A.take k1++B.take k2++(A.drop k1++B.drop k2++R)) a s mid p else some (L++A.take k1++B.take k2++(A.drop k1++B.drop k2++R)))=some (L++Z++(A.drop k1++B.drop k2++R))/\Stb lt (A.take k1++B.take k2) Z:=by
      split
      · rename_i hc
        exact b3 L (A.take k1) (B.take k2) _ a s mid _ (by omega) (by omega) ha (by rw[a4];omega) (by rw[a4,a6];omega) rfl (by omega) (by simp only[kz,a4,a6,a3,b1];omega) (hA.take _) (hB.take _)
      · rename_i hc
        refine⟨A.take k1++B.take k2,by simp,Stb.refl ?_⟩
        by_cases W:k1=0
        ·rw[W];simpa using hB.take k2
        · have e2:k2=0:=by omega
          rw[e2];simpa using hA.take k1
    obtain⟨Z,W,s1⟩:=d2;rw[W,qk];have a9:Z.length=k1+k2:=by rw[s1.len h,kz,a4,a6]
    have c7:∃T2,(if (mid:Int)<((mid+J - s:Nat):Int)/\((mid+J - s:Nat):Int)<b then a2 (L++Z++(A.drop k1++B.drop k2++R)) mid ((mid+J - s:Nat):Int) b p else some (L++Z++(A.drop k1++B.drop k2++R)))=some (L++Z++T2++R)/\Stb lt (A.drop k1++B.drop k2) T2:=by
      split
      · rename_i hc
        exact b3 (L++Z) (A.drop k1) (B.drop k2) R mid _ b _ (by omega) (by omega) (by rw[kz,a9];omega) (by rw[kz,a9,a3];omega) (by rw[kz,a9,a3,b1];omega) (by simp) (by omega) (by simp only[kz,a3,b1,a9];omega) (hA.drop _) (hB.drop _)
      · rename_i hc
        refine⟨A.drop k1++B.drop k2,by simp,Stb.refl ?_⟩
        by_cases W:k1=A.length
        ·rw[W];simpa using hB.drop k2
        · have e2:k2=B.length:=by omega
          rw[e2];simpa using hA.drop k1
    obtain⟨T2,e2,s2⟩:=c7;rw[e2];refine⟨Z++T2,by simp,?_⟩;have:=Stb.cat h s1 s2 (by rw[eA];exact hA) (by rw[eB];exact hB) c1 c2;rw[eA,eB] at this;exact this
  rw[hM]
  by_cases hmm:mid<J
  · rw[if_pos (by simp;omega),b0,ak (by omega)]
    have:=key (mid+J - bN) mid (by omega) (by omega) (by omega) (by omega) (Or.inr (by omega)) (Or.inr rfl) (by omega);rw[show((mid+J - bN:Nat):Int)=(mid:Int)+m - b by omega] at this;exact this
  · rw[if_neg (by simp;omega)]
    have:=key aN J (by omega) (by omega) (by omega) (by omega) (Or.inl rfl) (Or.inl rfl) (by omega);rw[←c6,←c3] at this;exact this
theorem M6 (h:Swo lt)(J:Cmp lt p):∀n,Dd lt p (cH n) n:=by
  intro n
  induction n with
  |zero=>intro L A B R a m b xs W Z _ _ _ _ hN;omega
  |succ n ih=>exact M5 h J ih
theorem EF (h:Swo lt)(hp:Cmp lt p){L A B R xs:List aa}{a m b:Int}(a0:0<A.length)(W:0<B.length)(Z:a=(L.length:Int))(hm:m=(L.length:Int)+A.length)(hb:b=(L.length:Int)+A.length+B.length)
    (J:xs=L++A++B++R) (hn:xs.length<1152921504606846976) (hA:Srt lt A) (hB:Srt lt B):
    ∃T,cO xs a m b p=some (L++T++R)/\Stb lt (A++B) T:=by
  unfold cO;exact M6 h hp _ L A B R a m b xs a0 W Z hm hb J (by rw[J];simp;omega) hn hA hB
end
set_option linter.unusedVariables false
set_option linter.unusedSimpArgs false
inductive Bls {O:Type}(lt:O->O->Bool)(k:Nat):List O->List O->Prop
 |last {l l':List O} (h:l.length<=k) (s:Stb lt l l'):Bls lt k l l'
 |more {l l' t t':List O} (h:l.length=k) (s:Stb lt l l') (ht:Bls lt k t t'):Bls lt k (l++t) (l'++t')
section
variable {O:Type}{lt:O->O->Bool}
theorem Stb.nil:Stb lt ([]:List O) []:=⟨List.Pairwise.nil,λ_=>rfl⟩
theorem Bls.len (h:Swo lt){k:Nat}{l J:List O}(W:Bls lt k l J):J.length=l.length:=by
 induction W with
 |last _ s=>exact s.len h
 |more _ s _ ih=>rw[kz,kz,s.len h,ih]
theorem Bls.done (h:Swo lt){k:Nat}(hk:0<k){l J:List O}(Z:Bls lt k l J)(W:l.length<=k):Stb lt l J:=by
 cases Z with
 |last _ s=>exact s
 | @more l J t t' h1 s ht=>
  rw[kz] at W;have:t=[]:=Q4 (by omega);subst this;have:t'=[]:=Q4 (by rw[ht.len h];rfl);subst this;simpa using s
theorem Bls.split (h:Swo lt){k:Nat}{l J:List O}(Z:Bls lt k l J)(hl:k<=l.length):∃l1 l2 l1' l2',l=l1++l2/\J=l1'++l2'/\l1.length=k/\Stb lt l1 l1'/\Bls lt k l2 l2':=by
 cases Z with
 |last W s=>exact⟨l,[],J,[],by simp,by simp,by omega,s,.last (by simp) Stb.nil⟩
 | @more l J t t' W s ht=>exact⟨l,t,J,t',rfl,rfl,W,s,ht⟩
end
section
variable {lt:aa->aa->Bool}{p:aa->aa->Option Int}
theorem M7 (h:Swo lt)(hp:Cmp lt p)(n:Int)(hn:n<1152921504606846976):∀(k:Nat) (X D:List aa) (a:Int) (xs:List aa),X.length=k->a=(D.length:Int)->n=(D.length:Int)+X.length->xs=D++X->
  ∃J,Bls lt 20 X J/\au (λs:(Int×Int×List aa)=>bH n p s.1 s.2.1 s.2.2) (a,a+20,xs)=
   au (λs:(Int×List aa)=>a7 n p s.1 s.2) (20,D++J):=by
 intro k
 induction k using Za with
 | _ k ih=>
  intro X D a xs hk ha hN a0
  by_cases hX:20<=X.length
  ·have e:X=X.take 20++X.drop 20:=(Q5 _ _).symm
   obtain⟨T,Z,W⟩:=EE h hp D (X.take 20) (X.drop 20) (a:=a) (b:=a+20) (xs:=xs) ha (by simp;omega) (by omega) (by rw[a0];simp);have a1:=W.len h;rw[Zx] at a1
   have a2:bH n p a (a+20) xs=some (.inl (a+20,a+20+20,(D++T)++X.drop 20)):=by
    simp only[bH];rw[if_pos (by simp;omega),Z,qk,ak (by omega)]
   obtain⟨J,h3,h4⟩:=ih (X.length - 20) (by omega) (X.drop 20) (D++T) (a+20) _ (by simp) (by rw[kz];omega) (by rw[kz,Zy];omega) rfl;refine⟨T++J,?_,?_⟩
   ·have:=Bls.more (by rw[Zx];omega) W h3
    rw[←e] at this;exact this
   ·rw[bK a2,h4,Q6]
  ·obtain⟨T,Z,W⟩:=EE h hp D X [] (a:=a) (b:=n) (xs:=xs) ha hN (by omega) (by rw[a0];simp)
   refine⟨T,.last (by omega) W,?_⟩;rw[oa]
   have:bH n p a (a+20) xs=(au (λs:(Int×List aa)=>a7 n p s.1 s.2) (20,D++T)).map Sum.inr:=by
    simp only[bH,iQ];rw[if_neg (by simp;omega),Z,qk,Qr]
   simp only[this];cases au (λs:(Int×List aa)=>a7 n p s.1 s.2) (20,D++T)<;>rfl
theorem M8 (h:Swo lt)(hp:Cmp lt p)(n:Int)(hn:n<288230376151711744)(J:Nat)(h0:0<J)(b7:(J:Int)<n):∀(k:Nat) (X0 X D:List aa) (a b:Int) (xs:List aa),X.length=k->a=(D.length:Int)->b=a+2*J->n=(D.length:Int)+X.length->xs=D++X->Bls lt J X0 X->
  ∃X',Bls lt (2*J) X0 X'/\au (λs:(Int×Int×List aa)=>b9 n p J s.1 s.2.1 s.2.2) (a,b,xs)=some (.inl (((2*J:Nat):Int),D++X')):=by
 intro k
 induction k using Za with
 | _ k ih=>
  intro X0 X D a b xs hk ha hb hN a4 a5;have hl:=a5.len h;have b1:xs.length<1152921504606846976:=by rw[a4,kz];omega
  by_cases hX:2*J<=X.length
  ·obtain⟨l1,l2,Z,a3,e1,a1,a6,W,a2⟩:=a5.split h (by omega)
   have b2:=a2.len h;have q1:Z.length=J:=by rw[W.len h,a6]
   have q2:X.length=Z.length+a3.length:=by rw[a1,kz]
   obtain⟨l3,l4,a9,a0,e2,b0,b4,s3,b6⟩:=a2.split h (by omega);have q3:a9.length=J:=by rw[s3.len h,b4]
   have q4:a3.length=a9.length+a0.length:=by rw[b0,kz]
   obtain⟨T,h1,h2⟩:=EF h hp (L:=D) (A:=Z) (B:=a9) (R:=a0) (a:=a) (m:=a+J) (b:=b) (xs:=xs) (by omega) (by omega) ha (by omega) (by omega) (by rw[a4,a1,b0];simp) b1 W.srt s3.srt;have b5:=h2.len h;rw[kz] at b5
   have b3:b9 n p J a b xs=some (.inl (b,b+2*J,(D++T)++a0)):=by
    simp only[b9];rw[if_pos (by simp;omega),ak (n:=a+J) (by omega),h1,qk,ak (n:=2*(J:Int)) (by omega),ak (by omega)]
   obtain⟨X',h3,h4⟩:=ih a0.length (by omega) l4 a0 (D++T) b (b+2*J) _ rfl (by rw[kz];omega) rfl (by rw[kz];omega) rfl b6;refine⟨T++X',?_,?_⟩
   ·rw[e1,e2,←Q6]
    exact Bls.more (by rw[kz];omega) (h2.trans λc=>by simp[W.flt,s3.flt]) h3
   ·rw[bK b3,h4,Q6]
  ·by_cases hX2:J<X.length
   ·obtain⟨l1,l2,Z,a3,e1,a1,a6,W,a2⟩:=a5.split h (by omega)
    have b2:=a2.len h;have q1:Z.length=J:=by rw[W.len h,a6]
    have q2:X.length=Z.length+a3.length:=by rw[a1,kz]
    have s2:=a2.done h h0 (by omega);obtain⟨T,h1,h2⟩:=EF h hp (L:=D) (A:=Z) (B:=a3) (R:=[]) (a:=a) (m:=a+J) (b:=n) (xs:=xs) (by omega) (by omega) ha (by omega) (by omega) (by rw[a4,a1];simp) b1 W.srt s2.srt;refine⟨T,.last (by omega) ?_,?_⟩
    ·rw[e1]
     exact h2.trans λc=>by simp[W.flt,s2.flt]
    ·apply aT
     simp only[b9,fu,dL];rw[if_neg (by simp;omega),ak (n:=a+J) (by omega),if_pos (by simp;omega),h1,qk,ak (by omega)];simp[X8]
   ·refine⟨X,.last (by omega) (a5.done h h0 (by omega)),?_⟩
    apply aT;simp only[b9,fu,dL];rw[if_neg (by simp;omega),ak (n:=a+J) (by omega),if_neg (by simp;omega),ak (by omega),a4];simp[X8]
theorem M9 (h:Swo lt)(hp:Cmp lt p)(n:Int)(hn:n<288230376151711744)(W:List aa)(a2:n=(W.length:Int)):∀(k J:Nat) (X:List aa),(W.length - J)=k->0<J->Bls lt J W X->
  ∃Z,au (λs:(Int×List aa)=>a7 n p s.1 s.2) ((J:Int),X)=some Z/\Stb lt W Z:=by
 intro k
 induction k using Za with
 | _ k ih=>
  intro J X hk h0 a0;have hl:=a0.len h
  by_cases hb:(J:Int)<n
  ·obtain⟨Z,h1,h2⟩:=M8 h hp n hn J h0 hb X.length W X [] 0 (2*J) X rfl rfl (by simp) (by simp;omega) (by simp) a0
   have a1:a7 n p J X=some (.inl (((2*J:Nat):Int),Z)):=by
    simp only[a7];rw[if_pos (by simp;omega),ak (by omega),h2,Qm]
   obtain⟨X2,h3,h4⟩:=ih (W.length - 2*J) (by omega) (2*J) Z rfl (by omega) h1;exact⟨X2,by rw[bK a1];exact h3,h4⟩
  ·refine⟨X,?_,a0.done h h0 (by omega)⟩
   apply aT;simp only[a7];rw[if_neg (by simp;omega)]
   rfl
theorem EG (h:Swo lt)(Z:Cmp lt p)(X:List aa)(hn:X.length<288230376151711744):∃X',cV X p=some X'/\Stb lt X X':=by
 obtain⟨X1,h1,J⟩:=M7 h Z (X.length:Int) (by omega) X.length X [] 0 X rfl rfl (by simp) rfl;obtain⟨X2,W,h4⟩:=M9 h Z (X.length:Int) (by omega) X rfl _ 20 X1 rfl (by omega) h1;refine⟨X2,?_,h4⟩;unfold cV gv;have J:au (λs:(Int×Int×List aa)=>bH (X.length:Int) p s.1 s.2.1 s.2.2) (0,20,X)=_:=J;rw[J,Qm];have W:au (λs:(Int×List aa)=>a7 (X.length:Int) p s.1 s.2) (20,X1)=_:=W;rw[W]
 rfl
end
set_option linter.unusedVariables false
set_option linter.unusedSimpArgs false
theorem jq {σ β:Type}{f:σ->Option (σ⊕β)}{s:σ}{b:Option β}(S:Nat->σ)(n:Nat)(W:s=S 0)(step:∀i,i<n->f (S i)=some (.inl (S (i+1))))(J:f (S n)=b.map Sum.inr):au f s=b:=by
 have key:∀i,i<=n->au f s=au f (S i):=by
  intro i
  induction i with
  |zero=>intro _;rw[W]
  |succ i ih=>intro h;rw[ih (by omega),bK (step i (by omega))]
 rw[key n (Qg n),oa,J];cases b<;>rfl
section
variable {O β:Type}
theorem Swo.comap {lt:O->O->Bool}(h:Swo lt)(f:β->O):Swo λa b=>lt (f a) (f b):=
 ⟨λa=>h.irr _,λa b c=>h.tr _ _ _,λa b c=>h.inc _ _ _⟩
def nV (h J:O->O->Bool)(a b:O):Bool:=h a b||(!h b a&&J a b)
theorem Swo.lex {Z l2:O->O->Bool}(W:Swo Z)(h2:Swo l2):Swo (nV Z l2):=by
 refine⟨λa=>by simp[nV,W.irr,h2.irr],λa b c h J=>?_,λa b c h J=>?_⟩
 ·simp only[nV,Bool.or_eq_true,Qn,Qo] at*
  rcases h with h|⟨a1,h⟩<;>rcases J with J|⟨a0,J⟩
  ·exact Or.inl (W.tr _ _ _ h J)
  ·left
   cases hac:Z a c with
   |true=>rfl
   |false=>rw[W.inc a c b hac a0] at h;cases h
  ·left
   cases hac:Z a c with
   |true=>rfl
   |false=>rw[W.inc b a c a1 hac] at J;cases J
  ·exact Or.inr ⟨W.inc c b a a0 a1,h2.tr _ _ _ h J⟩
 ·simp only[nV,Z5,Zf,Bool.not_eq_false'] at*
  refine⟨W.inc _ _ _ h.1 J.1,?_⟩;rcases h.2 with h3|h3
  ·left
   cases hca:Z c a with
   |true=>rfl
   |false=>rw[W.inc b c a J.1 hca] at h3;cases h3
  ·rcases J.2 with h4|h4
   ·left
    cases hca:Z c a with
    |true=>rfl
    |false=>rw[W.inc c a b hca h.1] at h4;cases h4
   ·right;exact h2.inc _ _ _ h3 h4
def lexL (lt:O->O->Bool):List O->List O->Bool
 |_,[]=>false
 |[],_::_=>true
 |a::x,b::y=>lt a b||(!lt b a&&lexL lt x y)
theorem Swo.lexL {lt:O->O->Bool}(h:Swo lt):Swo (lexL lt):=by
 refine⟨?_,?_,?_⟩
 ·intro a
  induction a with
  |nil=>rfl
  |cons a x ih=>simp[Hay.lexL,h.irr,ih]
 ·intro a
  induction a with
  |nil=>
   intro b c W J;cases c with
   |nil=>cases b<;>simp[Hay.lexL] at J
   |cons c z=>rfl
  | cons a x ih=>
   intro b c W J;cases b with
   |nil=>simp[Hay.lexL] at W
   | cons b y=>
    cases c with
    |nil=>simp[Hay.lexL] at J
    | cons c z=>
     simp only[Hay.lexL,Bool.or_eq_true,Qn,Qo] at*;rcases W with W|⟨a0,W⟩<;>rcases J with J|⟨Z,J⟩
     ·exact Or.inl (h.tr _ _ _ W J)
     ·left
      cases hac:lt a c with
      |true=>rfl
      |false=>rw[h.inc a c b hac Z] at W;cases W
     ·left
      cases hac:lt a c with
      |true=>rfl
      |false=>rw[h.inc b a c a0 hac] at J;cases J
     ·exact Or.inr ⟨h.inc c b a Z a0,ih _ _ W J⟩
 ·intro a
  induction a with
  |nil=>
   intro b c W J;cases b with
   |nil=>exact J
   |cons b y=>simp[Hay.lexL] at W
  | cons a x ih=>
   intro b c W J;cases c with
   |nil=>rfl
   | cons c z=>
    cases b with
    |nil=>simp[Hay.lexL] at J
    | cons b y=>
     simp only[Hay.lexL,Z5,Zf,Bool.not_eq_false'] at*;refine⟨h.inc _ _ _ W.1 J.1,?_⟩;rcases W.2 with h3|h3
     ·left
      cases hca:lt c a with
      |true=>rfl
      |false=>rw[h.inc b c a J.1 hca] at h3;cases h3
     ·rcases J.2 with h4|h4
      ·left
       cases hca:lt c a with
       |true=>rfl
       |false=>rw[h.inc c a b hca W.1] at h4;cases h4
      ·right;exact ih _ _ h3 h4
theorem Pu:Swo λa b:Int=>decide (a<b):=
 ⟨λa=>by simp,λa b c h J=>by simp at*;omega,λa b c h J=>by simp at*;omega⟩
theorem uN:∀s u:List Int,ltB s u=lexL (λa b:Int=>decide (a<b)) s u
 |s,[]=>by cases s<;>rfl
 |[],_::_=>rfl
 | a::x,b::y=>by
  simp only[ltB,lexL,uN x y]
  by_cases h1:a<b
  ·simp[h1]
  ·by_cases h2:b<a
   ·have:a≠b:=by omega
    simp[h1,h2,this]
   ·have:a=b:=by omega
    simp[this]
theorem Pv:Swo ltB:=by
 have h:=Pu.lexL;exact⟨λa=>by rw[uN];exact h.irr a,λa b c=>by simp only[uN];exact h.tr a b c,λa b c=>by simp only[uN];exact h.inc a b c⟩
def sgn (lt:O->O->Bool)(a b:O):Int:=if lt a b then -1 else if lt b a then 1 else 0
theorem AL {lt:O->O->Bool}{a b:O}:decide (sgn lt a b<0)=lt a b:=by
 unfold sgn;cases lt a b
 ·cases lt b a<;>simp
 ·simp
theorem sR {h J:O->O->Bool}(W:Swo h){a b:O}:sgn (nV h J) a b=if sgn h a b≠0 then sgn h a b else sgn J a b:=by
 unfold sgn nV;cases e1:h a b
 ·cases e2:h b a
  ·simp
  ·simp
 ·simp
theorem AM {lt:O->O->Bool}(h:Swo lt){a b:O}{x y:List O}:sgn (lexL lt) (a::x) (b::y)=if sgn lt a b≠0 then sgn lt a b else sgn (lexL lt) x y:=by
 by_cases e1:lt a b=true
 ·simp[sgn,lexL,e1]
 ·by_cases e2:lt b a=true
  ·simp[sgn,lexL,e1,e2]
  ·simp[sgn,lexL,e1,e2]
end
def vk2 (v:Ap):Int:=if v.fKind=1 then (if v.fBool then 1 else 0) else if v.fKind=2 then v.fInt else 0
def vk3 (v:Ap):List Int:=if v.fKind=3 then v.fText else []
def vlt:Ap->Ap->Bool:=
 nV (λa b=>decide (a.fKind<b.fKind)) (nV (λa b=>decide (vk2 a<vk2 b)) (λa b=>ltB (vk3 a) (vk3 b)))
theorem B7:Swo vlt:=(Pu.comap λv:Ap=>v.fKind).lex ((Pu.comap vk2).lex (Pv.comap vk3))
theorem AN (a b:Ap):rN a b=some (vlt a b):=by
 unfold rN vlt nV
 by_cases hk:a.fKind=b.fKind
 ·rw [if_neg (by simp[hk])]
  by_cases h1:b.fKind=1
  ·simp only[lL,vk2,vk3,hk,h1]
   cases ha:a.fBool<;>cases hb:b.fBool<;>simp[ltB]
  ·by_cases h2:b.fKind=2
   ·simp only[lL,vk2,vk3,hk,h2]
    simp[ltB]
   ·by_cases h3:b.fKind=3
    ·simp only[lL,pw,vk2,vk3,hk,h3]
     simp
    ·simp only[lL,pw,vk2,vk3,hk]
     simp[h1,h2,h3,ltB]
 ·rw[if_pos (by simp[hk])]
  by_cases hl:a.fKind<b.fKind
  ·simp[hl]
  ·have:b.fKind<a.fKind:=by omega
   simp[hl,this]
theorem yI (a b:Ap):px a b=some (sgn vlt a b):=by
 unfold px sgn;rw[AN,AN,qk,qk];cases vlt a b<;>cases vlt b a<;>rfl
theorem Hm (a b:Int):gW a b=some (sgn (λa b:Int=>decide (a<b)) a b):=by
 simp only[gW,kE,sgn,qk,bne_self_eq_false]
 by_cases h1:a<b<;>by_cases h2:b<a<;>simp[h1,h2]
theorem In (a b:Int):hZ a b=some (sgn (λa b:Int=>decide (a<b)) a b):=by
 simp only[hZ,jf,sgn,qk,bne_self_eq_false]
 by_cases h1:a<b<;>by_cases h2:b<a<;>simp[h1,h2]
theorem Na (a b:Int):ji a b=some (sgn (λa b:Int=>decide (a<b)) a b):=by
 simp only[ji,kq,sgn,qk,bne_self_eq_false]
 by_cases h1:a<b<;>by_cases h2:b<a<;>simp[h1,h2]
theorem Nb (a b:Int):jj a b=some (sgn (λa b:Int=>decide (a<b)) a b):=by
 simp only[jj,kr,sgn,qk,bne_self_eq_false]
 by_cases h1:a<b<;>by_cases h2:b<a<;>simp[h1,h2]
theorem yJ (a b:Ap):bZ a b=some (sgn vlt a b):=by
 unfold bZ vlt;rw[sR (Pu.comap λv:Ap=>v.fKind),sR (Pu.comap vk2)]
 by_cases hk:a.fKind=b.fKind
 ·rw [if_neg (by simp[hk])]
  have e0:sgn (λa b:Ap=>decide (a.fKind<b.fKind)) a b=0:=by simp[sgn,hk]
  rw[e0];simp only[ne_eq,not_true_eq_false,if_false]
  by_cases h1:b.fKind=1
  ·simp only[eV,vk2,vk3,hk,h1,sgn]
   cases ha:a.fBool<;>cases hb:b.fBool<;>simp[ltB]
  ·by_cases h2:b.fKind=2
   ·have ka:a.fKind=2:=hk.trans h2
    have Z:vk2 a=a.fInt:=by simp[vk2,ka]
    have J:vk2 b=b.fInt:=by simp[vk2,h2]
    have W:vk3 a=[]:=by simp[vk3,ka]
    have h:vk3 b=[]:=by simp[vk3,h2]
    rw[if_neg (by simp[ka]),eV,if_neg (by simp),if_pos (by simp[ka]),In];simp only[sgn,Z,J,W,h,ltB]
    by_cases q1:a.fInt<b.fInt<;>by_cases q2:b.fInt<a.fInt<;>simp[q1,q2]
   ·by_cases h3:b.fKind=3
    ·have ka:a.fKind=3:=hk.trans h3
     have Z:vk2 a=0:=by simp[vk2,ka]
     have J:vk2 b=0:=by simp[vk2,h3]
     have W:vk3 a=a.fText:=by simp[vk3,ka]
     have h:vk3 b=b.fText:=by simp[vk3,h3]
     rw[if_neg (by simp[ka]),eV,if_neg (by simp),if_neg (by simp[ka]),if_pos (by simp[ka]),kX,dY,qk,qk,rf];simp only[sgn,Z,J,W,h];simp
    ·have ka:a.fKind≠1/\a.fKind≠2/\a.fKind≠3:=by rw[hk];exact⟨h1,h2,h3⟩
     have Z:vk2 a=0:=by simp[vk2,ka]
     have J:vk2 b=0:=by simp[vk2,h1,h2]
     have W:vk3 a=[]:=by simp[vk3,ka]
     have h:vk3 b=[]:=by simp[vk3,h3]
     rw[if_neg (by simp[ka]),eV,if_neg (by simp),if_neg (by simp[ka]),if_neg (by simp[ka])];simp only[sgn,Z,J,W,h,ltB];simp
 ·rw[if_pos (by simp[hk]),Hm,qk]
  have:sgn (λa b:Ap=>decide (a.fKind<b.fKind)) a b≠0:=by
   unfold sgn
   by_cases hl:a.fKind<b.fKind
   ·simp[hl]
   ·have:b.fKind<a.fKind:=by omega
    simp[hl,this]
  rw[if_pos this]
  rfl
def rlt:List Ap->List Ap->Bool:=lexL vlt
theorem Pw:Swo rlt:=B7.lexL
theorem sS {s t:List Ap}(hs:s.length<4611686018427387904)(ht:t.length<4611686018427387904):lQ s t=some (sgn rlt s t):=by
 unfold lQ;refine nz (λi=>∃k:Nat,i=(k:Int)/\k<=s.length/\k<=t.length/\sgn rlt (s.drop k) (t.drop k)=sgn rlt s t) (λi=>s.length - i.toNat) ?_ ⟨0,rfl,by simp,by simp,by simp⟩;rintro i ⟨k,rfl,h1,h2,h⟩;simp only[tg]
 by_cases hk:k<s.length/\k<t.length
 ·obtain⟨W,J⟩:=hk
  rw[if_pos (by split<;>simp<;>omega),aH W,qk,aH J,qk,yJ,qk];rw[Q1 W,Q1 J,rlt,AM B7] at h
  by_cases hc:sgn vlt s[k] t[k]=0
  ·left
   rw[if_neg (by simp[hc])];refine⟨_,rfl,⟨k+1,by rw[ak (by omega)];rfl,by omega,by omega,?_⟩,?_⟩
   ·rw[if_neg (by simp[hc])] at h;exact h
   ·rw[ak (by omega)];omega
  ·right
   rw[if_pos (by simp[hc])];rw[if_pos hc] at h;rw[h];rfl
 ·right
  rw[if_neg (by split<;>simp<;>omega),tf,Hm,qk,←h]
  have key:∀(x y:List Ap),(x=[]\/y=[])->sgn rlt x y=sgn (λa b:Int=>decide (a<b)) (x.length:Int) (y.length:Int):=by
   intro x y a0;rcases a0 with rfl|rfl
   ·cases y<;>simp[sgn,rlt,lexL]<;>omega
   ·cases x<;>simp[sgn,rlt,lexL]<;>omega
  rw[key]
  ·have Z:((s.length:Int)<t.length)↔(((s.length - k:Nat):Int)<((t.length - k:Nat):Int)):=by omega
   have e2:((t.length:Int)<s.length)↔(((t.length - k:Nat):Int)<((s.length - k:Nat):Int)):=by omega
   simp only[sgn,Zy,decide_eq_true_eq,Z,e2,Xa]
  ·by_cases q:k<s.length
   ·right;exact Qc (by omega)
   ·left;exact Qc (by omega)
theorem De {s t:List Ap}(J:s.length<4611686018427387904)(ht:t.length<4611686018427387904):uH s t=some (sgn rlt s t):=by
 unfold uH;refine nz (λi=>∃k:Nat,i=(k:Int)/\k<=s.length/\k<=t.length/\sgn rlt (s.drop k) (t.drop k)=sgn rlt s t) (λi=>s.length - i.toNat) ?_ ⟨0,rfl,by simp,by simp,by simp⟩;rintro i ⟨k,rfl,Z,W,h⟩;simp only[wu]
 by_cases hk1:k<s.length
 ·rw[if_pos (by simp;omega)]
  by_cases hk2:k<t.length
  ·rw[if_neg (by simp;omega),aH hk1,qk,aH hk2,qk,yI,qk]
   rw[Q1 hk1,Q1 hk2,rlt,AM B7] at h
   by_cases hc:sgn vlt s[k] t[k]=0
   ·left
    rw[if_neg (by simp[hc])];refine⟨_,rfl,⟨k+1,by rw[ak (by omega)];rfl,by omega,by omega,?_⟩,?_⟩
    ·rw[if_neg (by simp[hc])] at h;exact h
    ·rw[ak (by omega)];omega
   ·right
    rw[if_pos (by simp[hc])];rw[if_pos hc] at h;rw[h];rfl
  ·right
   have:k=t.length:=by omega
   rw[if_pos (by simp;omega),←h,this,Zi,Q1 (by omega)];simp[sgn,rlt,lexL]
 ·right
  rw[if_neg (by simp;omega),←h,Qc (by omega:s.length<=k),wt]
  by_cases hk2:k<t.length
  ·rw[if_pos (by simp;omega),Q1 hk2]
   simp[sgn,rlt,lexL]
  ·rw[if_neg (by simp;omega),Qc (by omega:t.length<=k)]
   simp[sgn,rlt,lexL]
def da (cs:List Int)(row:List Ap):List Ap:=cs.map λc=>if 0<=c/\c<(row.length:Int) then row.getD c.toNat Ap.zero else Ap.zero
theorem nB (cs:List Int)(row:List Ap):(da cs row).length=cs.length:=by simp[da]
theorem EH {O:Type}{xs:List O}{i:Int}(d:O)(h:0<=i/\i<(xs.length:Int)):idx xs i=some (xs.getD i.toNat d):=by
 obtain⟨n,rfl⟩:=Q8 h.1;have J:n<xs.length:=by omega
 rw[aH J];simp[J]
theorem AO {f:List Ap×Int->Option ((List Ap×Int)⊕List Ap)}{cs:List Int}{row:List Ap}{g:Int->Ap}
  (step:∀(i:Nat) (l:List Ap) (h:i<cs.length),l.length=i->f (l,(i:Int))=some (.inl (l++[g cs[i]],((i+1:Nat):Int)))) (J:∀l,f (l,(cs.length:Int))=some (.inr l)):au f ([],0)=some (cs.map g):=by
 refine jq (λi=>((cs.take i).map g,(i:Int))) cs.length (by simp) (λi hi=>?_) ?_
 ·show f ((cs.take i).map g,(i:Int))=_
  have e:(cs.take (i+1)).map g=(cs.take i).map g++[g cs[i]]:=by rw[Zt,Q0 hi,Qh];rfl
  rw[step i _ hi (by simp;omega),e]
 ·show f ((cs.take cs.length).map g,(cs.length:Int))=_
  rw[J,Qb];rfl
theorem wJ {cs:List Int}{row:List Ap}(W:cs.length<=3518437208883):jD cs row=some (da cs row):=by
 unfold jD da;refine AO (row:=row) (λi l hi J=>?_) (λl=>?_)
 ·simp only[oB]
  rw[if_pos (by simpa using hi),aH hi,qk,j7,qk]
  have h:∀x,lO l (i:Int) x=some (.inl (l++[x],((i+1:Nat):Int))):=by
   intro x;unfold lO;rw[aS (by simp;omega),qk,ak (by omega)]
   rfl
  by_cases h0:0<=cs[i]
  ·rw[if_pos (by simp[h0])]
   unfold lP
   by_cases h1:cs[i]<(row.length:Int)
   ·rw[if_pos (by simp[h1]),EH Ap.zero ⟨h0,h1⟩,qk,h,if_pos ⟨h0,h1⟩]
   ·rw[if_neg (by simp;omega),h,if_neg (by omega)];rfl
  ·rw[if_neg (by simp;omega)]
   unfold lP;rw[if_neg (by simp),h,if_neg (by omega)];rfl
 ·simp only[oB]
  rw[if_neg (by simp)];rfl
theorem yt {cs:List Int}{row:List Ap}(W:cs.length<=3518437208883):tZ cs row=some (da cs row):=by
 unfold tZ da;refine AO (row:=row) (λi l hi J=>?_) (λl=>?_)
 ·simp only[tY]
  rw[if_pos (by simpa using hi),aH hi,qk]
  have h:∀x,qK l (i:Int) x=some (.inl (l++[x],((i+1:Nat):Int))):=by
   intro x;unfold qK;rw[aS (by simp;omega),qk,ak (by omega)]
   rfl
  by_cases h0:0<=cs[i]
  ·rw[if_pos (by simp[h0]),qk]
   unfold qL
   by_cases h1:cs[i]<(row.length:Int)
   ·rw[if_pos (by simp[h1]),aH hi,qk,EH Ap.zero ⟨h0,h1⟩,qk,h,if_pos ⟨h0,h1⟩]
   ·rw[if_neg (by simp;omega),h,if_neg (by omega)];rfl
  ·rw[if_neg (by simp;omega)]
   unfold qL;rw[if_neg (by simp),h,if_neg (by omega)];rfl
 ·simp only[tY]
  rw[if_neg (by simp)];rfl
def ilt:aK->aK->Bool:=nV (λa b=>decide (a.fEpoch<b.fEpoch)) (λa b=>decide (a.fNumber<b.fNumber))
theorem Px:Swo ilt:=(Pu.comap λv:aK=>v.fEpoch).lex (Pu.comap λv:aK=>v.fNumber)
def qlt (cs:List Int):aa->aa->Bool:=nV (λa b=>rlt (da cs a.fRow) (da cs b.fRow)) (λa b=>ilt a.fId b.fId)
theorem fg (cs:List Int):Swo (qlt cs):=(Pw.comap λv:aa=>da cs v.fRow).lex (Px.comap λv:aa=>v.fId)
theorem yu (a b:Int):lR [a,b]=some (if a≠0 then a else b):=by
 unfold lR;have h:idx [a,b] 0=some a:=rfl;have J:idx [a,b] 1=some b:=rfl
 by_cases ha:a=0
 ·have Z:ge [a,b] 0=some (.inl 1):=by
   simp only[ge];rw[if_pos (by simp),h,qk,if_neg (by simp[ha])];rfl
  rw[bK Z]
  by_cases hb:b=0
  ·have W:ge [a,b] 1=some (.inl 2):=by
    simp only[ge];rw[if_pos (by simp),J,qk,if_neg (by simp[hb])];rfl
   rw[bK W];apply aT;simp only[ge];rw[if_neg (by simp),ha,hb];rfl
  ·apply aT
   simp only[ge];rw[if_pos (by simp),J,qk,if_pos (by simp[hb]),if_neg (by simp[ha])];rfl
 ·apply aT
  simp only[ge];rw[if_pos (by simp),h,qk,if_pos (by simp[ha]),if_pos ha];rfl
theorem GM (a b:aK):kG a b=some (sgn ilt a b):=by
 unfold kG ilt;rw[Na,qk,Nb,qk,yu,qk,sR (Pu.comap λv:aK=>v.fEpoch)]
 rfl
theorem Df {cs:List Int}(h:cs.length<=3518437208883)(a b:aa):d7 a b cs=some (sgn (qlt cs) a b):=by
 unfold d7 qlt;rw[wJ h,qk,wJ h,qk,sS (by rw[nB];omega) (by rw[nB];omega),qk,GM,qk,yu,qk,sR (Pw.comap λv:aa=>da cs v.fRow)]
 rfl
theorem Dg {cs:List Int}(h:cs.length<=3518437208883):Cmp (qlt cs) (λa b=>d7 a b cs):=λa b=>⟨_,Df h a b,AL⟩
theorem AP (a b:aK):qN a b=some (ilt a b):=by
 unfold qN ilt nV
 by_cases h:a.fEpoch=b.fEpoch
 ·rw[if_neg (by simp[h])];simp[h]
 ·rw[if_pos (by simp[h])]
  by_cases hl:a.fEpoch<b.fEpoch
  ·simp[hl]
  ·have:b.fEpoch<a.fEpoch:=by omega
   simp[hl,this]
theorem yv {cs:List Int}(h:cs.length<=3518437208883)(a b:aa):qO cs a b=some (qlt cs a b):=by
 unfold qO qlt nV;rw[yt h,qk,yt h,qk,De (by rw[nB];omega) (by rw[nB];omega),qk,AP];unfold sgn;cases e1:rlt (da cs a.fRow) (da cs b.fRow)
 ·cases e2:rlt (da cs b.fRow) (da cs a.fRow)
  ·simp[e1,e2]
  ·simp[e1,e2]
 ·simp[e1]
set_option linter.unusedVariables false
set_option linter.unusedSimpArgs false
def Rok (l:List aa):Prop:= ∀v∈l,v.fRow.length<=1048576
theorem own_eq {v:aa}(h:v.fRow.length<=1048576):gI v=some v:=by
  unfold gI dv;rw[aS (by simp;omega)];simp
theorem jr {O:Type}{xs:List O}{i:Nat}(h:i<xs.length):xs.take (i+1)=xs.take i++[xs[i]]:=by
  rw[Zt,Q0 h];rfl
theorem yw {cs:List Int}{xs:List aa}(Z:cs.length<=1048576)(hx:xs.length<=1048576)(h:Rok xs):∃T,iv cs xs=some T/\Stb (qlt cs) xs T:=by
  obtain⟨T,W,J⟩:=EG (fg cs) (Dg (cs:=cs) (by omega)) xs (by omega);refine⟨T,?_,J⟩;unfold iv;refine(jq (λi=>((i:Int),xs.take i)) xs.length (by simp) (λi hi=>?_) (b:=ia cs xs) ?_).trans ?_
  · simp only[ib]
    rw[if_pos (by simpa using hi),aH hi,qk,own_eq (h _ (Q2 hi)),qk,aS (by simp;omega),qk,jr hi,ak (by omega)]
    rfl
  · simp only[ib]
    rw[if_neg (by simp),Qb]
  · unfold ia
    rw[W];rfl
theorem AQ {cs:List Int}{xs:List aa}(hc:cs.length<=1048576)(hx:xs.length<=1048576):∃T,ny cs xs=some T/\Stb (qlt cs) xs T:=by
  unfold ny;refine fe (λs=>∃k:Nat,s.2=(k:Int)/\k<=xs.length/\Stb (qlt cs) (xs.take k) s.1) (λs=>xs.length - s.2.toNat) (λT=>Stb (qlt cs) xs T) ?_ ⟨0,rfl,by simp,Stb.nil⟩;rintro ⟨out,i⟩ ⟨k,rfl,hk,Z⟩;simp only at hk Z;have a5:=Z.len (fg cs);rw[Zx] at a5;simp only[t6]
  by_cases hkx:k<xs.length
  · left
    rw[if_pos (by simpa using hkx)]
    have a6:∀(n:Nat) (S1 S2:List aa),S1.length=n->out=S1++S2->(∀s∈S2,qlt cs xs[k] s=true)->
        ∃T,au (λs:Int=>jU cs xs out (k:Int) s) (n:Int)=some (.inl (T,((k+1:Nat):Int)))/\Stb (qlt cs) (out++[xs[k]]) T:=by
      intro n
      induction n with
      | zero=>
        intro S1 S2 hn h W;obtain rfl:=Q4 hn;have J:=Stb.ins (fg cs) (S1:=[]) (S2:=S2) (v:=xs[k]) (by rw[←h];exact Z.srt) W (by simp);rw[←h] at J;refine⟨_,?_,J⟩;apply aT;simp only[jU];rw[if_neg (by simp),nO];have e1:sub out 0 ((0:Nat):Int)=some ((out.take 0).drop 0):=dV (lo:=0) (hi:=0) (by omega) (by omega);have e2:sub out ((0:Nat):Int) (out.length:Int)=some ((out.take out.length).drop 0):=dV (lo:=0) (hi:=out.length) (by omega) (by omega);rw[e1,qk,aS (by simp),qk,aH hkx,qk,aS (by simp),qk,e2,qk,aS (by simp;omega),qk,qa,ak (by omega)];simp[h]
      | succ n ih=>
        intro S1 S2 hn h W;obtain⟨a0,s,rfl,a3⟩:=xG hn;have b0:out.length=n+1+S2.length:=by rw[h];simp;omega
        have a9:out[n]? =some s:=by rw[h,←a3];simp
        obtain⟨a4,a2⟩:=Qs.1 a9;cases hl:qlt cs xs[k] s with
        | true=>
          have J:jU cs xs out (k:Int) ((n+1:Nat):Int)=some (.inl (n:Int)):=by
            simp only[jU];rw[if_pos (by simp),aH hkx,qk,ak (by omega),show((n+1:Nat):Int) - 1=(n:Int) by omega,aH a4,qk,a2,yv (by omega),qk,hl]
            rfl
          rw[bK J]
          exact ih a0 (s::S2) a3 (by rw[h];simp) (by
            intro x hx;rcases Z8.1 hx with rfl|hx
            ·exact hl
            ·exact W x hx)
        | false=>
          have a1:Srt (qlt cs) ((a0++[s])++S2):=by rw[←h];exact Z.srt
          have J:=Stb.ins (fg cs) (v:=xs[k]) a1 W (zI (fg cs) (List.Pairwise.sublist (List.sublist_append_left _ _) a1) hl);rw[←h] at J;refine⟨_,?_,J⟩;apply aT;simp only[jU];rw[if_pos (by simp),aH hkx,qk,ak (by omega),show((n+1:Nat):Int) - 1=(n:Int) by omega,aH a4,qk,a2,yv (by omega),qk,hl];rw[if_pos (by rfl),nO];have e1:sub out 0 ((n+1:Nat):Int)=some ((out.take (n+1)).drop 0):=dV (lo:=0) (hi:=n+1) (by omega) (by omega);have e2:sub out ((n+1:Nat):Int) (out.length:Int)=some ((out.take out.length).drop (n+1)):=dV (lo:=n+1) (hi:=out.length) (by omega) (by omega)
          rw[e1,qk,aS (by simp;omega),qk,aH hkx,qk,aS (by simp;omega),qk,e2,qk,aS (by simp;omega),qk,qa,ak (by omega)];have t1:out.take (n+1)=a0++[s]:=by rw[h];exact Z3 hn
          have t2:out.drop (n+1)=S2:=by rw[h];exact Z4 hn
          rw[Qb,t2,Qq,t1];simp
    obtain⟨T,h1,W⟩:=a6 out.length out [] rfl (by simp) (by simp);refine⟨(T,((k+1:Nat):Int)),h1,⟨k+1,rfl,hkx,?_⟩,by simp;omega⟩;rw[jr hkx];exact Z.app W
  · right
    rw[if_neg (by simp;omega)];refine⟨out,rfl,?_⟩;rwa[Q3 (by omega)] at Z
theorem Rok.flat {W:List (List aa)}(h:∀l∈W,Rok l):Rok W.flatten:=by
  intro v J;obtain⟨l,Z,J⟩:=List.mem_flatten.1 J;exact h l Z v J
theorem AR {r:List Ap}(h:r.length<=1048576):pB r r=some true:=by
  unfold pB;rw[if_neg (by simp)];refine jq (λi=>(i:Int)) r.length rfl (λi hi=>?_) ?_
  · simp only[ph]
    rw[if_pos (by simpa using hi),aH hi,qk,qk,if_neg (by simp),ak (by omega)];rfl
  · simp only[ph]
    rw[if_neg (by simp)];rfl
theorem uQ {xs:List aa}(h:xs.length<=1048576)(J:Rok xs):dt xs xs=some true:=by
  unfold dt;rw[if_neg (by simp)];refine jq (λi=>(i:Int)) xs.length rfl (λi hi=>?_) ?_
  · have W:lS xs[i] xs[i]=some true:=by
      unfold lS;rw[AR (J _ (Q2 hi)),qk,if_pos rfl,if_pos (by simp)];simp[jG]
    simp only[ll];rw[if_pos (by simpa using hi),aH hi,qk,qk,W,qk,if_neg (by simp),ak (by omega)];rfl
  · simp only[ll]
    rw[if_neg (by simp)];rfl
set_option linter.unusedVariables false
set_option linter.unusedSimpArgs false
theorem AS {σ β:Type}{f:σ->Option (σ⊕β)}{s:σ}(S:Nat->σ)(n:Nat)(h:Nat->Bool)(J:β)(K:Option β)(Z:s=S 0)(step:∀i,i<n->h i=true->f (S i)=some (.inl (S (i+1))))(out:∀i,i<n->h i=false->f (S i)=some (.inr J))
  (W:f (S n)=K.map Sum.inr):au f s=if (Qe n).all h then K else some J:=by
 have key:∀k i:Nat,i+k=n->au f (S i)=if (List.range' i k).all h then K else some J:=by
  intro k
  induction k with
  |zero=>
   intro i hi;obtain rfl:i=n:=by omega
   rw[oa,W];cases K<;>rfl
  |succ k ih=>
   intro i hi;rw[List.range'_succ,List.all_cons];cases hg:h i with
   |true=>rw[bK (step i (by omega) hg),ih (i+1) (by omega),Bool.true_and]
   |false=>rw[aT (out i (by omega) hg)];simp
 rw[Z,key n 0 (by omega),List.range_eq_range']
structure lZ (v:aa):Prop where
 ep:0<=v.fId.fEpoch/\v.fId.fEpoch<18446744073709551616
 nu:0<=v.fId.fNumber/\v.fId.fNumber<4294967296
 de:0<=v.fDeleted/\v.fDeleted<18446744073709551616
 row:∀x∈v.fRow,VOK x
 len:v.fRow.length<=1048576
theorem EK {xs:List Int}{n:Int}(h:xs.length<=1048576):∃i,kt xs n=some i/\decide (0<=i)=xs.contains n:=by
 unfold kt
 have key:∀k i:Nat,i+k=xs.length->∃r,au (λs:Int=>gm xs n s) (i:Int)=some r/\decide (0<=r)=(xs.drop i).contains n:=by
  intro k
  induction k with
  |zero=>
   intro i hi;refine⟨-1,?_,by rw[Qc (by omega)];rfl⟩;apply aT;simp only[gm];rw[if_neg (by simp;omega)];rfl
  | succ k ih=>
   intro i hi;have J:i<xs.length:=by omega
   rw[Q1 J]
   by_cases he:n=xs[i]
   ·refine⟨(i:Int),?_,by rw[List.contains_cons,he,beq_self_eq_true,Bool.true_or];simp⟩
    apply aT;simp only[gm];rw[if_pos (by simpa using J),aH J,qk,if_pos (by simp[he])];rfl
   ·obtain⟨r,W,Z⟩:=ih (i+1) (by omega)
    refine⟨r,?_,?_⟩
    ·rw[bK (s':=((i+1:Nat):Int))]
     ·exact W
     ·simp only[gm]
      rw[if_pos (by simpa using J),aH J,qk,if_neg (by simp[he]),ak (by omega)];rfl
    ·have e1:(n==xs[i])=false:=by simpa using he
     rw[Z,List.contains_cons,e1,Bool.false_or]
 obtain⟨r,W,Z⟩:=key xs.length 0 (by omega);exact⟨r,W,by simpa using Z⟩
theorem AT {xs:List Int}{n:Int}(h:xs.length<=1048576):gn xs n=some (xs.contains n):=by
 obtain⟨i,J,W⟩:=EK (n:=n) h;unfold gn;rw[J,qk,W]
def rp (cols:Int)(v:aa):Bool:=
 v.fRow.all right&&(decide ((v.fRow.length:Int)=cols)&&(decide (1<=v.fId.fEpoch)&&(decide (v.fId.fEpoch<=9223372036854775807)&& !(decide (v.fDeleted≠0)&&(decide (v.fDeleted<=v.fId.fEpoch)||decide (9223372036854775807<v.fDeleted))))))
theorem EL {cols:Int}{v:aa}(h:v.fRow.length<=1048576):kH cols v=some (rp cols v):=by
 unfold kH
 have W:∀x,iF cols v x=some (decide ((v.fRow.length:Int)=cols)&&(decide (1<=v.fId.fEpoch)&&(decide (v.fId.fEpoch<=9223372036854775807)&& !x))):=by
  intro x;unfold iF iE
  by_cases h1:(v.fRow.length:Int)=cols<;>by_cases h2:1<=v.fId.fEpoch<;>by_cases h3:v.fId.fEpoch<=9223372036854775807<;>simp[h1,h2,h3]
 have hK:ku cols v=some (decide ((v.fRow.length:Int)=cols)&&(decide (1<=v.fId.fEpoch)&&(decide (v.fId.fEpoch<=9223372036854775807)&& !(decide (v.fDeleted≠0)&&(decide (v.fDeleted<=v.fId.fEpoch)||decide (9223372036854775807<v.fDeleted)))))):=by
  unfold ku;simp only[W]
  by_cases h1:v.fDeleted=0<;>by_cases h2:v.fDeleted<=v.fId.fEpoch<;>simp[h1,h2]
 refine(AS (λi=>(i:Int)) v.fRow.length (λi=>match v.fRow[i]? with|some x=>right x|none=>true) false (ku cols v) rfl (λi hi J=>?_) (λi hi J=>?_) ?_).trans ?_
 ·simp only[Q0 hi] at J
  simp only[kw];rw[if_pos (by simpa using hi),aH hi,qk,iy,qk,J,if_neg (by simp),ak (by omega)];rfl
 ·simp only[Q0 hi] at J
  simp only[kw];rw[if_pos (by simpa using hi),aH hi,qk,iy,qk,J,if_pos (by simp)];rfl
 ·simp only[kw]
  rw[if_neg (by simp)]
 ·have e:(Qe v.fRow.length).all (λi=>match v.fRow[i]? with|some x=>right x|none=>true)=v.fRow.all right:=by
   rw[Bool.eq_iff_iff];simp only[Qt,Zu];constructor
   ·intro h x Z
    obtain⟨i,hi,rfl⟩:=Qx Z;have:=h i hi;rwa[Q0 hi] at this
   ·intro h i hi
    rw[Q0 hi];exact h _ (Q2 hi)
  rw[e,hK];unfold rp;cases v.fRow.all right<;>simp
def uO (cols:Int)(srt:List Int)(i:Nat):Bool:=match srt[i]? with
 |some n=>decide (0<=n)&&(decide (n<cols)&& !(srt.take i).contains n)
 |none=>true
def sT (cols:Int)(l:List aa)(i:Nat):Bool:=match l[i]? with
 |some v=>rp cols v&& !((l.take i).map (·.fId)).contains v.fId
 |none=>true
def sU (cols:Int)(srt:List Int):Bool:=(Qe srt.length).all (uO cols srt)
def q8 (cols:Int)(l:List aa):Bool:=(Qe l.length).all (sT cols l)
def sV (cols:Int)(srt:List Int)(l:List aa):Int:=
 if cols<1\/8<cols then 1 else if sU cols srt then (if 4096<l.length then 81 else if q8 cols l then 0 else 81) else 1
def l5 (l:List aa)(i:Nat):List aK:=((l.take i).map (·.fId)).reverse
theorem GN {l:List aK}{x:aK}(h:l.length<=1048576):decide (1<iS (x::l) x)=l.contains x:=by
 unfold iS;have J:(x::l).count x=l.count x+1:=by simp
 have W:l.count x<=l.length:=List.count_le_length;rw[J,ak (by omega)]
 by_cases hm:x∈l
 ·have:0<l.count x:=List.count_pos_iff.2 hm
  simp[hm];omega
 ·have:l.count x=0:=List.count_eq_zero.2 hm
  simp[hm,this]
theorem AU {cols:Int}{l:List aa}(hl:l.length<=4096)(Z:∀v∈l,lZ v):
  au (λs:(Int×List aK)=>cP cols l s.1 s.2) (0,([]:List aK))=if q8 cols l then some 0 else some 81:=by
 have J:∀(i:Nat) (hi:i<l.length) b,fa (i:Int) (l5 l i) l[i] b=if b then some (.inr 81) else some (.inl (((i+1:Nat):Int),l5 l (i+1))):=by
  intro i hi b;unfold fa;cases b
  ·rw[if_neg (by simp),if_neg (by simp),ak (by omega)]
   have:l5 l (i+1)=l[i].fId::l5 l i:=by
    unfold l5;rw[jr hi,Qh,List.reverse_append];rfl
   rw[this];rfl
  ·rw[if_pos rfl,if_pos rfl];rfl
 have W:∀(i:Nat) (hi:i<l.length),cP cols l (i:Int) (l5 l i)=if sT cols l i then some (.inl (((i+1:Nat):Int),l5 l (i+1))) else some (.inr 81):=by
  intro i hi;have a0:=(Z _ (Q2 hi)).len;simp only[cP];rw[if_pos (by simpa using hi),aH hi,qk,EL a0,qk,J i hi,J i hi,GN (by simp[l5];omega)];unfold sT;rw[Q0 hi];dsimp only
  have hc:(l5 l i).contains l[i].fId=((l.take i).map (·.fId)).contains l[i].fId:=by
   unfold l5;rw[Bool.eq_iff_iff];simp
  rw[hc];rcases Z7 (((l.take i).map (·.fId)).contains l[i].fId) with hq|hq<;>rcases Z7 (rp cols l[i]) with hz|hz<;>simp only[hq,hz]<;>rfl
 refine AS (λi=>((i:Int),l5 l i)) l.length (sT cols l) 81 (some 0) rfl (λi hi h=>?_) (λi hi h=>?_) ?_
 ·show cP cols l (i:Int) (l5 l i)=_
  rw[W i hi,h];rfl
 ·show cP cols l (i:Int) (l5 l i)=_
  rw[W i hi,h];rfl
 ·simp only[cP]
  rw[if_neg (by simp)];rfl
theorem sW {cols:Int}{srt:List Int}{l:List aa}(hs:srt.length<=1048576)(hv:∀v∈l,lZ v):fJ cols srt l=some (sV cols srt l):=by
 have h2:d8 cols l=some (if 4096<l.length then 81 else if q8 cols l then 0 else 81):=by
  unfold d8
  by_cases h:4096<l.length
  ·rw[if_pos (by simp;omega),if_pos h]
  ·rw[if_neg (by simp;omega),if_neg h,AU (by omega) hv]
   cases q8 cols l<;>rfl
 have hj:∀i:Nat,i<srt.length->∀b,d9 (i:Int) b=if b then some (.inr 1) else some (.inl ((i+1:Nat):Int)):=by
  intro i hi b;unfold d9;cases b
  ·rw[if_neg (by simp),if_neg (by simp),ak (by omega)];rfl
  ·rfl
 have h1:∀b,fd cols srt l b=if b then some 1 else if sU cols srt then d8 cols l else some 1:=by
  intro b;unfold fd;cases b
  ·rw [if_neg (by simp),if_neg (by simp)]
   have hb:∀(i:Nat) (hi:i<srt.length),fc cols srt l (i:Int)=if uO cols srt i then some (.inl ((i+1:Nat):Int)) else some (.inr 1):=by
    intro i hi;simp only[fc];rw[if_pos (by simpa using hi),aH hi,qk]
    have a0:sub srt 0 (i:Int)=some (srt.take i):=by
     have:=dV (xs:=srt) (lo:=0) (hi:=i) (by omega) (by omega);simpa using this
    rw[a0,qk,AT (by simp;omega),qk];simp only[hj i hi];unfold uO;rw[Q0 hi];dsimp only
    by_cases q1:srt[i]<0
    ·have W: ¬ 0<=srt[i]:=by omega
     simp[q1,W]
    ·by_cases q2:cols<=srt[i]
     ·have J: ¬ srt[i]<cols:=by omega
      simp[q1,q2,J]
     ·have J:srt[i]<cols:=by omega
      have W:0<=srt[i]:=by omega
      rw[if_neg (by simp[q1]),if_neg (by simp[q2])];rcases Z7 ((srt.take i).contains srt[i]) with hq|hq<;>simp only[hq,decide_eq_true J,decide_eq_true W]<;>rfl
   refine AS (λi=>(i:Int)) srt.length (uO cols srt) 1 (d8 cols l) rfl (λi hi Z=>?_) (λi hi Z=>?_) ?_
   ·rw[hb i hi,Z];rfl
   ·rw[hb i hi,Z];rfl
   ·simp only[fc]
    rw[if_neg (by simp)]
  ·rfl
 unfold fJ sV;simp only[h1,h2]
 by_cases q1:cols<1
 ·simp[q1]
 ·by_cases q2:8<cols
  ·simp[q1,q2]
  ·simp only[q1,q2,decide_false,Qz,if_false,or_self]
   cases sU cols srt<;>simp
set_option linter.unusedVariables false
set_option linter.unusedSimpArgs false
structure nW (cols:Int)(srt:List Int)(l:List aa):Prop where
 co:1<=cols/\cols<=8
 so:sU cols srt=true
 le:l.length<=4096
 ro:q8 cols l=true
theorem OA {cols:Int}{srt:List Int}{l:List aa}:sV cols srt l=0↔nW cols srt l:=by
 unfold sV;constructor
 ·intro h
  by_cases c1:cols<1\/8<cols
  ·rw[if_pos c1] at h;cases h
  ·rw[if_neg c1] at h
   cases c2:sU cols srt with
   |false=>rw[c2] at h;cases h
   | true=>
    rw[c2,if_pos rfl] at h
    by_cases c3:4096<l.length
    ·rw[if_pos c3] at h;cases h
    ·rw[if_neg c3] at h
     cases c4:q8 cols l with
     |false=>rw[c4] at h;cases h
     |true=>exact⟨by omega,c2,by omega,c4⟩
 ·intro h
  have J:=h.co;have W:=h.le;rw[if_neg (by omega),h.so,if_pos rfl,if_neg (by omega),h.ro,if_pos rfl]
theorem nW.ver {cols:Int}{srt:List Int}{l:List aa}(h:nW cols srt l):∀v∈l,rp cols v=true:=by
 intro v W;obtain⟨i,hi,rfl⟩:=Qx W;have J:=Qt.1 h.ro i (Zu.2 hi);unfold sT at J;rw[Q0 hi] at J;simp only[Qn] at J;exact J.1
theorem q9 {cols:Int}{v:aa}(Z:lZ v)(h:rp cols v=true):(∀x∈v.fRow,Rgt x)/\(v.fRow.length:Int)=cols/\1<=v.fId.fEpoch/\v.fId.fEpoch<=9223372036854775807/\(v.fDeleted=0\/v.fId.fEpoch<v.fDeleted/\v.fDeleted<=9223372036854775807):=by
 unfold rp at h;simp only[Qn,decide_eq_true_eq,Qo,Zf,Z5,decide_eq_false_iff_not,Qt] at h;obtain⟨h1,h2,h3,h4,J⟩:=h;refine⟨λx W=>Rgt.of (Z.row x W) (h1 x W),h2,h3,h4,?_⟩;rcases J with J|J
 ·left;simpa using J
 ·right;omega
set_option linter.unusedVariables false
set_option linter.unusedSimpArgs false
structure CV (cols:Int)(l:List aa):Prop where
 co:1<=cols/\cols<=8
 le:l.length<=4096
 ok:∀v∈l,lZ v/\rp cols v=true
theorem CV.of {cols:Int}{srt:List Int}{l:List aa}(h:nW cols srt l)(W:∀v∈l,lZ v):CV cols l:=⟨h.co,h.le,λv J=>⟨W v J,h.ver v J⟩⟩
theorem CV.mem {cols:Int}{l J:List aa}(h:CV cols l)(Z:J.length=l.length)(W:∀v∈J,v∈l):CV cols J:=⟨h.co,by rw[Z];exact h.le,λv hv=>h.ok v (W v hv)⟩
def gk (cols:Int)(n:Nat)(v:aa):Ap:=
 if (n:Int)<cols then v.fRow.getD n kx else if (n:Int)=cols then io v.fId.fEpoch else if (n:Int)=cols+1 then io v.fId.fNumber else io v.fDeleted
def kA (cols:Int)(n:Nat)(l:List aa):List Ap:=l.map (gk cols n)
theorem B8 {cols:Int}{l:List aa}(h:CV cols l){v:aa}(hv:v∈l)(n:Nat):Rgt (gk cols n v):=by
 obtain⟨W,Z⟩:=h.ok v hv;obtain⟨h3,h4,h5,h6,h7⟩:=q9 W Z;unfold gk;split
 ·have J:n<v.fRow.length:=by omega
  have:v.fRow.getD n kx=v.fRow[n]:=by simp[J]
  rw[this];exact h3 _ (Q2 J)
 ·have hd:=W.de
  have J:=W.nu;split
  ·exact Rgt.int _ (by unfold cL;omega)
  ·split
   ·exact Rgt.int _ (by unfold cL;omega)
   ·exact Rgt.int _ (by unfold cL;omega)
theorem Io {cols:Int}{n:Nat}{l:List aa}{f:List Ap×Int->Option ((List Ap×Int)⊕List Ap)}(W:l.length<=4096)
  (step:∀(i:Nat) (h:i<l.length) (x:List Ap),x.length=i->f (x,(i:Int))=some (.inl (x++[gk cols n l[i]],((i+1:Nat):Int)))) (J:∀x,f (x,(l.length:Int))=some (.inr x)):au f ([],0)=some (kA cols n l):=by
 refine jq (λi=>((l.take i).map (gk cols n),(i:Int))) l.length (by simp) (λi hi=>?_) ?_
 ·show f ((l.take i).map (gk cols n),(i:Int))=_
  rw[step i hi _ (by simp;omega),jr hi,Qh]
  rfl
 ·show f ((l.take l.length).map (gk cols n),(l.length:Int))=_
  rw[J,Qb];rfl
theorem EM {cols:Int}{n:Nat}{l:List aa}(h:CV cols l)(hn:(n:Int)<cols+3):jV cols (n:Int) l=some (kA cols n l):=by
 have a0:=h.le;have a1:=h.co;unfold jV;refine Io a0 (λi hi x hx=>?_) (λx=>?_)
 ·obtain⟨J,h2⟩:=h.ok _ (Q2 hi)
  obtain⟨h3,h4,h5,h6,h7⟩:=q9 J h2;have hd:=J.de;have a2:=J.nu;simp only[mj,d5,qk];have hj:∀z,fV (i:Int) z=some (.inl (z,((i+1:Nat):Int))):=λz=>by unfold fV;rw[ak (by omega)];rfl
  have Z:∀y:Ap,app 3518437208883 x [y]=some (x++[y]):=λy=>aS (by simp;omega);rw[if_pos (by simpa using hi),aH hi,qk,ak (n:=(n:Int) - cols) (by omega)];simp only[Z,qk,hj];unfold gk
  by_cases c1:(n:Int)=cols
  ·rw[if_pos (by simp;omega),if_neg (by omega),if_pos c1,ak (by omega)]
  ·rw[if_neg (by simp;omega)]
   by_cases c2:(n:Int)=cols+1
   ·rw[if_pos (by simp;omega),if_neg (by omega),if_neg c1,if_pos c2,ak (by omega)]
   ·rw[if_neg (by simp;omega)]
    by_cases c3:(n:Int)=cols+2
    ·rw[if_pos (by simp;omega),if_neg (by omega),if_neg c1,if_neg c2,ak (by omega)]
    ·have W:n<l[i].fRow.length:=by omega
     rw[if_neg (by simp;omega),if_pos (by omega),aH W,qk];simp[W]
 ·simp only[mj]
  rw[if_neg (by simp)];rfl
def et (l:List Ap)(i:Nat):List Ap:=(l.drop (64*i)).take 64
def iY (l:List Ap):Nat:=(l.length+63)/64
def iK (l:List Ap):List (List Ap):=(Qe (iY l)).map (et l)
theorem pI (i:Nat):Qe (i+1)=Qe i++[i]:=List.range_succ
theorem GO {l:List Ap}{i:Nat}(hi:i<iY l)(J:l.length<=4096):(l.take (min l.length (64*i+64))).drop (64*i)=et l i:=by
 unfold et iY at*;rw[List.drop_take];rcases Nat.le_total l.length (64*i+64) with h|h
 ·rw[Nat.min_eq_left h,Q3 (by simp),Q3 (by simp;omega)]
 ·rw[Nat.min_eq_right h]
  congr 1;omega
theorem GP {l:List Ap}(W:l.length<=4096):gR l 64=some (iK l):=by
 unfold gR;rw[if_neg (by simp)];unfold gY fq fM
 have:au (λs:Int×List (List Ap)=>cl (λ(s:List (List Ap)) x=>some (s++[x],true)) l 64 s.1 s.2) (0,[])=some (iK l):=by
  refine jq (λi=>(((64*i:Nat):Int),(Qe i).map (et l))) (iY l) (by simp) (λi hi=>?_) ?_
  ·have Z:64*i<l.length:=by unfold iY at hi;omega
   simp only[cl]
   have J:sub l ((64*i:Nat):Int) (l.length:Int)=some (l.drop (64*i)):=by
    have:=dV (xs:=l) (lo:=64*i) (hi:=l.length) (by omega) (Qg _);rwa[Qb] at this
   have h:sub l ((64*i:Nat):Int) (Qf.wrap (((64*i:Nat):Int)+(if ((l.drop (64*i)).length:Int)<64 then ((l.drop (64*i)).length:Int) else 64)))=some (et l i):=by
    have e:Qf.wrap (((64*i:Nat):Int)+(if ((l.drop (64*i)).length:Int)<64 then ((l.drop (64*i)).length:Int) else 64))=((min l.length (64*i+64):Nat):Int):=by
     rw[Zy];split<;>rw[ak (by omega)]<;>omega
    rw[e,dV (by omega) (by omega),GO hi W]
   rw[if_pos (by simp;omega),J,qk,h,qk,qk,if_neg (by simp),ak (by omega),pI,Qh];congr 2
  ·have a0:l.length<=64*iY l:=by unfold iY;omega
   simp only[cl];rw[if_neg (by simp;omega)];rfl
 rw[this];rfl
def xH (kind:Int)(p:List Ap):Int:=if (enc kind p).2=0 then kind else -1
noncomputable def ip (kind:Int) (p:List Ap):List Int:=(wr (xH kind p) p).1
noncomputable def pJ (kind:Int) (l:List Ap):List Int:=((iK l).map (ip kind)).flatten
theorem xI {kind:Int}{p:List Ap}(h:∀v∈p,VOK v):Byt (ip kind p)/\(ip kind p).length<=100000:=by
 unfold ip
 by_cases hw:(wr (xH kind p) p).2=0
 ·exact EB h hw
 ·have:(wr (xH kind p) p).1=[]:=by
   unfold wr at hw ⊢;split
   ·rfl
   ·rename_i J
    rw[if_neg J] at hw;split
    ·rfl
    ·rename_i W;rw[if_neg W] at hw;exact absurd rfl hw
  rw[this];exact⟨λc Z=>by simp at Z,by simp⟩
theorem sX {l:List Ap}{i:Nat}{v:Ap}(h:v∈et l i):v∈l:=List.mem_of_mem_drop (List.mem_of_mem_take h)
theorem AW (l:List Ap)(i:Nat):(et l i).length<=64:=by unfold et;simp;omega
theorem yx {kind:Int}{l:List Ap}(h:∀v∈l,VOK v):∀k,Byt ((((Qe k).map (et l)).map (ip kind)).flatten)/\((((Qe k).map (et l)).map (ip kind)).flatten).length<=100000*k:=by
 intro k
 induction k with
 |zero=>exact⟨λc J=>by simp at J,by simp⟩
 |succ k ih=>
  have Z:=xI (kind:=kind) (p:=et l k) (λv W=>h v (sX W));rw[pI,Qh,Qh,Zm];simp only[Xb,List.map_nil,List.flatten_singleton];refine⟨λc J=>?_,by rw[kz];omega⟩;rcases Qj.1 J with J|J
  ·exact ih.1 c J
  ·exact Z.1 c J
theorem vC {kind:Int}{l:List Ap}(h:∀v∈l,VOK v)(J:l.length<=4096):Byt (pJ kind l)/\(pJ kind l).length<=6400000:=by
 have:=yx (kind:=kind) h (iY l);refine⟨this.1,Nat.le_trans this.2 ?_⟩;unfold iY;omega
theorem EN {kind:Int}{l:List Ap}(h:∀v∈l,VOK v)(hl:l.length<=4096):jW kind l=some (pJ kind l):=by
 have a0:∀(out:List Int) (p:List Ap),(∀v∈p,VOK v)->p.length<=64->out.length<=10000000->eE kind out p=some (out++ip kind p,true):=by
  intro out p W a1 ho;have J:=(xI (kind:=kind) W).2
  have Z:∀k,(wr k p).1.length<=100000->fW out p k=some (out++(wr k p).1,true):=λk hk=>by
   unfold fW;rw[GD k W (by omega),qk,aS (by omega),qk]
  simp only[eE,pC];rw[qW kind W (by omega),qk,qk];unfold ip xH at*
  by_cases hc:(enc kind p).2=0
  ·rw[if_pos hc] at J ⊢
   rw[if_neg (by simp[hc]),Z _ J]
  ·rw[if_neg hc] at J ⊢
   rw[if_pos (by simp[hc]),Z _ J]
 unfold jW;rw[GP hl,qk]
 have key:∀(k i:Nat),i+k=iY l->cD (λ(s:List Int) (x:List Ap)=>eE kind s x) ((((Qe i).map (et l)).map (ip kind)).flatten) ((List.range' i k).map (et l))=some (pJ kind l,true):=by
  intro k
  induction k with
  |zero=>
   intro i hi;obtain rfl:i=iY l:=by omega
   rfl
  | succ k ih=>
   intro i hi;rw[List.range'_succ,Xb];have J:=yx (kind:=kind) h i;have hi':i<64:=by unfold iY at hi;omega
   simp only[cD];rw[a0 _ _ (λv hv=>h v (sX hv)) (AW l i) (by omega),qk,if_pos rfl]
   have e:(((Qe i).map (et l)).map (ip kind)).flatten++ip kind (et l i)=(((Qe (i+1)).map (et l)).map (ip kind)).flatten:=by
    rw[pI,Qh,Qh,Zm];simp
   rw[e];exact ih (i+1) (by omega)
 have:=key (iY l) 0 (by omega);rw[←List.range_eq_range'] at this;have h0:(((Qe 0).map (et l)).map (ip kind)).flatten=[]:=rfl;rw[h0] at this;unfold iK;rw[this,qk,if_pos rfl]
set_option linter.unusedVariables false
set_option linter.unusedSimpArgs false
theorem xJ {b:List Int}{n:Int}(h:b.length<=1000000000):iG b n=some (b++be4 n):=by
 unfold iG;have J:aO .i64 n 24=n/2^24:=C8 (k:=24) (by decide);have e2:aO .i64 n 16=n/2^16:=C8 (k:=16) (by decide);have W:aO .i64 n 8=n/2^8:=C8 (k:=8) (by decide);rw[aS (by simp;omega),qk,J,e2,W,bV,bV,bV,bV]
 rfl
def pK (cols:Int)(srt:List Int):List Int:=[72,65,89,49,X6.wrap cols,X6.wrap (srt.length:Int)]
def nmB (cols:Int)(srt:List Int)(m:Int):List Int:=pK cols srt++srt.map X6.wrap++be4 m
def k9 (cols:Int)(kinds:List Int)(n:Nat):Int:=if (n:Int)<cols/\n<kinds.length then kinds.getD n 0 else -1
noncomputable def lr (cols:Int) (kinds:List Int) (T:List aa) (n:Nat):List Int:=
 be4 ((pJ (k9 cols kinds n) (kA cols n T)).length:Int)++pJ (k9 cols kinds n) (kA cols n T)
noncomputable def fT (cols:Int) (kinds:List Int) (T:List aa) (k:Nat):List Int:=((Qe k).map (lr cols kinds T)).flatten
noncomputable def iZ (cols:Int) (srt kinds:List Int) (T:List aa):List Int:=nmB cols srt (T.length:Int)++fT cols kinds T (cols+3).toNat
noncomputable def nr (cols:Int) (srt kinds:List Int) (T:List aa):List Int:=iZ cols srt kinds T++be4 (nq (iZ cols srt kinds T))
theorem yz (cols:Int)(kinds:List Int)(T:List aa)(k:Nat):fT cols kinds T (k+1)=fT cols kinds T k++lr cols kinds T k:=by
 unfold fT;rw[pI,Qh,Zm];simp
theorem xK {cols:Int}{n:Nat}{T:List aa}(h:CV cols T):(∀v∈kA cols n T,VOK v)/\(kA cols n T).length<=4096:=by
 refine⟨λv J=>?_,by unfold kA;simpa using h.le⟩;obtain⟨x,W,rfl⟩:=Z1.1 J;exact(B8 h W n).ok
theorem AX (n:Int):0<=X6.wrap n/\X6.wrap n<256:=by rw[bV];omega
theorem rZ {a b:List Int}(J:Byt a)(W:Byt b):Byt (a++b):=λc h=>by
 rcases Qj.1 h with h|h
 ·exact J c h
 ·exact W c h
theorem B9 {cols:Int}{kinds:List Int}{T:List aa}(h:CV cols T)(n:Nat):Byt (lr cols kinds T n)/\(lr cols kinds T n).length<=6400004:=by
 obtain⟨W,Z⟩:=xK (n:=n) h;obtain⟨J,h4⟩:=vC (kind:=k9 cols kinds n) W Z;unfold lr;exact⟨rZ (xF _) J,by rw[kz,ff];omega⟩
theorem vD {cols:Int}{kinds:List Int}{T:List aa}(h:CV cols T):∀k,Byt (fT cols kinds T k)/\(fT cols kinds T k).length<=6400004*k:=by
 intro k
 induction k with
 |zero=>exact⟨λc W=>by simp[fT] at W,by simp[fT]⟩
 |succ k ih=>
  have J:=B9 (kinds:=kinds) h k;rw[yz];exact⟨rZ ih.1 J.1,by rw[kz];omega⟩
theorem JG (cols:Int)(srt:List Int)(m:Int):Byt (nmB cols srt m):=by
 unfold nmB pK;refine rZ (rZ ?_ ?_) (xF m)
 ·intro c h
  have J:=AX cols;have W:=AX (srt.length:Int);simp only[Z8,List.not_mem_nil,or_false] at h;rcases h with rfl|rfl|rfl|rfl|rfl|rfl<;>omega
 ·intro c h
  obtain⟨x,_,rfl⟩:=Z1.1 h;exact AX x
theorem EO (cols:Int)(srt:List Int)(m:Int):(nmB cols srt m).length=10+srt.length:=by
 unfold nmB pK;simp[ff];omega
theorem Ca {cols:Int}{srt kinds:List Int}{T:List aa}(h:CV cols T)(Z:srt.length<=1048576):Byt (iZ cols srt kinds T)/\(iZ cols srt kinds T).length<=100000000:=by
 have J:=vD (kinds:=kinds) h (cols+3).toNat;have a0:=h.co;have W:=EO cols srt (T.length:Int);unfold iZ;refine⟨rZ (JG _ _ _) J.1,?_⟩;rw[kz,W];have:(cols+3).toNat<=11:=by omega
 have:6400004*(cols+3).toNat<=6400004*11:=Zg _ this;omega
theorem Ip {cols:Int}{srt kinds:List Int}{T:List aa}(h:CV cols T)(hs:srt.length<=1048576)(hk:kinds.length<=1048576):
  au (λs:(List Int×Int)=>gy cols kinds T s.1 s.2) (nmB cols srt (T.length:Int),0)=some (nr cols srt kinds T,0):=by
 have a6:=h.co;have b1:=Ca (srt:=srt) (kinds:=kinds) h hs;have a1:=EO cols srt (T.length:Int);refine jq (λn=>(nmB cols srt (T.length:Int)++fT cols kinds T n,(n:Int))) (cols+3).toNat (by simp[fT]) (λn hn=>?_) ?_
 ·have a5:=vD (kinds:=kinds) h n
  have b0:n<11:=by omega
  have a9:(nmB cols srt (T.length:Int)++fT cols kinds T n).length<=200000000:=by rw[kz,a1];omega
  obtain⟨hv,hl⟩:=xK (n:=n) h;obtain⟨a4,a3⟩:=vC (kind:=k9 cols kinds n) hv hl
  have a0:gw cols T (nmB cols srt (T.length:Int)++fT cols kinds T n) (n:Int) (k9 cols kinds n)=some (.inl (nmB cols srt (T.length:Int)++fT cols kinds T (n+1),((n+1:Nat):Int))):=by
   unfold gw;rw[EM h (by omega),qk,EN hv hl,qk,xJ (by omega),qk,aS (by rw[kz,ff];omega),qk,ak (by omega),yz];unfold lr;simp only[Q6]
   rfl
  have a2:∀b,(b=true↔n<kinds.length)->(n:Int)<cols->eW cols kinds T (nmB cols srt (T.length:Int)++fT cols kinds T n) (n:Int) b=some (.inl (nmB cols srt (T.length:Int)++fT cols kinds T (n+1),((n+1:Nat):Int))):=by
   intro b hb J;unfold eW;cases b with
   |true=>
    have Z:=hb.1 rfl;rw[if_pos rfl,aH Z,qk];have:k9 cols kinds n=kinds[n]:=by unfold k9;rw[if_pos ⟨J,Z⟩];simp[Z]
    rw[←this,a0]
   | false=>
    rw[if_neg (by simp)]
    have:k9 cols kinds n= -1:=by
     unfold k9;rw[if_neg (λW=>by have:=hb.2 W.2;cases this)]
    rw[←this,a0]
  simp only[gy];rw[ak (by omega),if_pos (by simp;omega)]
  by_cases J:(n:Int)<cols
  ·rw[if_pos (by simpa using J)]
   exact a2 _ (by simp) J
  ·rw[if_neg (by simpa using J)]
   unfold eW;rw[if_neg (by simp)];have:k9 cols kinds n= -1:=by unfold k9;rw[if_neg (λW=>J W.1)]
   rw[←this,a0]
 ·simp only[gy]
  rw[ak (by omega),if_neg (by simp;omega)];show(iH (iZ cols srt kinds T)).map Sum.inr=_;unfold iH;obtain⟨h1,h2⟩:=AF (b:=iZ cols srt kinds T) (by omega);unfold U32 at h2;rw[h1,qk,ak (by omega),xJ (by omega)]
  rfl
theorem wK {cols:Int}{srt kinds:List Int}{l:List aa}(Z:srt.length<=1048576)(hk:kinds.length<=1048576)(hv:∀v∈l,lZ v):
  (sV cols srt l≠0/\dG cols srt kinds l=some ([],sV cols srt l))\/
  (nW cols srt l/\∃T,Stb (qlt srt) l T/\CV cols T/\dG cols srt kinds l=some (nr cols srt kinds T,0)):=by
 unfold dG;rw[sW Z hv,qk]
 by_cases hr:sV cols srt l=0
 ·right
  have W:=OA.1 hr;have a1:=W.le;have a0:Rok l:=λv J=>(hv v J).len;obtain⟨T',h1,h⟩:=yw (cs:=srt) (xs:=l) Z (by omega) a0;have hT:CV cols T':=(CV.of W hv).mem (h.len (fg srt)) (λv J=>(h.mem (fg srt)).1 J);have a2:=h.len (fg srt);refine⟨W,T',h,hT,?_⟩;rw[if_neg (by simp[hr]),h1,qk,aS (by simp),qk];refine(jq (λi=>(pK cols srt++(srt.take i).map X6.wrap,(i:Int))) srt.length (by simp[pK]) (λi hi=>?_) (b:=iI cols kinds T' (pK cols srt++srt.map X6.wrap)) ?_).trans ?_
  ·simp only[iJ]
   rw[if_pos (by simpa using hi),aH hi,qk,aS (by simp[pK];omega),qk,ak (by omega),jr hi,Qh];simp only[Q6]
   rfl
  ·simp only[iJ]
   rw[if_neg (by simp),Qb]
  ·unfold iI
   rw[xJ (by simp[pK];omega),qk];exact Ip hT Z hk
 ·left
  exact⟨hr,by rw[if_pos (by simpa using hr)]⟩
set_option linter.unusedVariables false
set_option linter.unusedSimpArgs false
theorem orS {a b:Nat}(k:Nat)(Z:b<2^k)(h:2^k*a+b<4294967296):bOr .i64 ((2^k*a:Nat):Int) (b:Int)=((2^k*a+b:Nat):Int):=by
 unfold bOr
 have J:(Ql Qf.bits ((2^k*a:Nat):Int)).toNat=2^k*a:=by
  show(Ql 64 ((2^k*a:Nat):Int)).toNat=2^k*a;rw[Z9];omega
 have W:(Ql Qf.bits (b:Int)).toNat=b:=by
  show(Ql 64 (b:Int)).toNat=b;rw[Z9];omega
 rw[BitVec.toNat_or,J,W,←Qy Z,ak (by omega)]
theorem shI {a:Nat}(k:Nat)(J:k<=24)(W:a<256):eK .i64 (a:Int) (k:Int)=((2^k*a:Nat):Int):=by
 unfold eK;have e:min ((k:Int)).toNat Qf.bits=k:=by simp[IntKind.bits];omega
 have h:2^k<=2^24:=Z0 (by decide) J;have Z:2^k*a<=2^24*255:=Zc h (by omega);rw[e,show(a:Int)*2^k=((2^k*a:Nat):Int) by rw[Nat.mul_comm];push_cast;rfl,ak (by omega)]
theorem Dh {a b c d:Int}{t:List Int}(Z:0<=a/\a<256)(hb:0<=b/\b<256)(hc:0<=c/\c<256)(hd:0<=d/\d<256):dN (a::b::c::d::t)=some (dW [a,b,c,d]):=by
 have e0:idx (a::b::c::d::t) 0=some a:=aH (xs:=a::b::c::d::t) (i:=0) (by simp);have e1:idx (a::b::c::d::t) 1=some b:=aH (xs:=a::b::c::d::t) (i:=1) (by simp);have e2:idx (a::b::c::d::t) 2=some c:=aH (xs:=a::b::c::d::t) (i:=2) (by simp);have e3:idx (a::b::c::d::t) 3=some d:=aH (xs:=a::b::c::d::t) (i:=3) (by simp);unfold dN;rw[e0,qk,e1,qk,e2,qk,e3,qk,ak (by omega),ak (by omega),ak (by omega),ak (by omega)];obtain⟨a,rfl⟩:=Q8 Z.1;obtain⟨b,rfl⟩:=Q8 hb.1;obtain⟨c,rfl⟩:=Q8 hc.1;obtain⟨d,rfl⟩:=Q8 hd.1;have W:=shI (a:=a) 24 (by omega) (by omega);have J:=shI (a:=b) 16 (by omega) (by omega)
 have h:=shI (a:=c) 8 (by omega) (by omega);rw[show((24:Nat):Int)=24 from rfl] at W;rw[show((16:Nat):Int)=16 from rfl] at J;rw[show((8:Nat):Int)=8 from rfl] at h;rw[W,J,h,orS 24 (by omega) (by omega),show 2^24*a+2^16*b=2^16*(2^8*a+b) by omega,orS 16 (by omega) (by omega),show 2^16*(2^8*a+b)+2^8*c=2^8*(2^8*(2^8*a+b)+c) by omega,orS 8 (by omega) (by omega)];unfold dW;simp only[X3,List.foldl_nil];congr 1;omega
theorem sY {n:Int}(h:U32 n)(t:List Int):dN (be4 n++t)=some n:=by
 have:=GG h;unfold be4 at*;rw[Qk,Qk,Qk,Qk,Dh (by omega) (by omega) (by omega) (by omega),this]
theorem EP {kind:Int}{p:List Ap}(h:∀v∈p,Rgt v)(W:p≠[])(hl:p.length<=64):(wr (xH kind p) p).2=0:=by
 have key:∀k,(enc (kI k p) p).2=0->(wr k p).2=0:=λk hk=>by
  unfold wr;rw[if_neg W,if_neg (by simpa using hk)]
 apply key;unfold xH;split
 ·rename_i J
  unfold kI;rw[if_neg]
  ·exact J
  ·rintro rfl
   unfold enc at J;rw[if_pos (by omega)] at J;cases J
 ·unfold kI
  rw[if_pos rfl,Pt.1];unfold enc;have Z:p.all right=true:=Qt.2 λv hv=>(h v hv).right;rw[if_neg (by omega),if_neg (by omega),if_neg (by simp[Z]),if_neg (λhh=>by omega),if_neg W]
theorem GQ {kind:Int}{p:List Ap}(h:∀v∈p,Rgt v)(J:p≠[])(Z:p.length<=64){t:List Int}(ht:Byt t)(a0:t.length<=900000000000):kp (ip kind p++t)=some (p,((ip kind p).length:Int),0):=by
 unfold ip;exact Ik (λv W=>(h v W).ok) (EP h J Z) ht a0
theorem Iq {kind:Int}{p:List Ap}(h:∀v∈p,Rgt v)(Z:p≠[])(J:p.length<=64):0<(ip kind p).length:=by
 unfold ip;obtain⟨k,_,_,_,_,hw,_⟩:=AJ (λv W=>(h v W).ok) (EP (kind:=kind) h Z J);rw[hw];unfold mY;simp[ff]
theorem yA {kind:Int}{l:List Ap}{i:Nat}(hi:i<iY l):(((iK l).drop i).map (ip kind)).flatten=ip kind (et l i)++(((iK l).drop (i+1)).map (ip kind)).flatten:=by
 have h:i<(iK l).length:=by unfold iK;simpa using hi
 rw[Q1 h];have:(iK l)[i]=et l i:=by simp[iK]
 rw[this];rfl
theorem EQ {kind:Int}{l:List Ap}(h:∀v∈l,VOK v)(Z:l.length<=4096):∀k i:Nat,i+k=iY l->Byt ((((iK l).drop i).map (ip kind)).flatten)/\((((iK l).drop i).map (ip kind)).flatten).length<=100000*k:=by
 intro k
 induction k with
 |zero=>
  intro i hi;rw[Qc (by unfold iK;simp;omega)];exact⟨.nil,by simp⟩
 |succ k ih=>
  intro i hi;have W:=xI (kind:=kind) (p:=et l i) (λv J=>h v (sX J));have:=ih (i+1) (by omega);rw[yA (by omega)];exact⟨W.1.app this.1,by rw[kz];omega⟩
theorem ER {kind:Int}{l:List Ap}(h:∀v∈l,Rgt v)(hl:l.length<=4096):iw (pJ kind l) (l.length:Int)=some (l,true):=by
 unfold iw;have J:∀v∈l,VOK v:=λv J=>(h v J).ok;refine jq (λi=>((((iK l).drop i).map (ip kind)).flatten,l.take (64*i))) (iY l) (by simp[pJ]) (λi hi=>?_) ?_
 ·have a5:64*i<l.length:=by unfold iY at hi;omega
  have hp:∀v∈et l i,Rgt v:=λv J=>h v (sX J);have a0:=AW l i;have W:(et l i).length=min 64 (l.length - 64*i):=by unfold et;simp
  have Z:et l i≠[]:=λe=>by rw[e] at W;simp at W;omega
  have a9:=Iq (kind:=kind) hp Z a0;obtain⟨a2,a6⟩:=EQ (kind:=kind) J hl (iY l - (i+1)) (i+1) (by omega);have a4:iY l<=64:=by unfold iY;omega
  have a1:(l.take (64*i)).length=64*i:=by simp;omega
  have ht:l.take (64*(i+1))=l.take (64*i)++et l i:=by unfold et;rw[←List.take_add];congr 1
  simp only[ig];rw[yA hi,if_pos (by simp;omega),GQ hp Z a0 a2 (by omega),qk,if_neg (by simp),a1,ak (by omega)]
  have hm:(((et l i).length:Int) != (if (l.length:Int) - ((64*i:Nat):Int)<64 then (l.length:Int) - ((64*i:Nat):Int) else 64))=false:=by
   rw[W];simp;split<;>omega
  dsimp only;rw[hm];unfold ie;rw[if_neg (by simp)];dsimp only;rw[aS (by rw[a1];omega),qk,fQ (by simp),qk,Qp,ht]
 ·have a3:l.length<=64*iY l:=by unfold iY;omega
  simp only[ig];rw[Qc (by unfold iK;simp),if_neg (by simp),Q3 a3];unfold jF;simp
def tkV (cols:Int)(n:Nat)(v:aa):aa:=
 ⟨⟨if cols<(n:Int) then v.fId.fEpoch else 0,if cols+1<(n:Int) then v.fId.fNumber else 0⟩,v.fRow.take n,if cols+2<(n:Int) then v.fDeleted else 0⟩
theorem Ir {cols:Int}(h:1<=cols)(v:aa):tkV cols 0 v=aa.zero:=by
 unfold tkV;rw[if_neg (by omega),if_neg (by omega),if_neg (by omega)]
 rfl
theorem JH {cols:Int}{v:aa}(J:1<=cols)(h:(v.fRow.length:Int)=cols):tkV cols (cols+3).toNat v=v:=by
 unfold tkV;rw[if_pos (by omega),if_pos (by omega),if_pos (by omega),Q3 (by omega)]
theorem JI {O:Type}{A B:List O}{x:O}{i:Nat}(h:A.length=i):(A++x::B)[i]? =some x:=by simp[←h]
theorem GT {O:Type}{A B:List O}{x y:O}{i:Nat}(h:A.length=i):(A++x::B).set i y=A++y::B:=by simp[←h]
theorem GU {cols:Int}{srt:List Int}{T:List aa}(h:CV cols T){n:Nat}(hn:(n:Int)<cols+3):
  ii ⟨cols,srt,[]⟩ (T.map (tkV cols n)) (n:Int) (kA cols n T)=some (true,T.map (tkV cols (n+1))):=by
 have b4:=h.le;have b6:=h.co;have b7:(kA cols n T).length=T.length:=by simp[kA]
 unfold ii;refine jq (λi=>((i:Int),(T.take i).map (tkV cols (n+1))++(T.drop i).map (tkV cols n))) T.length (by simp) (λi hi=>?_) ?_
 ·obtain⟨h1,h2⟩:=h.ok _ (Q2 hi)
  obtain⟨h3,h4,h5,h6,h7⟩:=q9 h1 h2;have b5:=h1.de;have c4:=h1.nu;have b3:((T.take i).map (tkV cols (n+1))).length=i:=by simp;omega
  obtain⟨A,hA⟩:∃A,A=(T.take i).map (tkV cols (n+1)):=⟨_,rfl⟩
  obtain⟨B,hB⟩:∃B,B=(T.drop (i+1)).map (tkV cols n):=⟨_,rfl⟩
  have hS:(T.take i).map (tkV cols (n+1))++(T.drop i).map (tkV cols n)=A++tkV cols n T[i]::B:=by
   rw[Q1 hi,Xb,hA,hB]
  have a5:(T.take (i+1)).map (tkV cols (n+1))++(T.drop (i+1)).map (tkV cols n)=A++tkV cols (n+1) T[i]::B:=by
   rw[jr hi,Qh,hA,hB];simp
  have a4:A.length=i:=by rw[hA];exact b3
  have hx:(A++tkV cols n T[i]::B)[i]? =some (tkV cols n T[i]):=JI a4;have a6:∀y,(A++tkV cols n T[i]::B).set i y=A++y::B:=λy=>GT a4
  have hc:idx (kA cols n T) (i:Int)=some (gk cols n T[i]):=by
   rw[aH (by omega)];simp[kA]
  show dE ⟨cols,srt,[]⟩ (n:Int) (kA cols n T) (i:Int) ((T.take i).map (tkV cols (n+1))++(T.drop i).map (tkV cols n))=some (.inl (((i+1:Nat):Int),(T.take (i+1)).map (tkV cols (n+1))++(T.drop (i+1)).map (tkV cols n)));rw[hS,a5];unfold dE;rw[if_pos (by simp;omega),hc,qk,nP (by simp;omega),qk]
  have a9:∀z,cQ (i:Int) z=some (.inl (((i+1:Nat):Int),z)):=λz=>by
   unfold cQ;rw[ak (by omega)];rfl
  have a3:dD ⟨cols,srt,[]⟩ (n:Int) (i:Int) (A++tkV cols n T[i]::B) (gk cols n T[i]) i false=some (.inl (((i+1:Nat):Int),A++tkV cols (n+1) T[i]::B)):=by
   unfold dD;dsimp only;rw[if_neg (by simp),ak (by omega),hx];simp only[qk,a6,a9]
   by_cases c1:(n:Int)=cols
   ·rw[if_pos (by simp;omega)]
    have Z:gk cols n T[i]=io T[i].fId.fEpoch:=by unfold gk;rw[if_neg (by omega),if_pos c1]
    rw[Z,cA];unfold tkV;dsimp only[io];rw[Qi (by omega) (by omega),Q3 (by omega),Q3 (by omega)];have a0:(cols<(n:Int))=False:=eq_false (by omega);have b0:(cols<((n+1:Nat):Int))=True:=eq_true (by omega);have W:(cols+1<(n:Int))=False:=eq_false (by omega);have b1:(cols+1<((n+1:Nat):Int))=False:=eq_false (by omega);have a2:(cols+2<(n:Int))=False:=eq_false (by omega);have J:(cols+2<((n+1:Nat):Int))=False:=eq_false (by omega);simp only[a0,b0,W,b1,a2,J,if_true,if_false]
   ·rw [if_neg (by simp;omega)]
    by_cases c2:(n:Int)=cols+1
    ·rw[if_pos (by simp;omega)]
     have Z:gk cols n T[i]=io T[i].fId.fNumber:=by unfold gk;rw[if_neg (by omega),if_neg c1,if_pos c2]
     rw[Z,xq];unfold tkV;dsimp only[io];rw[if_neg (by simp;omega),Qi (by omega) (by omega),Q3 (by omega),Q3 (by omega)];have a0:(cols<(n:Int))=True:=eq_true (by omega);have b0:(cols<((n+1:Nat):Int))=True:=eq_true (by omega);have W:(cols+1<(n:Int))=False:=eq_false (by omega);have b1:(cols+1<((n+1:Nat):Int))=True:=eq_true (by omega);have a2:(cols+2<(n:Int))=False:=eq_false (by omega);have J:(cols+2<((n+1:Nat):Int))=False:=eq_false (by omega);simp only[a0,b0,W,b1,a2,J,if_true,if_false]
    ·rw[if_neg (by simp;omega)]
     by_cases c3:(n:Int)=cols+2
     ·rw[if_pos (by simp;omega)]
      have Z:gk cols n T[i]=io T[i].fDeleted:=by unfold gk;rw[if_neg (by omega),if_neg c1,if_neg c2]
      rw[Z,cA];unfold tkV;dsimp only[io];rw[Qi (by omega) (by omega),Q3 (by omega),Q3 (by omega)];have a0:(cols<(n:Int))=True:=eq_true (by omega);have b0:(cols<((n+1:Nat):Int))=True:=eq_true (by omega);have W:(cols+1<(n:Int))=True:=eq_true (by omega);have b1:(cols+1<((n+1:Nat):Int))=True:=eq_true (by omega);have a2:(cols+2<(n:Int))=False:=eq_false (by omega);have J:(cols+2<((n+1:Nat):Int))=True:=eq_true (by omega);simp only[a0,b0,W,b1,a2,J,if_true,if_false]
     ·rw[if_neg (by simp;omega)]
      have hr:n<T[i].fRow.length:=by omega
      have e:T[i].fRow.take (n+1)=T[i].fRow.take n++[gk cols n T[i]]:=by
       unfold gk;rw[jr hr,if_pos (by omega)];simp[hr]
      have c0:(tkV cols n T[i]).fRow.length<=1048576:=by
       have:=h1.len;unfold tkV;simp;omega
      rw[aS (by simp;omega),qk]
      have:tkV cols (n+1) T[i]={ tkV cols n T[i] with fRow:=(tkV cols n T[i]).fRow++[gk cols n T[i]] }:=by
       unfold tkV;dsimp only;rw[e,if_neg (by omega),if_neg (by omega),if_neg (by omega),if_neg (by omega),if_neg (by omega),if_neg (by omega)]
      rw[this]
  by_cases hnc:cols<=(n:Int)
  ·rw[if_pos (by simpa using hnc)]
   have hk:(gk cols n T[i]).fKind=2/\0<=(gk cols n T[i]).fInt:=by
    unfold gk;rw[if_neg (by omega)];split
    ·exact⟨rfl,by simp only[io];omega⟩
    ·split
     ·exact⟨rfl,by simp only[io];omega⟩
     ·exact⟨rfl,by simp only[io];omega⟩
   rw[if_neg (by simp[hk.1]),decide_eq_false (by omega)];exact a3
  ·rw[if_neg (by simpa using hnc)]
   exact a3
 ·show dE ⟨cols,srt,[]⟩ (n:Int) (kA cols n T) (T.length:Int) ((T.take T.length).map (tkV cols (n+1))++(T.drop T.length).map (tkV cols n))=_
  unfold dE;rw[if_neg (by simp;omega),Qb,Zi];unfold im;simp
set_option linter.unusedVariables false
set_option linter.unusedSimpArgs false
theorem nodup_iff {O:Type} [DecidableEq O](l:List O):l.Nodup↔ ∀(i:Nat) (h:i<l.length),(l.take i).contains l[i]=false:=by
 unfold List.Nodup;rw[Z6];constructor
 ·intro h i hi
  rw[List.contains_eq_mem,decide_eq_false_iff_not];intro J;obtain⟨k,W,he⟩:=Qx J;have a0:k<i:=by simp at W;omega
  have:=h k i (by omega) hi a0;apply this;rw[←he];simp
 ·intro h i j hi Z a1 e
  have:=h j Z;rw[List.contains_eq_mem,decide_eq_false_iff_not] at this;apply this;rw[←e];exact List.mem_of_getElem? (i:=i) (by rw[List.getElem?_take_of_lt a1,Q0 hi])
theorem OL {cols:Int}{srt:List Int}:sU cols srt=true↔(∀s∈srt,0<=s/\s<cols)/\srt.Nodup:=by
 unfold sU;rw[nodup_iff];simp only[Qt,Zu];constructor
 ·intro h
  have key:∀(i:Nat) (hi:i<srt.length),0<=srt[i]/\srt[i]<cols/\(srt.take i).contains srt[i]=false:=by
   intro i hi;have:=h i hi;unfold uO at this;rw[Q0 hi] at this;simp only[Qn,decide_eq_true_eq,Qo] at this;exact this
  refine⟨λs J=>?_,λi hi=>(key i hi).2.2⟩;obtain⟨i,hi,rfl⟩:=Qx J;exact⟨(key i hi).1,(key i hi).2.1⟩
 ·rintro ⟨W,Z⟩ i hi
  unfold uO;rw[Q0 hi];simp only[Qn,decide_eq_true_eq,Qo];have:=W _ (Q2 hi);exact⟨this.1,this.2,Z i hi⟩
theorem OM {cols:Int}{l:List aa}:q8 cols l=true↔(∀v∈l,rp cols v=true)/\(l.map (·.fId)).Nodup:=by
 unfold q8;rw[nodup_iff];simp only[Qt,Zu,Qv,Zw];constructor
 ·intro h
  have key:∀(i:Nat) (hi:i<l.length),rp cols l[i]=true/\((l.take i).map (·.fId)).contains l[i].fId=false:=by
   intro i hi;have:=h i hi;unfold sT at this;rw[Q0 hi] at this;simp only[Qn,Qo] at this;exact this
  refine⟨λs J=>?_,λi hi=>?_⟩
  ·obtain⟨i,hi,rfl⟩:=Qx J
   exact(key i hi).1
  ·have:=(key i hi).2
   rw[Xc] at this;exact this
 ·rintro ⟨W,Z⟩ i hi
  unfold sT;rw[Q0 hi];simp only[Qn,Qo];refine⟨W _ (Q2 hi),?_⟩;have:=Z i hi;rw[Xc];exact this
theorem GV:∀(n:Nat) (l:List Int),l.Nodup->(∀s∈l,0<=s/\s<(n:Int))->l.length<=n:=by
 intro n
 induction n with
 |zero=>
  intro l _ h;cases l with
  |nil=>simp
  |cons a l=>have:=h a (by simp);omega
 | succ n ih=>
  intro l J h
  have h1:=ih (l.filter λx=> !decide (x=(n:Int))) (J.filter _) (λs Z=>by
   obtain⟨W,hq⟩:=List.mem_filter.1 Z;have:=h s W;have:s≠(n:Int):=by simpa using hq
   omega)
  have h2:l.count (n:Int)<=1:=List.nodup_iff_count.1 J _;have h3:=List.length_eq_countP_add_countP (p:=λx=> !decide (x=(n:Int))) (l:=l);rw[List.countP_eq_length_filter] at h3
  have h4:List.countP (λa=>decide ¬((!decide (a=(n:Int)))=true)) l=l.count (n:Int):=by
   unfold List.count;congr 1;funext a
   by_cases e:a=(n:Int)<;>simp[e]
  omega
theorem nW.srt_le {cols:Int}{srt:List Int}{l:List aa}(h:nW cols srt l):srt.length<=8:=by
 obtain⟨W,Z⟩:=OL.1 h.so;have hc:=h.co;exact GV 8 srt Z λs J=>by have:=W s J;omega
theorem nW.stb {cols:Int}{srt:List Int}{l T:List aa}(h:nW cols srt l)(W:Stb (qlt srt) l T):nW cols srt T:=by
 have J:=W.perm (fg srt);obtain⟨h1,Z⟩:=OM.1 h.ro;refine⟨h.co,h.so,by rw[J.length_eq];exact h.le,OM.2 ⟨λv hv=>h1 v (J.mem_iff.1 hv),?_⟩⟩;exact(J.map _).nodup_iff.2 Z
theorem nW.none {cols:Int}{srt:List Int}{l:List aa}(h:nW cols srt l):nW cols srt []:=⟨h.co,h.so,by simp,rfl⟩
theorem nW.id_srt {cols:Int}{srt:List Int}{l:List aa}(h:nW cols srt l):srt.map X6.wrap=srt:=by
 obtain⟨W,_⟩:=OL.1 h.so;have Z:=h.co;rw[Zn (g:=id),List.map_id];intro s J;have:=W s J;rw[bV,Qi (by omega) (by omega)];rfl
theorem GW {cols:Int}{srt kinds:List Int}{T:List aa}(h:nW cols srt T)(hs:Byt (fT cols kinds T (cols+3).toNat)/\(fT cols kinds T (cols+3).toNat).length<=100000000):
  ic (iZ cols srt kinds T)=some ((T.length:Int),fT cols kinds T (cols+3).toNat,true,⟨cols,srt,[]⟩):=by
 have a4:=h.co;have a3:=h.le;have a6:=h.srt_le;obtain⟨a0,a2⟩:=hs;obtain⟨S,hS⟩:∃S,S=fT cols kinds T (cols+3).toNat:=⟨_,rfl⟩
 rw[←hS] at a0 a2 ⊢
 have hb:iZ cols srt kinds T=72::65::89::49::cols::(srt.length:Int)::(srt++(be4 (T.length:Int)++S)):=by
  unfold iZ nmB pK;rw[h.id_srt,bV,bV,Qi (by omega) (by omega),Qi (by omega) (by omega),←hS];simp
 rw[hb];obtain⟨p,J⟩:∃p,p=72::65::89::49::cols::(srt.length:Int)::(srt++(be4 (T.length:Int)++S)):=⟨_,rfl⟩
 rw[←J];have a5:p.length=6+(srt.length+(4+S.length)):=by rw[J];simp[ff];omega
 have e1:sub p 0 4=some [72,65,89,49]:=by
  have:=dV (xs:=p) (lo:=0) (hi:=4) (by omega) (by omega);rw[J] at this ⊢;exact this
 have i4:idx p 4=some cols:=by rw[J];exact aH (i:=4) (by simp)
 have i5:idx p 5=some (srt.length:Int):=by rw[J];exact aH (i:=5) (by simp)
 have e2:sub p 6 (p.length:Int)=some (srt++(be4 (T.length:Int)++S)):=by
  have:=fQ (xs:=p) (k:=6) (by omega);rw[show((6:Nat):Int)=6 from rfl] at this;rw[this,J];rfl
 have a1:(srt++(be4 (T.length:Int)++S)).length=srt.length+(4+S.length):=by simp[ff]
 have e3:sub (srt++(be4 (T.length:Int)++S)) 0 (srt.length:Int)=some srt:=by
  have:=dV (xs:=srt++(be4 (T.length:Int)++S)) (lo:=0) (hi:=srt.length) (by omega) (by omega);rw[X5] at this;exact this
 have Z:Qf.wrap (srt.length:Int)=(srt.length:Int):=ak (by omega);have W:Qf.wrap ((srt.length:Int)+4)=((srt.length+4:Nat):Int):=by rw[ak (by omega)];omega
 unfold ic;rw[if_neg (by simp;omega),e1,qk];show eo p (!decide ((72,65,89,49)=((72,65,89,49):Int×Int×Int×Int)))=_;unfold eo;rw[if_neg (by simp),i4,qk,i5,qk,e2,qk,Z,W,a1,if_neg (by simp;omega),e3,qk];refine jq (λi=>((i:Int),(⟨cols,srt.take i,[]⟩:aw))) srt.length ?_ (λi hi=>?_) ?_
 ·rw[ak (by omega)];rfl
 ·simp only[fO]
  obtain⟨hr,_⟩:=OL.1 h.so;have:=hr _ (Q2 hi);rw[if_pos (by simpa using hi),aH hi,qk,aS (by simp;omega),qk,ak (by omega),ak (by omega),jr hi]
  rfl
 ·simp only[fO]
  rw[if_neg (by simp),Qb];unfold il
  have e4:sub (srt++(be4 (T.length:Int)++S)) (srt.length:Int) ((srt++(be4 (T.length:Int)++S)).length:Int)=some (be4 (T.length:Int)++S):=by
   rw[fQ (by simp),Qp]
  have e5:sub (srt++(be4 (T.length:Int)++S)) ((srt.length+4:Nat):Int) ((srt++(be4 (T.length:Int)++S)).length:Int)=some S:=by
   rw[fQ (by omega),←Q6,Z4 (by simp[ff])]
  rw[Z,W,e4,qk,sY (by unfold U32;omega),qk,e5,qk];dsimp only;rw[sW (by omega) (by simp),qk,OA.2 h.none,if_pos (by simp)];unfold fN;rw[decide_eq_true (by omega)]
theorem xL {xs:List aa}(h:xs.length<=1048576):ef xs xs dZ=some true:=by
 unfold ef;rw[if_neg (by simp)];refine jq (λi=>(i:Int)) xs.length rfl (λi hi=>?_) ?_
 ·simp only[gS]
  rw[if_pos (by simpa using hi),aH hi,qk,qk];simp only[dZ];rw[qk,if_neg (by simp),ak (by omega)];rfl
 ·simp only[gS]
  rw[if_neg (by simp)];rfl
theorem AY {cols:Int}{srt kinds:List Int}{T:List aa}(h:nW cols srt T)(W:∀v∈T,lZ v)(hS:Srt (qlt srt) T)(hk:kinds.length<=1048576):
  dH (nr cols srt kinds T)=some (some ⟨cols,srt,T⟩,0):=by
 have a2:=h.co;have c6:=h.le;have e3:=h.srt_le;have J:CV cols T:=CV.of h W;obtain⟨d0,c7⟩:=Ca (srt:=srt) (kinds:=kinds) J (by omega);obtain⟨b7,a6⟩:=AF (b:=iZ cols srt kinds T) (by omega);obtain⟨b1,c4⟩:=vD (kinds:=kinds) J (cols+3).toNat;have d1:(cols+3).toNat<=11:=by omega
 have b4:(fT cols kinds T (cols+3).toNat).length<=100000000:=Nat.le_trans c4 (by omega);have c5:(nr cols srt kinds T).length=(iZ cols srt kinds T).length+4:=by unfold nr;rw[kz,ff]
 have hw:Qf.wrap (((nr cols srt kinds T).length:Int) - 4)=((iZ cols srt kinds T).length:Int):=by rw[c5,ak (by omega)];omega
 have e1:sub (nr cols srt kinds T) ((iZ cols srt kinds T).length:Int) ((nr cols srt kinds T).length:Int)=some (be4 (nq (iZ cols srt kinds T))):=by
  rw[fQ (by omega)];unfold nr;rw[Qp]
 have e2:sub (nr cols srt kinds T) 0 ((iZ cols srt kinds T).length:Int)=some (iZ cols srt kinds T):=by
  have:=dV (xs:=nr cols srt kinds T) (lo:=0) (hi:=(iZ cols srt kinds T).length) (by omega) (by omega);have e:(nr cols srt kinds T).take (iZ cols srt kinds T).length=iZ cols srt kinds T:=by unfold nr;rw[X5]
  rw[e] at this;exact this
 have a4:=sY a6 [];rw[Qr] at a4
 have b3:Qf.wrap (nq (iZ cols srt kinds T))=nq (iZ cols srt kinds T):=by
  unfold U32 at a6;rw[ak (by omega)]
 unfold dH;rw[if_neg (by simp;omega),hw,e1,qk,a4,qk,e2,qk,b7,qk,b3];unfold jn;rw[if_neg (by simp),hw,e2,qk,GW h ⟨b1,b4⟩,qk,if_neg (by simp)];dsimp only
 have b6:mk 5864062014805 (T.length:Int) aa.zero=some (T.map (tkV cols 0)):=by
  rw[sM (by omega),Zn (g:=λ_=>aa.zero) (λv _=>Ir a2.1 v),List.map_const']
 rw[b6,qk]
 have a3:∀n,n<(cols+3).toNat->(((Qe (cols+3).toNat).drop n).map (lr cols kinds T)).flatten=lr cols kinds T n++(((Qe (cols+3).toNat).drop (n+1)).map (lr cols kinds T)).flatten:=by
  intro n hn;rw[Q1 (by simpa using hn)];simp
 have c0:∀k n:Nat,n+k=(cols+3).toNat->((((Qe (cols+3).toNat).drop n).map (lr cols kinds T)).flatten).length<=6400004*k:=by
  intro k
  induction k with
  |zero=>intro n hn;rw[Qc (by simp;omega)];simp
  |succ k ih=>
   intro n hn;rw[a3 n (by omega),kz];have:=(B9 (kinds:=kinds) J n).2;have:=ih (n+1) (by omega);omega
 refine jq (λn=>((((Qe (cols+3).toNat).drop n).map (lr cols kinds T)).flatten,(n:Int),T.map (tkV cols n))) (cols+3).toNat (by simp[fT]) (λn hn=>?_) ?_
 ·have c1:=c0 ((cols+3).toNat - (n+1)) (n+1) (by omega)
  have e0:6400004*((cols+3).toNat - (n+1))<=6400004*11:=Zg _ (by omega);obtain⟨R,hR⟩:∃R,R=(((Qe (cols+3).toNat).drop (n+1)).map (lr cols kinds T)).flatten:=⟨_,rfl⟩
  obtain⟨B,hB⟩:∃B,B=pJ (k9 cols kinds n) (kA cols n T):=⟨_,rfl⟩
  obtain⟨c2,a5⟩:=xK (n:=n) J;have b5:=(vC (kind:=k9 cols kinds n) c2 a5).2;rw[←hB] at b5;rw[←hR] at c1;show fP ((T.length:Int),fT cols kinds T (cols+3).toNat,true,⟨cols,srt,[]⟩) ((((Qe (cols+3).toNat).drop n).map (lr cols kinds T)).flatten) (n:Int) (T.map (tkV cols n))=some (.inl ((((Qe (cols+3).toNat).drop (n+1)).map (lr cols kinds T)).flatten,((n+1:Nat):Int),T.map (tkV cols (n+1))))
  have hx:(((Qe (cols+3).toNat).drop n).map (lr cols kinds T)).flatten=be4 (B.length:Int)++(B++R):=by
   rw[a3 n hn,←hR];unfold lr;rw[←hB,Q6]
  rw[hx,←hR];obtain⟨X,Z⟩:∃X,X=be4 (B.length:Int)++(B++R):=⟨_,rfl⟩
  have d2:X.length=4+(B.length+R.length):=by rw[Z];simp[ff]
  have a1:dN X=some (B.length:Int):=by rw[Z];exact sY (by unfold U32;omega) _
  have a0:Qf.wrap (4+(B.length:Int))=((4+B.length:Nat):Int):=by rw[ak (by omega)];omega
  have s1:sub X 4 ((4+B.length:Nat):Int)=some B:=by
   have:=dV (xs:=X) (lo:=4) (hi:=4+B.length) (by omega) (by omega);rw[show((4:Nat):Int)=4 from rfl] at this;rw[this,Z,←Q6,Z3 (by simp[ff]),Z4 (ff _)]
  have s2:sub X ((4+B.length:Nat):Int) (X.length:Int)=some R:=by
   rw[fQ (by omega),Z,←Q6,Z4 (by simp[ff])]
  have a9:iw B (T.length:Int)=some (kA cols n T,true):=by
   have c3:∀v∈kA cols n T,Rgt v:=λv W=>by
    obtain⟨x,hx,rfl⟩:=Z1.1 W;exact B8 J hx n
   have:=ER (kind:=k9 cols kinds n) c3 a5;rw[←hB] at this;rw[show(kA cols n T).length=T.length by simp[kA]] at this;exact this
  rw[←Z];unfold fP;dsimp only;rw[ak (by omega),if_pos (by simp;omega),if_neg (by simp;omega),a1,qk,a0,decide_eq_false (by omega)];unfold jm;rw[if_neg (by simp),a1,qk,a0,s1,qk];dsimp only;rw[a9,qk,if_neg (by simp)];dsimp only;rw[GU J (by omega),qk];unfold jl;rw[if_neg (by simp),a0,s2,qk,ak (by omega)]
  rfl
 ·show fP ((T.length:Int),fT cols kinds T (cols+3).toNat,true,⟨cols,srt,[]⟩) ((((Qe (cols+3).toNat).drop (cols+3).toNat).map (lr cols kinds T)).flatten) ((cols+3).toNat:Int) (T.map (tkV cols (cols+3).toNat))=_
  have hT:T.map (tkV cols (cols+3).toNat)=T:=by
   rw[Zn (g:=id) (λv hm=>?_),List.map_id];obtain⟨h1,h2⟩:=J.ok v hm;exact JH a2.1 (q9 h1 h2).2.1
  rw[hT,Qc (by simp)];unfold fP;dsimp only;rw[ak (by omega),if_neg (by simp;omega)];have b2:Rok T:=λv hm=>(W v hm).len;obtain⟨T',h1,h2⟩:=yw (cs:=srt) (xs:=T) (by omega) (by omega) b2;obtain rfl:=h2.unique (fg srt) (Stb.refl hS)
  have b0:gp (some ⟨cols,srt,T'⟩)=some true:=by
   unfold gp;simp only[qk];rw[h1,qk,xL (by omega)]
   rfl
  unfold k8;rw[if_neg (by simp)];simp only[qk];rw[sW (by omega) W,qk,OA.2 h,if_neg (by simp),b0,qk]
  rfl
set_option linter.unusedVariables false
set_option linter.unusedSimpArgs false
def atB (l:List aa)(id:aK):Option Nat:=l.findIdx? λv=>decide (v.fId=id)
theorem ES {l:List aa}{id:aK}(h:l.length<=1048576):eh l (λy=>cI y id)=some (((atB l id).map λi:Nat=>(i:Int)).getD (-1)):=by
  unfold eh
  have key:∀k i:Nat,i+k=l.length->au (λs:Int=>dw l (λy=>cI y id) s) (i:Int)=some (((atB (l.drop i) id).map λj=>((i+j:Nat):Int)).getD (-1)):=by
    intro k
    induction k with
    | zero=>
      intro i hi;rw[Qc (by omega)];apply aT;simp only[dw];rw[if_neg (by simp;omega)];rfl
    | succ k ih=>
      intro i hi;have J:i<l.length:=by omega
      unfold atB;rw[Q1 J,List.findIdx?_cons]
      by_cases he:l[i].fId=id
      · rw[if_pos (by simpa using he)]
        apply aT;simp only[dw];rw[if_pos (by simpa using J),aH J,qk];simp only[cI];rw[qk,if_pos (by simpa using he)];simp
      · rw[if_neg (by simpa using he)]
        rw[bK (s':=((i+1:Nat):Int))]
        · rw[ih (i+1) (by omega)]
          unfold atB;cases (l.drop (i+1)).findIdx? λv=>decide (v.fId=id) with
          |none=>rfl
          |some j=>simp only[Xa,Option.getD_some];congr 1;omega
        · simp only[dw]
          rw[if_pos (by simpa using J),aH J,qk];simp only[cI];rw[qk,if_neg (by simpa using he),ak (by omega)];rfl
  have:=key l.length 0 (by omega);rw[Qq] at this;simpa using this
theorem Is {f:aw}{id:aK}(h:f.fL.length<=1048576):fX (some f) id=some (((atB f.fL id).map λi:Nat=>(i:Int)).getD 0,(atB f.fL id).isSome):=by
  unfold fX;rw[qk,ES h,qk];cases atB f.fL id with
  |none=>rfl
  | some i=>
    simp only[Xa,Option.getD_some,Option.isSome_some];rw[if_neg (by omega),decide_eq_true (by omega)]
theorem ET:qc=some true:=by
  let v1:aa:=⟨⟨1,0⟩,[⟨2,false,2,[]⟩],0⟩
  let v2:aa:=⟨⟨2,0⟩,[⟨2,false,1,[]⟩],0⟩
  have ok:∀(e n:Int),0<=e->e<10->0<=n->n<10->lZ ⟨⟨e,0⟩,[⟨2,false,n,[]⟩],0⟩:=by
    intro e n h1 W h3 h4;refine⟨by dsimp only;omega,by dsimp only;omega,by dsimp only;omega,?_,by simp⟩;intro x hx;have:x=io n:=by simpa using hx
    subst this;exact(Rgt.int n (by unfold cL;omega)).ok
  have J:∀v∈[v1,v2],lZ v:=by
    intro v J;simp only[Z8,List.not_mem_nil,or_false] at J;rcases J with rfl|rfl
    ·exact ok 1 2 (by omega) (by omega) (by omega) (by omega)
    ·exact ok 2 1 (by omega) (by omega) (by omega) (by omega)
  have Z:nW 1 [0] [v1,v2]:=OA.1 (by decide);rcases wK (cols:=1) (srt:=[0]) (kinds:=[]) (by simp) (by simp) J with⟨h,_⟩|⟨_,T,W,hC,hw⟩
  ·exact absurd (OA.2 Z) h
  have hi:Stb (qlt [0]) ([]++[v1]++[v2]) ([]++v2::[v1]):=Stb.ins (fg [0]) (by simp[Srt]) (by
    intro s hs
    rw[Zb] at hs;subst hs;decide) (by simp)
  obtain rfl:T=[v2,v1]:=Stb.unique (fg [0]) W hi;have hr:=AY (kinds:=[]) (Z.stb W) (λv hm=>J v ((W.mem (fg [0])).1 hm)) W.srt (by simp);unfold qc;rw[hw,qk,hr,qk,if_neg (by simp),if_neg (by simp)];unfold oO;dsimp only;rw[if_neg (by simp),Is (by simp),qk]
  rfl
structure AZ (c:bY):Prop where
  so:c.fSort.length<=1048576
  ki:c.fKinds.length<=1048576
  le:c.fL.length<=1048576
  ok:∀v∈c.fL,lZ v
set_option linter.unusedVariables false
set_option linter.unusedSimpArgs false
theorem yC {f:aw}(n:Nat)(Z:n<=f.fL.length)(h:f.fL.length<=1048576)(J:Rok f.fL):dR (some f) (n:Int)=some (f.fL.drop n):=by
 unfold dR dI c9;rw[qk,fQ Z,qk]
 have:au (λs:Int×List aa=>cc (λ(s:List aa) x=>some (s++[x],true)) (f.fL.drop n) s.1 s.2) (0,[])=some (f.fL.drop n):=by
  refine jq (λi=>((i:Int),(f.fL.drop n).take i)) (f.fL.drop n).length (by simp) (λi hi=>?_) ?_
  ·simp only[cc]
   have W:(f.fL.drop n)[i]∈f.fL:=List.mem_of_mem_drop (Q2 hi);have hl:(f.fL.drop n).length<=f.fL.length:=by simp
   rw[if_pos (by simpa using hi),aH hi,qk,own_eq (J _ W),qk,qk,if_neg (by simp),ak (by omega),jr hi]
   rfl
  ·simp only[cc]
   rw[if_neg (by simp),Qb]
 rw[this];rfl
theorem JJ {f:aw}(h:f.fL.length<=1048576)(J:Rok f.fL):cS (some f)=some f.fL:=by
 unfold cS;have:=yC (f:=f) 0 (by omega) h J;rw[show((0:Nat):Int)=0 from rfl] at this;rw[this];rfl
theorem GX:dH []=some (none,80):=by
 unfold dH;rw[if_pos (by decide)];rfl
theorem Di {c:bY}(h:AZ c)(kinds:List Int)(hk:kinds.length<=1048576):(∃e,e≠0/\e=sV c.fColumns c.fSort c.fL/\dG c.fColumns c.fSort kinds c.fL=some ([],e)/\dH []=some (none,80))\/
  (∃T,nW c.fColumns c.fSort T/\Stb (qlt c.fSort) c.fL T/\sV c.fColumns c.fSort c.fL=0/\(∀v∈T,lZ v)/\Rok T/\T.length=c.fL.length/\T.length<=4096/\dG c.fColumns c.fSort kinds c.fL=some (nr c.fColumns c.fSort kinds T,0)/\dH (nr c.fColumns c.fSort kinds T)=some (some ⟨c.fColumns,c.fSort,T⟩,0)):=by
 rcases wK (cols:=c.fColumns) (kinds:=kinds) h.so hk h.ok with⟨h1,h2⟩|⟨hA,T,hS,hC,h1⟩
 ·exact .inl ⟨_,h1,rfl,h2,GX⟩
 ·have Z:∀v∈T,lZ v:=λv J=>h.ok v ((hS.mem (fg c.fSort)).1 J)
  have W:=hA.stb hS;exact .inr ⟨T,W,hS,OA.2 hA,Z,λv J=>(Z v J).len,hS.len (fg c.fSort),W.le,h1,AY W Z hS.srt hk⟩
set_option linter.unusedVariables false
set_option linter.unusedSimpArgs false
theorem A0 {O:Type}{lt:O->O->Bool}:∀A k:List O,lexL lt (A.take k.length) k=lexL lt A k
 |A,[]=>by cases A<;>rfl
 |[],_::_=>rfl
 |a::x,b::y=>by simp only[Q9,List.take_succ_cons,lexL,A0 x y]
def mJ (srt:List Int)(k:List Ap)(T:List aa)(i:Nat):Bool:=match T[i]? with
 |none=>false
 |some v=>rlt (da srt v.fRow) k
theorem wL {srt:List Int}{k:List Ap}{T:List aa}(h:Srt (qlt srt) T){i j:Nat}(a0:i<=j)(J:mJ srt k T j=true):mJ srt k T i=true:=by
 rcases Nat.eq_or_lt_of_le a0 with rfl|hlt
 ·exact J
 unfold mJ at J ⊢
 by_cases hj:j<T.length
 ·rw[Q0 hj] at J
  rw[Q0 (by omega)];have W:=Z6.1 h i j (by omega) hj hlt;cases hi:rlt (da srt T[i].fRow) k with
  |true=>exact hi
  | false=>
   have Z:rlt (da srt T[j].fRow) (da srt T[i].fRow)=false:=by
    unfold qlt nV at W;exact(Z5.1 W).1
   have h3:=Pw.inc _ _ _ Z hi;dsimp only at J;rw[h3] at J;cases J
 ·rw[List.getElem?_eq_none (by omega)] at J;cases J
theorem EU {k:List Ap}(h:k.length<=1048576):dv k=some k:=by
 unfold dv;rw[aS (by simp;omega)];rfl
theorem Bw (srt:List Int)(n:Nat)(row:List Ap):da (srt.take n) row=(da srt row).take n:=by
 simp[da,Xc]
theorem Iu (srt:List Int)(k row:List Ap):rlt (da (srt.take k.length) row) k=rlt (da srt row) k:=by
 rw[Bw];exact A0 _ _
theorem Iv {f:aw}{k:List Ap}(hl:f.fL.length<=1048576)(hr:Rok f.fL)(hs:f.fSort.length<=1048576)(hk:k.length<=1048576)(hS:Srt (qlt f.fSort) f.fL):
  ∃n,n<=f.fL.length/\(∀i,i<f.fL.length->(mJ f.fSort k f.fL i=true↔i<n))/\fY (some f) k=some (f.fL.drop n):=by
 have hb:∃s:Nat,0<=s/\s<=f.fL.length/\(s=0\/mJ f.fSort k f.fL (s - 1)=true)/\(s=f.fL.length\/mJ f.fSort k f.fL s=false)/\cW f.fL k (λa0 W=>cg a0 W (f.fSort.take k.length))=(dF f.fL k (λa0 W=>cg a0 W (f.fSort.take k.length)) s):=by
  unfold cW;refine uM (mJ f.fSort k f.fL) 0 f.fL.length _ (λlo hi _ J Z=>?_) (λs _ J=>?_) (Nat.zero_le _)
  ·simp only[eY]
   have hm:(lo+hi)/2<f.fL.length:=by omega
   have hc:((lo:Int)+(hi:Int))/2=(((lo+hi)/2:Nat):Int):=by omega
   rw[if_pos (by simpa using J),rW (by omega),hc,aH hm,qk];unfold cg;rw[wJ (by simp;omega),qk,sS (by rw[nB];simp;omega) (by omega),qk,AL,Iu]
   have hg:mJ f.fSort k f.fL ((lo+hi)/2)=rlt (da f.fSort f.fL[(lo+hi)/2].fRow) k:=by
    unfold mJ;rw[Q0 hm]
   rw[hg];cases rlt (da f.fSort f.fL[(lo+hi)/2].fRow) k with
   |true=>
    rw[if_pos rfl,if_pos rfl,qk,if_pos (by decide),ak (by omega)];rfl
   |false=>
    rw[if_neg (by simp),if_neg (by simp),qk,if_neg (by decide)]
  ·simp only[eY]
   rw[if_neg (by simp)]
 obtain⟨n,_,hn,J,Z,h3⟩:=hb;refine⟨n,hn,λi hi=>⟨λh=>?_,λh=>?_⟩,?_⟩
 ·rcases Z with rfl|Z
  ·exact hi
  ·refine Nat.lt_of_not_le λa1=>?_
   rw[wL hS a1 h] at Z;cases Z
 ·rcases J with rfl|J
  ·omega
  ·exact wL hS (by omega) J
 ·have hj:dF f.fL k (λa0 W=>cg a0 W (f.fSort.take k.length)) n=some ((n:Int),false):=by
   unfold dF eX
   by_cases hlt:n<f.fL.length
   ·rw[if_pos (by simpa using hlt),aH hlt,qk]
    unfold cg;dsimp only;rw[wJ (by simp;omega),qk,sS (by rw[nB];simp;omega) (by omega),qk,AL];cases rlt (da (f.fSort.take k.length) f.fL[n].fRow) k with
    |true=>rw[if_pos rfl,qk];rfl
    |false=>rw[if_neg (by simp),qk];rfl
   ·rw[if_neg (by simpa using hlt)]
  have a2:sub f.fSort 0 (if (k.length:Int)<(f.fSort.length:Int) then (k.length:Int) else (f.fSort.length:Int))=some (f.fSort.take k.length):=by
   by_cases hlt:k.length<f.fSort.length
   ·rw[if_pos (by omega)]
    have:=dV (xs:=f.fSort) (lo:=0) (hi:=k.length) (by omega) (by omega);rw[show((0:Nat):Int)=0 from rfl] at this;rw[this,Qq]
   ·rw[if_neg (by omega)]
    have:=dV (xs:=f.fSort) (lo:=0) (hi:=f.fSort.length) (by omega) (by omega);rw[show((0:Nat):Int)=0 from rfl] at this;rw[this,Qq,Qb,Q3 (by omega)]
  unfold fY;rw[EU hk,qk];simp only[qk];rw[a2,qk,h3,hj,qk,yC n hn hl hr]
  rfl
theorem JK {l:List aa}(h:l.length<=1048576):mG l=some l:=by
 unfold mG
 have key:∀(xs out:List aa),out.length+xs.length<=1048576->cD (λ(s:List aa) (x:aa)=>lm s x) out xs=some (out++xs,true):=by
  intro xs
  induction xs with
  |nil=>intro out _;simp[cD]
  | cons x xs ih=>
   intro out J;simp only[Q9] at J
   have W:lm out x=some (out++[x],true):=by
    unfold lm;rw[aS (by simp;omega),qk]
   simp only[cD];rw[W,qk,if_pos rfl,ih _ (by simp;omega)];simp
 rw[key l [] (by simpa using h)]
 rfl
set_option linter.unusedVariables false
theorem EW {c:bY}{ks:List Int}{n:Int}(h:AZ c)(hk:ks.length<=1048576):lT c ks n=some true:=by
 have hf:∀(xs:List aa) (s:Int),∃r,cD (λ(s:Int) (x:aa)=>fZ n s x) s xs=some r:=by
  intro xs
  induction xs with
  |nil=>exact λs=>⟨_,rfl⟩
  |cons x xs ih=>
   intro s;simp only[cD,fZ];cases (s==n) with
   |true=>exact⟨_,rfl⟩
   |false=>exact ih _
 have hs:=h.so;have hc:=h.le;unfold lT;rw[ET,qk,if_neg (by simp)];rcases Di h c.fKinds h.ki with⟨e,h1,W,h2,h3⟩|⟨T,hA,a2,W,hv,hr,hl,b3,h2,h3⟩
 ·rcases Di h ks hk with⟨e',a4,J,Z,a1⟩|⟨T,_,_,J,_⟩
  ·rw[h2,qk,Z,qk,if_pos (by simpa using h1),W,J];simp
  ·exact absurd (W.trans J) h1
 ·rcases Di h ks hk with⟨e',a4,J,Z,a1⟩|⟨T',b7,a5,J,b2,b4,b5,b6,Z,a1⟩
  ·exact absurd (J.trans W) a4
  ·obtain⟨T3,h4,h5⟩:=AQ (cs:=c.fSort) (xs:=c.fL) hs hc
   obtain rfl:=a2.unique (fg c.fSort) a5;obtain rfl:=a2.unique (fg c.fSort) h5;have a0:T.length<=1048576:=by omega
   obtain⟨q,hq,b1,hF⟩:=Iv (f:=⟨c.fColumns,c.fSort,T⟩) (k:=[]) a0 hr hs (by simp) a2.srt
   have b0:q=0:=by
    refine Nat.eq_zero_of_not_pos λhp=>?_;have:=(b1 0 (by dsimp only at hq ⊢;omega)).2 hp;unfold mJ at this;rw[Q0 (by dsimp only at hq ⊢;omega)] at this;dsimp only at this;generalize da c.fSort _=A at this;cases A<;>simp[rlt,lexL] at this
   subst b0;have a3:=JJ (f:=⟨c.fColumns,c.fSort,T⟩) a0 hr;obtain⟨r,a9⟩:=hf T 0;have a6:=uQ a0 hr;rw[h2,qk,Z,qk,if_neg (by simp),h3,qk,a1,qk,if_neg (by simp),if_neg (by simp),if_neg (by simp),if_neg (by simp)];unfold dO;dsimp only at hF ⊢;rw[if_neg (by simp),a3,qk,a9,qk,h4,qk];simp only[qk,a3,JK a0,a6,hF,Qq,if_true,f7,f8];split<;>rfl
set_option maxRecDepth 100000
set_option linter.unusedSimpArgs false
open Go.Proofs Tryz
theorem mixed:prog.follows .mixedOrders=true:=by kernel_rfl
def Ap.pr (x:Ap):Int×Bool×Int×List Int:=(x.fKind,x.fBool,x.fInt,x.fText)
def kAp:Kd Ap:=pf Ap.pr (bF (ai .i64) (bF cm (bF (ai .i64) pd)))
theorem JL:Fld kAp (ai .i64) 0 (λx=>x.fKind):=cx dX
theorem EX:StF kAp (ai .i64) 0 (λx y=>{ x with fKind:=y }):=cy em (λ_ _=>rfl)
theorem JM:Fld kAp cm 1 (λx=>x.fBool):=cx (bA dX)
theorem JN:StF kAp cm 1 (λx y=>{ x with fBool:=y }):=cy (bq em) (λ_ _=>rfl)
theorem JO:Fld kAp (ai .i64) 2 (λx=>x.fInt):=cx (bA (bA dX))
theorem JP:StF kAp (ai .i64) 2 (λx y=>{ x with fInt:=y }):=cy (bq (bq em)) (λ_ _=>rfl)
theorem JQ:Fld kAp pd 3 (λx=>x.fText):=cx (bA (bA (bA jY)))
theorem JR:StF kAp pd 3 (λx y=>{ x with fText:=y }):=cy (bq (bq (bq bp))) (λ_ _=>rfl)
def aM.pr (x:aM):Int×Ap:=(x.fMany,x.fValue)
def bR:Kd aM:=pf aM.pr (bF (ai .i64) kAp)
theorem Iw:Fld bR (ai .i64) 0 (λx=>x.fMany):=cx dX
theorem xM:StF bR (ai .i64) 0 (λx y=>{ x with fMany:=y }):=cy em (λ_ _=>rfl)
theorem Ix:Fld bR kAp 1 (λx=>x.fValue):=cx (bA jY)
theorem Cb:StF bR kAp 1 (λx y=>{ x with fValue:=y }):=cy (bq bp) (λ_ _=>rfl)
def bm.pr (x:bm):Int×Int×Ap×Ap×Int×Int:=(x.fKind,x.fMany,x.fMin,x.fMax,x.fNulls,x.fBytes)
def cw:Kd bm:=pf bm.pr (bF (ai .i64) (bF (ai .i64) (bF kAp (bF kAp (bF (ai .i64) (ai .i64))))))
theorem JS:Fld cw (ai .i64) 0 (λx=>x.fKind):=cx dX
theorem EY:StF cw (ai .i64) 0 (λx y=>{ x with fKind:=y }):=cy em (λ_ _=>rfl)
theorem JT:Fld cw (ai .i64) 1 (λx=>x.fMany):=cx (bA dX)
theorem EZ:StF cw (ai .i64) 1 (λx y=>{ x with fMany:=y }):=cy (bq em) (λ_ _=>rfl)
theorem JU:Fld cw kAp 2 (λx=>x.fMin):=cx (bA (bA dX))
theorem E0:StF cw kAp 2 (λx y=>{ x with fMin:=y }):=cy (bq (bq em)) (λ_ _=>rfl)
theorem JV:Fld cw kAp 6 (λx=>x.fMax):=cx (bA (bA (bA dX)))
theorem E1:StF cw kAp 6 (λx y=>{ x with fMax:=y }):=cy (bq (bq (bq em))) (λ_ _=>rfl)
theorem JW:Fld cw (ai .i64) 10 (λx=>x.fNulls):=cx (bA (bA (bA (bA dX))))
theorem E2:StF cw (ai .i64) 10 (λx y=>{ x with fNulls:=y }):=cy (bq (bq (bq (bq em)))) (λ_ _=>rfl)
theorem JX:Fld cw (ai .i64) 11 (λx=>x.fBytes):=cx (bA (bA (bA (bA (bA jY)))))
theorem JY:StF cw (ai .i64) 11 (λx y=>{ x with fBytes:=y }):=cy (bq (bq (bq (bq (bq bp))))) (λ_ _=>rfl)
def Eb.pr (x:Eb):Int×Ap:=(x.fMany,x.fValue)
def BT.pr (x:BT):Int×Int×Ap×Ap×Int×Int:=(x.fKind,x.fMany,x.fMin,x.fMax,x.fNulls,x.fBytes)
def ah.pr (x:ah):List Int×Bool:=(x.fB,x.fOk)
def iz:Kd ah:=pf ah.pr (bF (kSl (ai .u8)) cm)
theorem Iy:Fld iz (kSl (ai .u8)) 0 (λx=>x.fB):=cx dX
theorem Iz:StF iz (kSl (ai .u8)) 0 (λx y=>{ x with fB:=y }):=cy em (λ_ _=>rfl)
theorem IA:Fld iz cm 1 (λx=>x.fOk):=cx (bA jY)
theorem IB:StF iz cm 1 (λx y=>{ x with fOk:=y }):=cy (bq bp) (λ_ _=>rfl)
def aK.pr (x:aK):Int×Int:=(x.fEpoch,x.fNumber)
def br:Kd aK:=pf aK.pr (bF (ai .u64) (ai .u32))
theorem JZ:Fld br (ai .u64) 0 (λx=>x.fEpoch):=cx dX
theorem E3:StF br (ai .u64) 0 (λx y=>{ x with fEpoch:=y }):=cy em (λ_ _=>rfl)
theorem J0:Fld br (ai .u32) 1 (λx=>x.fNumber):=cx (bA jY)
theorem E4:StF br (ai .u32) 1 (λx y=>{ x with fNumber:=y }):=cy (bq bp) (λ_ _=>rfl)
def aa.pr (x:aa):aK×List Ap×Int:=(x.fId,x.fRow,x.fDeleted)
def ae:Kd aa:=pf aa.pr (bF br (bF (kSl kAp) (ai .u64)))
theorem wM:Fld ae br 0 (λx=>x.fId):=cx dX
theorem A3:StF ae br 0 (λx y=>{ x with fId:=y }):=cy em (λ_ _=>rfl)
theorem J1:Fld ae (kSl kAp) 2 (λx=>x.fRow):=cx (bA dX)
theorem E5:StF ae (kSl kAp) 2 (λx y=>{ x with fRow:=y }):=cy (bq em) (λ_ _=>rfl)
theorem J3:Fld ae (ai .u64) 3 (λx=>x.fDeleted):=cx (bA (bA jY))
theorem E6:StF ae (ai .u64) 3 (λx y=>{ x with fDeleted:=y }):=cy (bq (bq bp)) (λ_ _=>rfl)
def aw.pr (x:aw):Int×List Int×List aa:=(x.fColumns,x.fSort,x.fL)
def aL:Kd aw:=pf aw.pr (bF (ai .i64) (bF (kSl (ai .i64)) (kSl ae)))
theorem Cc:Fld aL (ai .i64) 0 (λx=>x.fColumns):=cx dX
theorem Cd:StF aL (ai .i64) 0 (λx y=>{ x with fColumns:=y }):=cy em (λ_ _=>rfl)
theorem sa:Fld aL (kSl (ai .i64)) 1 (λx=>x.fSort):=cx (bA dX)
theorem Ce:StF aL (kSl (ai .i64)) 1 (λx y=>{ x with fSort:=y }):=cy (bq em) (λ_ _=>rfl)
theorem oE:Fld aL (kSl ae) 2 (λx=>x.fL):=cx (bA (bA jY))
theorem IC:StF aL (kSl ae) 2 (λx y=>{ x with fL:=y }):=cy (bq (bq bp)) (λ_ _=>rfl)
def bY.pr (x:bY):Int×List Int×List Int×List aa:=(x.fColumns,x.fSort,x.fKinds,x.fL)
def bw:Kd bY:=pf bY.pr (bF (ai .i64) (bF (kSl (ai .i64)) (bF (kSl (ai .i64)) (kSl ae))))
theorem J4:Fld bw (ai .i64) 0 (λx=>x.fColumns):=cx dX
theorem J5:StF bw (ai .i64) 0 (λx y=>{ x with fColumns:=y }):=cy em (λ_ _=>rfl)
theorem J6:Fld bw (kSl (ai .i64)) 1 (λx=>x.fSort):=cx (bA dX)
theorem J7:StF bw (kSl (ai .i64)) 1 (λx y=>{ x with fSort:=y }):=cy (bq em) (λ_ _=>rfl)
theorem J8:Fld bw (kSl (ai .i64)) 2 (λx=>x.fKinds):=cx (bA (bA dX))
theorem J9:StF bw (kSl (ai .i64)) 2 (λx y=>{ x with fKinds:=y }):=cy (bq (bq em)) (λ_ _=>rfl)
theorem Ka:Fld bw (kSl ae) 3 (λx=>x.fL):=cx (bA (bA (bA jY)))
theorem Kb:StF bw (kSl ae) 3 (λx y=>{ x with fL:=y }):=cy (bq (bq (bq bp))) (λ_ _=>rfl)
def BU.pr (x:BU):Int×List Int×List aa:=(x.fColumns,x.fSort,x.fL)
theorem A4:nF prog 32 4 40:=⟨⟨t32,_,type32,rfl,rfl,rfl,rfl⟩⟩
theorem eF:cR prog 32 kAp:=⟨sizeOf32,isAgg32⟩
def ui:List Value:=[.int .i64 0,.bool false,.int .i64 0,.string (bts [])]
theorem pk:∀m,kAp.R m ui Ap.zero:=λ_=>⟨⟨rfl,ay (by decide)⟩,⟨rfl,⟨⟨rfl,ay (by decide)⟩,⟨rfl,(by decide),(by decide)⟩⟩⟩⟩
theorem A5:dz prog 32 0 0:=du underlying32 rfl sizeOf3 (by decide) rfl
theorem ty3:cR prog 3 (ai .i64):=⟨sizeOf3,isAgg3⟩
theorem Kc {m:M}{cs:List Value}{x:Ap}(h:kAp.R m cs x):cs=[.int .i64 x.fKind,.bool x.fBool,.int .i64 x.fInt,.string (bts x.fText)]/\(∀n∈x.fText,0<=n/\n<256):=by
 obtain⟨h0,W,Z,J⟩:=h;refine⟨?_,J.2.1⟩;rw[←Q5 1 cs,show(cs).take 1=_ from h0.1,←Q5 1 ((cs).drop 1),show((cs).drop 1).take 1=_ from W,←Q5 1 (((cs).drop 1).drop 1),show(((cs).drop 1).drop 1).take 1=_ from Z.1,show(((cs).drop 1).drop 1).drop 1=_ from J.1]
 rfl
theorem xN:u7 prog 32 kAp:=by
 refine⟨λm cs ds x y d w Z h=>?_,λop o o' cs ds w=>?_⟩
 ·obtain⟨rfl,J⟩:=Kc Z
  obtain⟨rfl,W⟩:=Kc h;have e:x=y↔x.fKind=y.fKind/\x.fBool=y.fBool/\x.fInt=y.fInt/\x.fText=y.fText:=by cases x;cases y;simp
  show(Op.equalIn (d+20) 32 (.agg #[_,_,_,_]) (.agg #[_,_,_,_])).run _ _=_;rw[run_equalIn_struct w (d+19) 32 _ _ underlying32 stoodInHeld32];simp only[Program.fieldsOf,underlying32,Op.eqFields];simp[part,run_equalIn_int,run_equalIn_bool',run_equalIn_string,wY J W]
  repeat' split
  all_goals simp_all
 ·show(eqGuard op 32 o o' (.agg _) (.agg _)).run _ _=_
  cases op<;>simp[eqGuard]
theorem Ke:dz prog 32 1 1:=du underlying32 rfl sizeOf4 (by decide) rfl
theorem sc:dz prog 32 2 2:=du underlying32 rfl sizeOf2 (by decide) rfl
theorem ty2:cR prog 2 (ai .i64):=⟨sizeOf2,isAgg2⟩
theorem Kf:dz prog 32 3 3:=du underlying32 rfl sizeOf9 (by decide) rfl
theorem el2:nF prog 2 1 8:=⟨⟨t2,_,type2,rfl,rfl,rfl,rfl⟩⟩
theorem Cf:dz prog 187 1 1:=du underlying187 rfl sizeOf32 (by decide) rfl
theorem xO:dz prog 187 0 0:=du underlying187 rfl sizeOf3 (by decide) rfl
def Nc:List Value:=[.int .i64 0,.int .i64 0,.bool false,.int .i64 0,.string (bts [])]
theorem Dj:∀m,bR.R m Nc aM.zero:=λ_=>⟨⟨rfl,ay (by decide)⟩,⟨⟨rfl,ay (by decide)⟩,⟨rfl,⟨⟨rfl,ay (by decide)⟩,⟨rfl,(by decide),(by decide)⟩⟩⟩⟩⟩
theorem Hn:nF prog 187 5 48:=⟨⟨t187,_,type187,rfl,rfl,rfl,rfl⟩⟩
def zc5:List Value:=[.int .u8 0]
theorem zr5:∀m,(ai .u8).R m zc5 0:=λ_=>⟨rfl,ay (by decide)⟩
def Dk:List Value:=(Qa 8 zc5).flatten
theorem Nd:∀m b,GS (ai .u8) m b Dk (.slice (some ⟨b,0,none⟩) 8 8) (Qa 8 0):=λ_ _=>GS.zero zr5 rfl
theorem ty5:cR prog 5 (ai .u8):=⟨sizeOf5,isAgg5⟩
theorem el5:nF prog 5 1 1:=⟨⟨t5,_,type5,rfl,rfl,rfl,rfl⟩⟩
theorem Nf:cR prog 187 bR:=⟨sizeOf187,isAgg187⟩
theorem Kg:cR prog 54 (ai .u64):=⟨sizeOf54,isAgg54⟩
theorem Kh:nF prog 54 1 8:=⟨⟨t54,_,type54,rfl,rfl,rfl,rfl⟩⟩
theorem rq:cR prog 22 (kSl kAp):=⟨sizeOf22,isAgg22⟩
def sZ:List Value:=[.int .i64 0,.int .i64 0,.int .i64 0,.bool false,.int .i64 0,.string (bts []),.int .i64 0,.bool false,.int .i64 0,.string (bts []),.int .i64 0,.int .i64 0]
theorem vE:∀m,cw.R m sZ bm.zero:=λ_=>⟨⟨rfl,ay (by decide)⟩,⟨⟨rfl,ay (by decide)⟩,⟨⟨⟨rfl,ay (by decide)⟩,⟨rfl,⟨⟨rfl,ay (by decide)⟩,⟨rfl,(by decide),(by decide)⟩⟩⟩⟩,⟨⟨⟨rfl,ay (by decide)⟩,⟨rfl,⟨⟨rfl,ay (by decide)⟩,⟨rfl,(by decide),(by decide)⟩⟩⟩⟩,⟨⟨rfl,ay (by decide)⟩,⟨rfl,ay (by decide)⟩⟩⟩⟩⟩⟩
theorem vF:cR prog 34 cw:=⟨sizeOf34,isAgg34⟩
theorem uj:dz prog 34 4 10:=du underlying34 rfl sizeOf3 (by decide) rfl
theorem ON:cR prog 55 (ai .u32):=⟨sizeOf55,isAgg55⟩
theorem E7:dz prog 34 1 1:=du underlying34 rfl sizeOf3 (by decide) rfl
theorem A6:dz prog 34 2 2:=du underlying34 rfl sizeOf32 (by decide) rfl
theorem A7:dz prog 34 3 6:=du underlying34 rfl sizeOf32 (by decide) rfl
theorem wN:dz prog 34 5 11:=du underlying34 rfl sizeOf3 (by decide) rfl
theorem ID:dz prog 161 0 0:=du underlying161 rfl sizeOf24 (by decide) rfl
theorem GY:cR prog 24 (kSl (ai .u8)):=⟨sizeOf24,isAgg24⟩
theorem IE:dz prog 161 1 1:=du underlying161 rfl sizeOf4 (by decide) rfl
def Ng:List Value:=[.slice none 0 0,.bool false]
theorem Ho:∀m,iz.R m Ng ah.zero:=λ_=>⟨⟨none,0,0,rfl,rfl,Qg _,(by decide),rfl⟩,rfl⟩
theorem A8:dz prog 34 0 0:=du underlying34 rfl sizeOf3 (by decide) rfl
def zc3:List Value:=[.int .i64 0]
theorem zr3:∀m,(ai .i64).R m zc3 0:=λ_=>⟨rfl,ay (by decide)⟩
theorem pn:cR prog 59 ae:=⟨sizeOf59,isAgg59⟩
def vG:List Value:=[.int .u64 0,.int .u32 0,.slice none 0 0,.int .u64 0]
theorem s4:∀m,ae.R m vG aa.zero:=λ_=>⟨⟨⟨rfl,ay (by decide)⟩,⟨rfl,ay (by decide)⟩⟩,⟨⟨none,0,0,rfl,rfl,Qg _,(by decide),rfl⟩,⟨rfl,ay (by decide)⟩⟩⟩
theorem mK:dz prog 59 1 2:=du underlying59 rfl sizeOf22 (by decide) rfl
theorem GZ:nF prog 59 4 48:=⟨⟨t59,_,type59,rfl,rfl,rfl,rfl⟩⟩
theorem E8:dz prog 57 0 0:=du underlying57 rfl sizeOf54 (by decide) rfl
theorem E9:dz prog 57 1 1:=du underlying57 rfl sizeOf55 (by decide) rfl
theorem lu:cR prog 49 (kSl (ai .i64)):=⟨sizeOf49,isAgg49⟩
theorem pa:dz prog 59 0 0:=du underlying59 rfl sizeOf57 (by decide) rfl
theorem vH:cR prog 57 br:=⟨sizeOf57,isAgg57⟩
theorem Fa:dz prog 59 2 3:=du underlying59 rfl sizeOf54 (by decide) rfl
theorem G0 {m:M}{cs:List Value}{x:aK}(h:br.R m cs x):cs=[.int .u64 x.fEpoch,.int .u32 x.fNumber]:=by
 obtain⟨W,J⟩:=h
 skip
 rw[←Q5 1 cs,show(cs).take 1=_ from W.1,show(cs).drop 1=_ from J.1]
 rfl
theorem Ki:u7 prog 57 br:=by
 refine⟨λm cs ds x y d w J h=>?_,λop o o' cs ds w=>?_⟩
 ·obtain rfl:=G0 J
  obtain rfl:=G0 h;have e:x=y↔x.fEpoch=y.fEpoch/\x.fNumber=y.fNumber:=by cases x;cases y;simp
  show(Op.equalIn (d+20) 57 (.agg #[_,_]) (.agg #[_,_])).run _ _=_;rw[run_equalIn_struct w (d+19) 57 _ _ underlying57 stoodInHeld57];simp only[Program.fieldsOf,underlying57,Op.eqFields];simp[part,run_equalIn_int,run_equalIn_bool',run_equalIn_string]
  repeat' split
  all_goals simp_all
 ·show(eqGuard op 57 o o' (.agg _) (.agg _)).run _ _=_
  cases op<;>simp[eqGuard]
theorem Nh:laidOutB prog=true:=by kernel_rfl
def A9 (x:aK):Value:= .agg #[.int .u64 x.fEpoch,.int .u32 x.fNumber]
theorem Kj {m:M}{v:Value}{x:aK}(h:RV br m v x):v=A9 x:=by
 obtain⟨cs,h,rfl⟩:=h;obtain rfl:=G0 h
 rfl
theorem OO {m:M}{v:Value}{x:aK}(h:RV br m v x):∃l,keyOf prog 57 v=some l:=by
 rw[Kj h];obtain⟨cs,h,rfl⟩:=h;obtain⟨W,J⟩:=h;exact DP (d:=250) underlying57 (by decide) underlying54 underlying55 rfl rfl (by kernel_rfl) (by kernel_rfl) (by kernel_rfl) (by kernel_rfl) (by kernel_rfl) (Ha W.2) (Ha J.2)
theorem OP {x y:aK}(h:A9 x=A9 y):x=y:=by
 obtain⟨J,W⟩:=x;obtain⟨Z,b1⟩:=y;simp[A9] at h;simp[h]
noncomputable def Dl:zF prog 57 br:=⟨A9,Kj,OP,deep_law_laid Nh (m:=2) (by omega) (of_decide_eq_true (by kernel_rfl)) (by kernel_rfl) (by rw[underlying57]),OO⟩
def ra:List Value:=[.int .i64 0,.slice none 0 0,.slice none 0 0]
theorem y9:∀m,aL.R m ra aw.zero:=λ_=>⟨⟨rfl,ay (by decide)⟩,⟨⟨none,0,0,rfl,rfl,Qg _,(by decide),rfl⟩,⟨none,0,0,rfl,rfl,Qg _,(by decide),rfl⟩⟩⟩
theorem Ni:cR prog 178 kA4:=⟨sizeOf178,isAgg178⟩
theorem Nj:u7 prog 178 kA4:=OF underlying178 type5 (by kernel_rfl) underlying5 isAgg5 (by kernel_rfl)
theorem nC:dz prog 120 0 0:=du underlying120 rfl sizeOf3 (by decide) rfl
theorem l6:dz prog 120 1 1:=du underlying120 rfl sizeOf49 (by decide) rfl
theorem el3:nF prog 3 1 8:=⟨⟨t3,_,type3,rfl,rfl,rfl,rfl⟩⟩
theorem l7:dz prog 120 2 2:=du underlying120 rfl sizeOf50 (by decide) rfl
theorem oF:cR prog 50 (kSl ae):=⟨sizeOf50,isAgg50⟩
def OQ:List Value:=[.int .u64 0,.int .u32 0]
theorem Kl:∀m,br.R m OQ aK.zero:=λ_=>⟨⟨rfl,ay (by decide)⟩,⟨rfl,ay (by decide)⟩⟩
theorem uk:dz prog 62 3 3:=du underlying62 rfl sizeOf50 (by decide) rfl
theorem Ba:dz prog 62 0 0:=du underlying62 rfl sizeOf3 (by decide) rfl
theorem ul:dz prog 62 1 1:=du underlying62 rfl sizeOf49 (by decide) rfl
theorem Fb:dz prog 62 2 2:=du underlying62 rfl sizeOf49 (by decide) rfl
theorem Km:cR prog 65 (kPt aL):=⟨sizeOf65,isAgg65⟩
theorem OR:nF prog 22 1 24:=⟨⟨t22,_,type22,rfl,rfl,rfl,rfl⟩⟩
open Go.Proofs Go.Shelf Go.Lib
open Go.Sort (putRowK flatK HoldsK SWO PermIn SortedIn)
section
variable {P:Program}{W0:Bse}{m:M}{L:List (Nat×List Value)}{TL:List (Nat×Value)}{w:World}{O:Type}{k:Kd O}{b:Nat}{cs:List Value}{xs:List O}
theorem S.rebase (h:S W0 m w L TL):S ⟨w,λ_=>none⟩ m w [] []:=
 ⟨⟨Bel.refl _ _,λk o h=>by cases h⟩,h.imm,λi e J=>by simp at J,λi j e e' J=>by simp at J,λi e J=>by simp at J,λi j e e' J=>by simp at J⟩
theorem Kn (l:List (El k m xs)):Rl k m (l.flatMap λa=>a.1.1) (l.map λa=>a.1.2):=by
 induction l with
 |nil=>exact Rl.nil
 |cons a r ih=>exact Rl.app (Rl.single a.2.1) ih
theorem Dm {ρ:Ren}{v fv:Value}{a0:O->O->Option Int}{r:List O}(Ly:SlLaysF0.n6 P ρ)(aE:∀w,(isAgg (ρ.t 24)).run P w= .ok true w)(zE:∀w,(Go.sizeOf (ρ.t 24)).run P w= .ok k.sz w)(e0:k.agg=true)
  (hS:S W0 m w ((b,cs)::L) TL) (hg:GS k m b cs v xs) (hf:Fn2 P k k (ai .i64) m fv a0) (h:ux a0 xs=some r):
  Calls P (ρ.f 6) #[v,fv] w (Ret λ_ w'=>∃m',M.le m m'/\∃q0:List Value,S W0 m' w' ((b,q0)::L) TL/\GS k m' b q0 v r):=by
 obtain⟨g,cb,rfl,eg,c5⟩:=hf;obtain⟨a3,a9,c2⟩:=vS h;have a5:r.length=xs.length:=a9.length_eq
 by_cases hx:xs=[]
 ·subst hx
  have hr:r=[]:=Q4 a5;subst hr;obtain⟨a,cap,rfl,_⟩:=hg.val;refine(AnyF.slices_SortFunc_none Ly a cap (.func (.func g) #[] cb) w).mono ?_;rintro e w' ⟨rfl,rfl⟩;exact⟨m,M.le.refl m,cs,hS,hg⟩
 ·have e8:=hg
  obtain⟨h0,⟨rfl,_⟩|⟨cap,rfl,h2,h3,h4⟩⟩:=hg
  ·exact absurd rfl hx
  have hn:0<xs.length:=Qw.2 hx;have hp:=k.pos;have e7:xs.length*k.sz<=cap*k.sz:=Nat.mul_le_mul_right _ h2;have e9:0<xs.length*k.sz:=Nat.mul_pos hn hp;have c0:cs≠[]:=λe=>by subst e;simp at h3;omega
  obtain⟨W,b6,e5⟩:=Cn h4
  have a2:W.length=xs.length:=by
   have:=congrArg X7 b6;simpa using this
  obtain⟨hB,hm,t,ht⟩:=hS.own 0 _ rfl c0;simp only at hB hm ht;have hi:Inhabited (El k m xs):=⟨W[0]'(by omega)⟩
  have c7:b<w.heap.size:=(Array.getElem?_eq_some_iff.1 ht).1
  have b2:∀(J:Nat) (os:Array Obj) (dk:Array (El k m xs)),dk.size=xs.length->sortWorldK (λa:El k m xs=>a.1.1) k.sz w b 0 J dk os=Go.Sort.grow ((Go.Sort.ahead w J).setRow b (((dk.toList.flatMap λa=>a.1.1)++cs.drop (xs.length*k.sz)).toArray)) os:=by
   intro J os dk a6;unfold sortWorldK;rw[DK _ _ (Go.Sort.ahead w J) b cs t dk ht (by rw[a6];omega),zw,a6]
  have c1:∀(J:Nat) (os:Array Obj) (q:List Value),S W0 m (Go.Sort.grow ((Go.Sort.ahead w J).setRow b q.toArray) os) ((b,q)::L) TL:=λJ os q=>((hS.aheadN J).setL (i:=0) rfl c0 q).more os;have e4:∀x y:El k m xs,∃c,a0 x.1.2 y.1.2=some c/\inR .i64 c:=λx y=>a3.1 _ x.2.2 _ y.2.2
  have d2:CmpLays P g cb (λa:El k m xs=>a.1.1) k.sz (λx y=>(a0 x.1.2 y.1.2).getD 0) b 0 W.toArray.size w:=by
   intro J os dk a6 x y;rw[b2 J os dk (by rw[a6];simpa using a2)];generalize hw1:Go.Sort.grow ((Go.Sort.ahead w J).setRow b _) os=w1;have b7:=(c1 J os ((dk.toList.flatMap λa=>a.1.1)++cs.drop (xs.length*k.sz))).rebase;rw[hw1] at b7;obtain⟨c,hc,_⟩:=e4 x y;have hv:∀z:El k m xs,Value.agg z.1.1.toArray=k.val z.1.1:=λz=>by simp[Kd.val,e0]
   rw[hv x,hv y];refine(c5 ⟨w1,λ_=>none⟩ m w1 [] [] _ _ x.1.2 y.1.2 c (M.le.refl m) b7 ⟨_,x.2.1,rfl⟩ ⟨_,y.2.1,rfl⟩ hc).mono ?_;intro e w' he;cases e with
   |returned u=>
    obtain⟨m',_,c4,hu⟩:=he;obtain⟨rfl,_⟩:=aJ hu;exact⟨by simp[hc],zu c4.below.toBel⟩
   |panicked ch=>exact he.elim
   |outgrown=>exact he.elim
  have hO:SWO (ltOf λx y:El k m xs=>(a0 x.1.2 y.1.2).getD 0):=by
   refine⟨λx=>?_,λx y z h1 h2=>?_,λx y z h1 h2=>?_⟩
   ·simp only[ltOf,decide_eq_false_iff_not];exact a3.2.1 _ x.2.2
   ·simp only[ltOf,decide_eq_true_eq] at*;exact a3.2.2.1 _ x.2.2 _ y.2.2 _ z.2.2 h1 h2
   ·simp only[ltOf,decide_eq_false_iff_not] at*;exact a3.2.2.2.1 _ x.2.2 _ y.2.2 _ z.2.2 h1 h2
  have hH:HoldsK (λa:El k m xs=>a.1.1) k.sz w b 0 W.toArray:=by
   intro j hj;have a1:j<xs.length*k.sz:=by simpa[a2] using hj
   have b0:=zw W.toArray
   have e1:(flatK (λa:El k m xs=>a.1.1) k.sz W.toArray)[j]! =cs[j]'(by omega):=by
    rw[getElem!_pos _ j (by simpa[a2] using a1)]
    have:(flatK (λa:El k m xs=>a.1.1) k.sz W.toArray).toList[j]? =cs[j]? :=by
     rw[b0];show(W.flatMap _)[j]? =_;rw[e5,List.getElem?_take,if_pos a1]
    rw[Q0 (by simpa[a2] using a1),Q0 (by omega)] at this;injection this with this
   refine⟨?_,?_⟩
   ·rw[e1]
    simp[World.cell?,ht,show j<cs.length by omega]
   ·simp[World.frozen?,ht]
  have b3:=AnyQ.slices_SortFunc Ly k.sz aE zE (λa:El k m xs=>a.1.1) (λx=>k.len x.2.1) (λx v hv=>k.one x.2.1 v hv) (λx y=>(a0 x.1.2 y.1.2).getD 0) hO g cb b 0 cap W.toArray w eg d2 hH c7 (by have:xs.length<=281474976710656:=h0;simp[a2];omega);have b1:W.toArray.size=xs.length:=by simpa using a2
  rw[b1] at b3;refine b3.mono ?_;rintro e w' ⟨rfl,Z,n,os,b5,c3,rfl⟩;have a4:Z.size=xs.length:=by rw[b5.1,b1]
  rw[b2 n os Z a4];refine⟨m,M.le.refl m,_,c1 n os _,?_⟩;have hR:=Kn Z.toList
  have d1:(Z.toList.map λa=>a.1.2)=r:=by
   have b4:(Z.toList.map λa=>a.1.2).Perm xs:=by
    have:=b5.2.2;rw[←a4,Array.extract_size] at this;rw[a4,←b1,Array.extract_size] at this;have h9:=this.map (λa:El k m xs=>a.1.2);rw[List.toList_toArray,b6] at h9;exact h9
   have e6:(Z.toList.map λa=>a.1.2).Pairwise (λx y=> ¬ (a0 y x).getD 0<0):=by
    rw[List.pairwise_map,Z6];intro i j hi' a1 c6;have:=c3 i j (Nat.zero_le _) c6 (by simpa[a4] using a1);rw[getElem!_pos Z i (by simpa using hi'),getElem!_pos Z j (by simpa using a1)] at this;simpa[ltOf] using this
   refine List.Perm.eq_of_pairwise (le:=λx y=> ¬ (a0 y x).getD 0<0) ?_ e6 c2 (b4.trans a9.symm);intro x y e3 d0 h1 h2;exact a3.2.2.2.2 x (b4.mem_iff.1 e3) y (a9.mem_iff.1 d0) h2 h1
  have b0:(Z.toList.flatMap λa=>a.1.1).length=xs.length*k.sz:=by
   have:=hR.1;simpa[a4] using this
  refine⟨by rw[a5];exact h0,.inr ⟨cap,by rw[a5],by rw[a5];exact h2,by simp[b0];omega,?_⟩⟩;rw[a5,Zd (by omega),Q3 (by omega),←d1];exact hR
end
open Go.Proofs Tryz
def uW:Go.Shelf.Ren:=⟨fun|6=>148|15=>152|14=>178|28=>179|29=>154|20=>186|21=>187|22=>188|23=>189|24=>190|25=>191|26=>192|27=>193|46=>199|47=>200|48=>201|49=>202|50=>203|57=>204|n=>n,fun|22=>22|24=>32|25=>134|3=>3|39=>94|0=>0|53=>55|55=>54|4=>4|46=>219|45=>218|50=>78|5=>5|9=>9|66=>228|70=>231|76=>233|77=>234|n=>n,λn=>n⟩
theorem IF:SlLaysF0.n6 prog uW:={
 mixed:=by kernel_rfl
 f6:=⟨f148.name,by decide,func148.trans (congrArg some (by kernel_rfl))⟩
 f14:=⟨f178.name,by decide,func178.trans (congrArg some (by kernel_rfl))⟩
 f15:=func152.trans (congrArg some (by kernel_rfl))
 f20:=⟨f186.name,by decide,func186.trans (congrArg some (by kernel_rfl))⟩
 f21:=⟨f187.name,by decide,func187.trans (congrArg some (by kernel_rfl))⟩
 f22:=⟨f188.name,by decide,func188.trans (congrArg some (by kernel_rfl))⟩
 f23:=⟨f189.name,by decide,func189.trans (congrArg some (by kernel_rfl))⟩
 f24:=⟨f190.name,by decide,func190.trans (congrArg some (by kernel_rfl))⟩
 f25:=⟨f191.name,by decide,func191.trans (congrArg some (by kernel_rfl))⟩
 f26:=⟨f192.name,by decide,func192.trans (congrArg some (by kernel_rfl))⟩
 f27:=⟨f193.name,by decide,func193.trans (congrArg some (by kernel_rfl))⟩
 f28:=func179.trans (congrArg some (by kernel_rfl))
 f29:=func154.trans (congrArg some (by kernel_rfl))
 f46:=⟨f199.name,by decide,func199.trans (congrArg some (by kernel_rfl))⟩
 f47:=func200.trans (congrArg some (by kernel_rfl))
 f48:=func201.trans (congrArg some (by kernel_rfl))
 f49:=⟨f202.name,by decide,func202.trans (congrArg some (by kernel_rfl))⟩
 f50:=⟨f203.name,by decide,func203.trans (congrArg some (by kernel_rfl))⟩
 f57:=⟨f204.name,by decide,func204.trans (congrArg some (by kernel_rfl))⟩
 t0:=underlying0
 a0:=isAgg0
 z0:=sizeOf0
 v0:=zeroValue0
 t3:=underlying3
 a3:=isAgg3
 z3:=sizeOf3
 v3:=zeroValue3
 t4:=underlying4
 a4:=isAgg4
 z4:=sizeOf4
 v4:=zeroValue4
 t5:=underlying5
 a5:=isAgg5
 z5:=sizeOf5
 v5:=zeroValue5
 t9:=underlying9
 a9:=isAgg9
 z9:=sizeOf9
 v9:=zeroValue9
 t22:=underlying22
 a22:=isAgg22
 z22:=sizeOf22
 v22:=zeroValue22
 t25:=underlying134
 a25:=isAgg134
 z25:=sizeOf134
 v25:=zeroValue134
 t39:=underlying94
 a39:=isAgg94
 z39:=sizeOf94
 v39:=zeroValue94
 t45:=underlying218
 a45:=isAgg218
 z45:=sizeOf218
 v45:=zeroValue218
 t46:=underlying219
 a46:=isAgg219
 z46:=sizeOf219
 v46:=zeroValue219
 t50:=underlying78
 a50:=isAgg78
 z50:=sizeOf78
 v50:=zeroValue78
 t53:=underlying55
 a53:=isAgg55
 z53:=sizeOf55
 v53:=zeroValue55
 t55:=underlying54
 a55:=isAgg54
 z55:=sizeOf54
 v55:=zeroValue54
 t66:=underlying228
 a66:=isAgg228
 z66:=sizeOf228
 v66:=zeroValue228
 t70:=underlying231
 a70:=isAgg231
 z70:=sizeOf231
 v70:=zeroValue231
 t76:=underlying233
 a76:=isAgg233
 z76:=sizeOf233
 v76:=zeroValue233
 t77:=underlying234
 a77:=isAgg234
 z77:=sizeOf234
 v77:=zeroValue234
}
set_option maxRecDepth 100000
open Go.Proofs Tryz
theorem Nk:cR prog 161 iz:=⟨sizeOf161,isAgg161⟩
theorem OS:cR prog 62 bw:=⟨sizeOf62,isAgg62⟩
def OT:List Value:=[.int .i64 0,.slice none 0 0,.slice none 0 0,.slice none 0 0]
theorem Ko:∀m,bw.R m OT bY.zero:=λ_=>⟨⟨rfl,ay (by decide)⟩,⟨⟨none,0,0,rfl,rfl,Qg _,(by decide),rfl⟩,⟨⟨none,0,0,rfl,rfl,Qg _,(by decide),rfl⟩,⟨none,0,0,rfl,rfl,Qg _,(by decide),rfl⟩⟩⟩⟩
def OU:List Value:=[.pointer none]
theorem OV:∀m,(kPt aL).R m OU none:=λ_=>rfl
theorem Nl:cR prog 120 aL:=⟨sizeOf120,isAgg120⟩
noncomputable def Sz:Sg:=OI [(32,⟨Ap,kAp⟩),(57,⟨aK,br⟩),(59,⟨aa,ae⟩),(187,⟨aM,bR⟩),(34,⟨bm,cw⟩),(120,⟨aw,aL⟩),(161,⟨ah,iz⟩),(62,⟨bY,bw⟩),(65,⟨(Option aw),(kPt aL)⟩)]
noncomputable def ti2:TI prog Sz 2:=nG underlying2 sizeOf2 isAgg2 zeroValue2 rfl (by decide)
noncomputable def ti3:TI prog Sz 3:=nG underlying3 sizeOf3 isAgg3 zeroValue3 rfl (by decide)
noncomputable def ti4:TI prog Sz 4:=Jq underlying4 sizeOf4 isAgg4 zeroValue4 rfl
noncomputable def ti5:TI prog Sz 5:=nG underlying5 sizeOf5 isAgg5 zeroValue5 rfl (by decide)
noncomputable def ti6:TI prog Sz 6:=nG underlying6 sizeOf6 isAgg6 zeroValue6 rfl (by decide)
noncomputable def ti9:TI prog Sz 9:=CM underlying9 sizeOf9 isAgg9 zeroValue9 rfl
noncomputable def OW:TI prog Sz 10:=CM underlying10 sizeOf10 isAgg10 zeroValue10 rfl
noncomputable def OX:TI prog Sz 11:=CM underlying11 sizeOf11 isAgg11 zeroValue11 rfl
noncomputable def OY:TI prog Sz 12:=nG underlying12 sizeOf12 isAgg12 zeroValue12 rfl (by decide)
noncomputable def OZ:TI prog Sz 21:=nG underlying21 sizeOf21 isAgg21 zeroValue21 rfl (by decide)
noncomputable def O0:TI prog Sz 25:=nG underlying25 sizeOf25 isAgg25 zeroValue25 rfl (by decide)
noncomputable def Kp:TI prog Sz 54:=nG underlying54 sizeOf54 isAgg54 zeroValue54 rfl (by decide)
noncomputable def Kq:TI prog Sz 55:=nG underlying55 sizeOf55 isAgg55 zeroValue55 rfl (by decide)
noncomputable def O1:TI prog Sz 94:=nG underlying94 sizeOf94 isAgg94 zeroValue94 rfl (by decide)
noncomputable def Nm:TI prog Sz 218:=nG underlying218 sizeOf218 isAgg218 zeroValue218 rfl (by decide)
noncomputable def O2:TI prog Sz 24:=tS _ (slI ti5 _ 1 underlying24 sizeOf5 el5 type5 rfl rfl rfl) sizeOf24 isAgg24 zeroValue24 rfl
noncomputable def Kr:TI prog Sz 32:=sG eF zeroValue32 Ap.zero pk
noncomputable def O3:TI prog Sz 49:=tS _ (slI ti3 _ 8 underlying49 sizeOf3 el3 type3 rfl rfl rfl) sizeOf49 isAgg49 zeroValue49 rfl
noncomputable def O4:TI prog Sz 57:=sG vH zeroValue57 aK.zero Kl
noncomputable def Nn:TI prog Sz 143:=tS _ (slI ti2 _ 8 underlying143 sizeOf2 el2 type2 rfl rfl rfl) sizeOf143 isAgg143 zeroValue143 rfl
noncomputable def No:TI prog Sz 189:=tS _ (slI Kp _ 8 underlying189 sizeOf54 Kh type54 rfl rfl rfl) sizeOf189 isAgg189 zeroValue189 rfl
noncomputable def Ks:TI prog Sz 22:=tS _ (slI Kr _ 40 underlying22 sizeOf32 A4 type32 rfl rfl rfl) sizeOf22 isAgg22 zeroValue22 rfl
noncomputable def O5:TI prog Sz 34:=sG vF zeroValue34 bm.zero vE
noncomputable def Np:TI prog Sz 161:=sG Nk zeroValue161 ah.zero Ho
noncomputable def Hp:TI prog Sz 187:=sG Nf zeroValue187 aM.zero Dj
noncomputable def Kt:TI prog Sz 59:=sG pn zeroValue59 aa.zero s4
noncomputable def Nq:TI prog Sz 126:=tS _ (slI Ks _ 24 underlying126 sizeOf22 OR type22 rfl rfl rfl) sizeOf126 isAgg126 zeroValue126 rfl
noncomputable def Nr:TI prog Sz 185:=tS _ (slI Hp _ 48 underlying185 sizeOf187 Hn type187 rfl rfl rfl) sizeOf185 isAgg185 zeroValue185 rfl
noncomputable def O6:TI prog Sz 50:=tS _ (slI Kt _ 48 underlying50 sizeOf59 GZ type59 rfl rfl rfl) sizeOf50 isAgg50 zeroValue50 rfl
noncomputable def O7:TI prog Sz 62:=sG OS zeroValue62 bY.zero Ko
noncomputable def Ns:TI prog Sz 120:=sG Nl zeroValue120 aw.zero y9
noncomputable def O8:TI prog Sz 65:=sG Km zeroValue65 none OV
noncomputable def Nt:AI prog Sz 177:=arI Kq 16 underlying177 sizeOf55 zeroValue177 rfl rfl
noncomputable def Nu:AI prog Sz 178:=arI ti5 4 underlying178 sizeOf5 zeroValue178 rfl rfl
noncomputable def Nv:AI prog Sz 224:=arI ti5 8 underlying224 sizeOf5 zeroValue224 rfl rfl
noncomputable def Ku:FI prog Sz 32 0:=⟨(.int .i64),⟨0,λx=>x.fKind,λx y=>{ x with fKind:=y },JL,EX⟩,A5⟩
noncomputable def Kv:FI prog Sz 32 1:=⟨.bool,⟨1,λx=>x.fBool,λx y=>{ x with fBool:=y },JM,JN⟩,Ke⟩
noncomputable def Kw:FI prog Sz 32 2:=⟨(.int .i64),⟨2,λx=>x.fInt,λx y=>{ x with fInt:=y },JO,JP⟩,sc⟩
noncomputable def Kx:FI prog Sz 32 3:=⟨.str,⟨3,λx=>x.fText,λx y=>{ x with fText:=y },JQ,JR⟩,Kf⟩
noncomputable def O9:BI prog Sz 32:=⟨_,[(0,1),(1,1),(2,1),(3,1)],Ap.zero,_,underlying32,rfl,zeroValue32,pk,rfl⟩
noncomputable def Ky:FI prog Sz 57 0:=⟨(.int .u64),⟨0,λx=>x.fEpoch,λx y=>{ x with fEpoch:=y },JZ,E3⟩,E8⟩
noncomputable def Kz:FI prog Sz 57 1:=⟨(.int .u32),⟨1,λx=>x.fNumber,λx y=>{ x with fNumber:=y },J0,E4⟩,E9⟩
noncomputable def Pa:BI prog Sz 57:=⟨_,[(0,1),(1,1)],aK.zero,_,underlying57,rfl,zeroValue57,Kl,rfl⟩
noncomputable def KA:FI prog Sz 59 0:=⟨(.st 57),⟨0,λx=>x.fId,λx y=>{ x with fId:=y },wM,A3⟩,pa⟩
noncomputable def KB:FI prog Sz 59 1:=⟨(.sl (.st 32)),⟨2,λx=>x.fRow,λx y=>{ x with fRow:=y },J1,E5⟩,mK⟩
noncomputable def KC:FI prog Sz 59 2:=⟨(.int .u64),⟨3,λx=>x.fDeleted,λx y=>{ x with fDeleted:=y },J3,E6⟩,Fa⟩
noncomputable def Pb:BI prog Sz 59:=⟨_,[(0,2),(2,1),(3,1)],aa.zero,_,underlying59,rfl,zeroValue59,s4,rfl⟩
noncomputable def IG:FI prog Sz 187 0:=⟨(.int .i64),⟨0,λx=>x.fMany,λx y=>{ x with fMany:=y },Iw,xM⟩,xO⟩
noncomputable def IH:FI prog Sz 187 1:=⟨(.st 32),⟨1,λx=>x.fValue,λx y=>{ x with fValue:=y },Ix,Cb⟩,Cf⟩
noncomputable def Nw:BI prog Sz 187:=⟨_,[(0,1),(1,4)],aM.zero,_,underlying187,rfl,zeroValue187,Dj,rfl⟩
noncomputable def KD:FI prog Sz 34 0:=⟨(.int .i64),⟨0,λx=>x.fKind,λx y=>{ x with fKind:=y },JS,EY⟩,A8⟩
noncomputable def KE:FI prog Sz 34 1:=⟨(.int .i64),⟨1,λx=>x.fMany,λx y=>{ x with fMany:=y },JT,EZ⟩,E7⟩
noncomputable def KF:FI prog Sz 34 2:=⟨(.st 32),⟨2,λx=>x.fMin,λx y=>{ x with fMin:=y },JU,E0⟩,A6⟩
noncomputable def KG:FI prog Sz 34 3:=⟨(.st 32),⟨6,λx=>x.fMax,λx y=>{ x with fMax:=y },JV,E1⟩,A7⟩
noncomputable def KH:FI prog Sz 34 4:=⟨(.int .i64),⟨10,λx=>x.fNulls,λx y=>{ x with fNulls:=y },JW,E2⟩,uj⟩
noncomputable def KI:FI prog Sz 34 5:=⟨(.int .i64),⟨11,λx=>x.fBytes,λx y=>{ x with fBytes:=y },JX,JY⟩,wN⟩
noncomputable def Pc:BI prog Sz 34:=⟨_,[(0,1),(1,1),(2,4),(6,4),(10,1),(11,1)],bm.zero,_,underlying34,rfl,zeroValue34,vE,rfl⟩
noncomputable def II:FI prog Sz 120 0:=⟨(.int .i64),⟨0,λx=>x.fColumns,λx y=>{ x with fColumns:=y },Cc,Cd⟩,nC⟩
noncomputable def IJ:FI prog Sz 120 1:=⟨(.sl (.int .i64)),⟨1,λx=>x.fSort,λx y=>{ x with fSort:=y },sa,Ce⟩,l6⟩
noncomputable def IK:FI prog Sz 120 2:=⟨(.sl (.st 59)),⟨2,λx=>x.fL,λx y=>{ x with fL:=y },oE,IC⟩,l7⟩
noncomputable def Nx:BI prog Sz 120:=⟨_,[(0,1),(1,1),(2,1)],aw.zero,_,underlying120,rfl,zeroValue120,y9,rfl⟩
noncomputable def IL:FI prog Sz 161 0:=⟨(.sl (.int .u8)),⟨0,λx=>x.fB,λx y=>{ x with fB:=y },Iy,Iz⟩,ID⟩
noncomputable def IM:FI prog Sz 161 1:=⟨.bool,⟨1,λx=>x.fOk,λx y=>{ x with fOk:=y },IA,IB⟩,IE⟩
noncomputable def Ny:BI prog Sz 161:=⟨_,[(0,1),(1,1)],ah.zero,_,underlying161,rfl,zeroValue161,Ho,rfl⟩
noncomputable def KJ:FI prog Sz 62 0:=⟨(.int .i64),⟨0,λx=>x.fColumns,λx y=>{ x with fColumns:=y },J4,J5⟩,Ba⟩
noncomputable def KK:FI prog Sz 62 1:=⟨(.sl (.int .i64)),⟨1,λx=>x.fSort,λx y=>{ x with fSort:=y },J6,J7⟩,ul⟩
noncomputable def KL:FI prog Sz 62 2:=⟨(.sl (.int .i64)),⟨2,λx=>x.fKinds,λx y=>{ x with fKinds:=y },J8,J9⟩,Fb⟩
noncomputable def KM:FI prog Sz 62 3:=⟨(.sl (.st 59)),⟨3,λx=>x.fL,λx y=>{ x with fL:=y },Ka,Kb⟩,uk⟩
noncomputable def Pd:BI prog Sz 62:=⟨_,[(0,1),(1,1),(2,1),(3,1)],bY.zero,_,underlying62,rfl,zeroValue62,Ko,rfl⟩
noncomputable def KN:EI prog Sz 32:=⟨inferInstanceAs (DecidableEq Ap),xN,rfl⟩
noncomputable def KO:EI prog Sz 57:=⟨inferInstanceAs (DecidableEq aK),Ki,rfl⟩
noncomputable def Pe:NI prog Sz 65:=⟨120,λx=>x,_,underlying65,λ_ _ _ h=>h⟩
noncomputable def Γ:Tab prog Sz:=⟨uG [⟨2,ti2⟩,⟨3,ti3⟩,⟨4,ti4⟩,⟨5,ti5⟩,⟨6,ti6⟩,⟨9,ti9⟩,⟨10,OW⟩,⟨11,OX⟩,⟨12,OY⟩,⟨21,OZ⟩,⟨22,Ks⟩,⟨24,O2⟩,⟨25,O0⟩,⟨32,Kr⟩,⟨34,O5⟩,⟨49,O3⟩,⟨50,O6⟩,⟨54,Kp⟩,⟨55,Kq⟩,⟨57,O4⟩,⟨59,Kt⟩,⟨62,O7⟩,⟨65,O8⟩,⟨94,O1⟩,⟨120,Ns⟩,⟨126,Nq⟩,⟨143,Nn⟩,⟨161,Np⟩,⟨185,Nr⟩,⟨187,Hp⟩,⟨189,No⟩,⟨218,Nm⟩],uG [⟨177,Nt⟩,⟨178,Nu⟩,⟨224,Nv⟩],Ag [⟨32,0,Ku⟩,⟨32,1,Kv⟩,⟨32,2,Kw⟩,⟨32,3,Kx⟩,⟨57,0,Ky⟩,⟨57,1,Kz⟩,⟨59,0,KA⟩,⟨59,1,KB⟩,⟨59,2,KC⟩,⟨187,0,IG⟩,⟨187,1,IH⟩,⟨34,0,KD⟩,⟨34,1,KE⟩,⟨34,2,KF⟩,⟨34,3,KG⟩,⟨34,4,KH⟩,⟨34,5,KI⟩,⟨120,0,II⟩,⟨120,1,IJ⟩,⟨120,2,IK⟩,⟨161,0,IL⟩,⟨161,1,IM⟩,⟨62,0,KJ⟩,⟨62,1,KK⟩,⟨62,2,KL⟩,⟨62,3,KM⟩],uG [⟨32,KN⟩,⟨57,KO⟩],uG [⟨32,O9⟩,⟨57,Pa⟩,⟨59,Pb⟩,⟨187,Nw⟩,⟨34,Pc⟩,⟨120,Nx⟩,⟨161,Ny⟩,⟨62,Pd⟩],uG [⟨65,Pe⟩]⟩
noncomputable def mC {f:FuncId} {ps:List Pm} {rs:List Rm} {g:dK Sz ps->Option (a8 Sz (gr ps rs))} (ok:Ctr Sz prog f ps rs g) (h:∀vs w,(callFunc f vs).run prog w= .ok (.enter f vs) w):CS prog Sz:=⟨f,ps,rs,g,ok,h⟩
theorem ncR {f:FuncId}{fn:Func}{n:Nat}{ps:List Pm}{rs:List Rm}{g:dK Sz ps->Option (a8 Sz (gr ps rs))}(D:List (CS prog Sz))(res:List Nat)(hf:prog.funcs[f]? =some fn)(W:fn.ntmps=n)(A:An Sz (a8 Sz (gr ps rs)))(h:∀x,exF n Γ D (fn.body.getD .skip) ps rs res A x=g x)
  (Z:A.nc=true:=by exact rfl) (hb:fn.body=some (fn.body.getD .skip):=by exact rfl) (J:Nat.ble ps.length n=true:=by exact rfl) (a0:fn.results.toList=res.map ResultVar.tmp:=by exact rfl):Ctr Sz prog f ps rs g:=Ctr.nc A Z mixed hf hb W J a0 h
theorem nxR {f:FuncId}{fn:Func}{n:Nat}{ps:List Pm}{rs:List Rm}{g:dK Sz ps->Option (a8 Sz (gr ps rs))}(D:List (CS prog Sz))(res:List ResultVar)(hf:prog.funcs[f]? =some fn)(W:fn.ntmps=n)(A:An Sz (a8 Sz (gr ps rs)))(h:∀x,exX n Γ D (fn.body.getD .skip) ps rs res A x=g x)
  (Z:A.nc=true:=by exact rfl) (hb:fn.body=some (fn.body.getD .skip):=by exact rfl) (J:Nat.ble ps.length n=true:=by exact rfl) (a0:fn.results.toList=res:=by exact rfl):Ctr Sz prog f ps rs g:=Ctr.nX A Z mixed hf hb W J a0 h
end Go.Proofs.YthbonoagbeilkaaGreat.Hay
