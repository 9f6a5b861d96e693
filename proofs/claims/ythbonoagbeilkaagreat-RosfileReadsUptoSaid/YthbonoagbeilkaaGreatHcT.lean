import Derived.Test.YthbonoagbeilkaaGreatExZb
import Derived.Test.YthbonoagbeilkaaGreatHbV
namespace Go.Proofs.YthbonoagbeilkaaGreat.Hay
open Option renaming bind_some→j6,getD_some→Yd
open List renaming take_succ_eq_append_getElem→zx,getElem_mem→Z0,length_append→Z1,take_length→Z2,getElem?_eq_getElem→Z3,replicate→Z5,length_singleton→Z6,drop_eq_getElem_cons→Z7,length_cons→Z8,eq_nil_of_length_eq_zero→Za,getD_eq_getElem?_getD→Zc,mem_append→Zd,append_assoc→Zi,take_of_length_le→Zk,mem_of_mem_take→Zm,flatMap_cons→Zo,take_append_drop→Zp,range→Zq,foldl_cons→Zt,cons_append→Zu,length_take→Zv,length_map→Zw,drop_left→Zy,pairwise_cons→Zz,nil_append→X3,drop_zero→X4,pairwise_append→X9,mem_cons→Y0,length_drop→Y1,mem_map→Y2,length_pos_iff→Y4,drop_drop→Y5,take_left'→Y6,append_nil→Y7,ext_getElem→Y9,mem_singleton→Yc,getElem?_append_left→Ye,mem_of_getLast?→Yf,pairwise_iff_getElem→Yg,getElem?_eq_some_iff→Yh,eq_of_mem_replicate→Yi,flatMap_append→Yl,getElem_map→Yn,drop_length→Yp,getElem?_drop→Ys,mem_replicate→Yt,range_succ→Yv,drop_left'→Yw,length→Yz
open Nat renaming mul_le_mul→Zg,pow_le_pow_right→Zh,le_refl→Zr,lt_of_lt_of_le→Zs,div_div_eq_div_mul→Zx,eq_of_testBit_eq→X6,mul_le_mul_right→X7,two_pow_add_eq_or_of_lt→X8,and_one_is_mod→Y8,div_le_self→Ya,pow_succ→Yj,testBit_eq_decide_div_mod_eq→Yk,lt_or_ge→Ym,strongRecOn→Yo,testBit_xor→Yq,div_lt_iff_lt_mul→Yu,add_mul→Yx,pow_pos→Yy
open Bool renaming false_eq_true→Zb,not_true→Kc
open Int renaming eq_ofNat_of_zero_le→Z4,natCast_pow→Zf,tmod_eq_emod_of_nonneg→Zj,tdiv_eq_ediv_of_nonneg→Zn,natCast_nonneg→Y3,fdiv_eq_ediv_of_nonneg→Yb,toNat_natCast→Yr
open BitVec renaming ofInt→Ze,toNat_ofInt→Zl
open IntKind renaming i64→Z9,u64→X5
def bJ:List Int->Option (Ap×Nat)
 |[]=>none|k::b=>if k=0 then some (fR,1)else if k=1 then (match b with|c::_=>if c<=1 then some (B5 (c==1),2)else none|[]=>none)else if k=2 then (if 8<=b.length then some (gY (Z9.wrap (bv (b.take 8))),9)else none)else if k=3 then (match b with|c::r=>if c<=64/\c<=(r.length:Int)then some (xF (r.take c.toNat),2+c.toNat)else none|[]=>none)else none
theorem L3{l:List Int}(h:Byt l)(hl:l.length=8):be8 (bv l)=l:=by match l,hl with
 |[a,b,c,d,e,f,g,i],_=>have Z:=h a (by simp);have J:=h b (by simp);have W:=h c (by simp);have hd:=h d (by simp);have he:=h e (by simp);have hf:=h f (by simp);have hg:=h g (by simp);have hi:=h i (by simp);simp only[be8,bv,Zt,List.foldl_nil,List.cons.injEq,and_true];refine⟨?_,?_,?_,?_,?_,?_,?_,?_⟩<;>omega
theorem ej (n:Int):Z9.wrap n=(n+9223372036854775808)%18446744073709551616-9223372036854775808:=by simp only[IntKind.wrap,IntKind.bits,IntKind.signed];simp;omega
theorem L4{n:Int}(h:0<=n/\n<18446744073709551616):Z9.wrap n%18446744073709551616=n:=by rw[ej];omega
theorem xJ{n:Int}(h:cL n):Z9.wrap (n%18446744073709551616)=n:=by rw[ej];unfold cL at h;omega
theorem ik (n:Int):cL (Z9.wrap n):=by rw[ej];unfold cL;omega
theorem iU{v:Ap}(h:Rgt v)(r:List Int):bJ (aZ v++r)=some (v,(aZ v).length):=by cases h with
 |null=>simp[JH,bJ]|bool b=>cases b<;>simp[JI,bJ]|int n h=>
  rw[xG];have J:¬((2:Int)=0):=by decide
  have Z:¬((2:Int)=1):=by decide
  have h3:8<=(be8 (n%18446744073709551616)++r).length:=by simp[bB]
  have W:(be8 (n%18446744073709551616)++r).take 8=be8 (n%18446744073709551616):=Y6 (bB _);simp only[Zu,bJ];rw[if_neg J,if_neg Z,if_pos trivial,if_pos h3,W,ur (by omega) (by omega),xJ h];simp[bB]|text t h hl=>rw[vd];simp only[Zu,bJ];rw[if_neg (by decide),if_neg (by decide),if_neg (by decide),if_pos trivial,if_pos (by simp;omega)];simp;omega
theorem gN{b:List Int}{v:Ap}{n:Nat}(W:Byt b)(h:bJ b=some (v,n)):Rgt v/\∃r,b=aZ v++r/\n=(aZ v).length:=by cases b with
 |nil=>cases h|cons k b=>
  simp only[bJ]at h;split at h
  ·rename_i J;subst J;simp only[Option.some.injEq,Prod.mk.injEq]at h;obtain⟨rfl,rfl⟩:=h;exact⟨.null,b,rfl,rfl⟩
  split at h
  ·rename_i J;subst J;cases b with
   |nil=>cases h|cons c r=>
    simp only at h;split at h
    ·rename_i hc;simp only[Option.some.injEq,Prod.mk.injEq]at h;obtain⟨rfl,rfl⟩:=h;have h0:=W.tail.head;have:c=0\/c=1:=by omega
     rcases this with rfl|rfl;·exact⟨.bool _,r,rfl,rfl⟩
     ·exact⟨.bool _,r,rfl,rfl⟩
    ·cases h
  split at h
  ·rename_i J;subst J;split at h
   ·rename_i hl;simp only[Option.some.injEq,Prod.mk.injEq]at h;obtain⟨rfl,rfl⟩:=h;have Z:(b.take 8).length=8:=by simp;omega
    have a0:=wB (b.take 8) (W.tail.take 8);rw[Z]at a0;refine⟨.int _ (ik _),b.drop 8,?_,?_⟩
    ·rw[xG,L4 (by omega),L3 (W.tail.take 8) Z];simp
    ·rw[xG];simp[bB]
   ·cases h
  split at h
  ·rename_i J;subst J;cases b with
   |nil=>cases h|cons c r=>
    simp only at h;split at h
    ·rename_i hc;simp only[Option.some.injEq,Prod.mk.injEq]at h;obtain⟨rfl,rfl⟩:=h;have h0:=W.tail.head;refine⟨.text _ (W.tail.tail.take _) (by simp;omega),r.drop c.toNat,?_,?_⟩
     ·rw[vd];have:((r.take c.toNat).length:Int)=c:=by simp;omega
      rw[this];simp
     ·rw[vd];simp;omega
    ·cases h
  ·cases h
theorem kY{b:List Int}{v:Ap}{n:Nat}(W:Byt b)(h:bJ b=some (v,n)):1<=n/\n<=66/\n<=b.length:=by obtain⟨J,r,rfl,rfl⟩:=gN W h;have:=eK J;simp;omega
theorem tz{b:List Int}{v:Ap}{n k:Nat}(Z:Byt b)(h:bJ (b.take k)=some (v,n)):bJ b=some (v,n)/\n<=k:=by
 obtain⟨W,r,J,rfl⟩:=gN (Z.take k) h;have h3:b=aZ v++(r++b.drop k):=by rw[←Zi,←J];simp
 refine⟨by rw[h3];exact iU W _,?_⟩;have:=congrArg Yz J;simp at this;omega
theorem yk{b:List Int}{v:Ap}{n k:Nat}(Z:Byt b)(h:bJ b=some (v,n))(W:n<=k):bJ (b.take k)=some (v,n):=by obtain⟨J,r,rfl,rfl⟩:=gN Z h;rw[List.take_append,Zk W];exact iU J _
theorem JJ{x y:Int}(k:Nat)(J:0<=x)(W:0<=y)(hy:y<2^k)(Z:x*2^k+y<18446744073709551616):bOr .u64 (x*2^k) y=x*2^k+y:=by
 obtain⟨a,rfl⟩:=Z4 J;obtain⟨b,rfl⟩:=Z4 W;have e:(a:Int)*2^k=((2^k*a:Nat):Int):=by rw[Int.natCast_mul,Zf,Int.mul_comm];rfl
 have e2:((2:Int)^k)=((2^k:Nat):Int):=by rw[Zf];rfl
 rw[e2]at hy;rw[e]at Z⊢;have h:b<2^k:=by omega
 rw[L2 (by omega) (by omega),←X8 h];omega
theorem C0{b:List Int}(h:Byt b)(hl:8<=b.length):sq b=some (bv (b.take 8)):=by
 unfold sq;refine aW (λi=>(bv (b.take i),(i:Int))) 8 (by simp[bv]) (λi hi=>?_) ?_
 ·dsimp only;unfold rH;have hi':i<b.length:=by omega
  have a1:=wB (b.take i) (h.take i);have a0:=h b[i] (Z0 hi');have hp:(256:Int)^(b.take i).length<=256^7:=by
   have:(b.take i).length<=7:=by simp;omega
   have Z:=Zh (show 0<256 by omega) this;have h8:=Int.ofNat_le.2 Z;simpa[Zf]using h8
  have J:=Ag (x:=bv (b.take i)) (k:=8) (by omega);rw[show((8:Nat):Int)=8 from rfl]at J;have e:bv (b.take (i+1))=bv (b.take i)*256+b[i]:=by rw[zx hi',sy]
  have W:bv (b.take i)*2^8%18446744073709551616=bv (b.take i)*2^8:=by omega
  have e2:b[i]%18446744073709551616=b[i]:=by omega
  rw[if_pos (by simpa using by omega),au hi',j6,aP (by omega),J,aU,e,W,e2,JJ 8 (by omega) (by omega) (by omega) (by omega)];rfl
 ·unfold rH wy;dsimp only;rw[if_neg (by simp)];rfl
theorem ci{O:Type}(a:O)(l:List O):idx (a::l) 0=some a:=au (xs:=a::l) (i:=0) (by simp)
theorem lA{O:Type}(a b:O)(l:List O):idx (a::b::l) 1=some b:=au (xs:=a::b::l) (i:=1) (by simp)
theorem bP{O:Type}{xs:List O}{k:Nat}(h:k<=xs.length):sub xs (k:Int) (xs.length:Int)=some (xs.drop k):=by rw[cx h (Zr _),Z2]
theorem ve{O:Type}(a:O)(l:List O):sub (a::l) 1 ((a::l).length:Int)=some l:=by have:=bP (xs:=a::l) (k:=1) (by simp);simpa using this
theorem uv{c:Int}(h:0<=c/\c<256):Z9.wrap c=c:=ah (by omega)
theorem FO{b:List Int}(hb:Byt b):uZ b=some (match bJ b with|some (v,n)=>(v,b.drop n,true)|none=>(fR,[],false)):=by cases b with
 |nil=>rfl|cons k r=>
  have Z:=hb.head;have hr:=hb.tail;unfold uZ;rw[if_neg (by simp;omega),ci,j6,ve,j6,uv Z];by_cases h0:k=0;·subst h0;simp[bJ,lI]
  rw[if_neg (by simpa using h0)];have J:ln r false=some (fR,[],false):=rfl;by_cases h1:k=1
  ·subst h1;have e2:lp 1 r false=some (fR,[],false):=rfl;rw[if_pos (by simp)];cases r with
   |nil=>simp[bJ,e2]|cons c r=>
    rw[if_pos (by simp;omega),ci,j6];by_cases h:c<=1
    ·unfold lp;rw[if_pos (by simpa using h),ci,j6,ve];simp[bJ,h,qz]
    ·have:decide (c<=1)=false:=by simpa using h
     rw[this,e2];simp[bJ,h]
  rw[if_neg (by simpa using h1)];unfold lp;rw[if_neg (by decide),uv Z];by_cases h2:k=2
  ·subst h2;rw[if_pos (by simp)];unfold qP;by_cases hl:8<=r.length
   ·have W:=bP (xs:=r) (k:=8) hl;rw[show((8:Nat):Int)=8 from rfl]at W;rw[if_pos (by simpa using by omega),C0 hr hl,j6];unfold eU;rw[j6,W];simp[bJ,hl]
   ·rw[if_neg (by simpa using by omega),if_neg (by decide),J];simp[bJ,hl]
  rw[if_neg (by simpa using h2)];unfold qP;rw[if_neg (by decide),uv Z];by_cases h3:k=3
  ·subst h3;rw[if_pos (by simp)];cases r with
   |nil=>simp[bJ,J]|cons c r=>
    have h:=hr.head;rw[if_pos (by simp;omega),ci,j6];by_cases hc64:c<=64
    ·rw[if_pos (by simpa using hc64),j6,uv h];by_cases hl:c<=(r.length:Int)
     ·obtain⟨n,rfl⟩:=Z4 h.1;have e3:IntKind.u8.wrap (1+(n:Int))=((1+n:Nat):Int):=by rw[bC];omega
      have W:=cx (xs:=(n:Int)::r) (lo:=1) (hi:=1+n) (by omega) (by simp;omega);rw[show((1:Nat):Int)=1 from rfl]at W;have a0:=bP (xs:=(n:Int)::r) (k:=1+n) (by simp;omega);unfold ln;rw[if_pos (by simp;omega),ci,j6,e3,W,j6];unfold qC;rw[j6,j6,e3,a0];have e5:bJ (3::(n:Int)::r)=some (xF (r.take n),2+n):=by simp only[bJ];rw[if_neg (by decide),if_neg (by decide),if_neg (by decide),if_pos trivial,if_pos ⟨hc64,hl⟩];simp
      rw[e5];simp only[j6,Option.some.injEq,Prod.mk.injEq,and_true];have e6:1+n=n+1:=by omega
      have e7:2+n=n+1+1:=by omega
      rw[e6,e7];simp
     ·have:decide (c<(((c::r).length:Nat):Int))=false:=by simp;omega
      rw[this,J];simp[bJ,hl]
    ·rw[if_neg (by simpa using hc64),J];simp[bJ,hc64]
  rw[if_neg (by simpa using h3),J];simp[bJ,h0,h1,h2,h3]
def sL:Nat->List Int->Option (List Ap×List Int)
 |0,b=>some ([],b)|n+1,b=>match bJ b with
  |some (v,k)=>(sL n (b.drop k)).map λx=>(v::x.1,x.2)|none=>none
theorem Bj (many:Nat)(hm:many<=255):∀(n i:Nat) (b:List Int) (h:List Ap),i+n=many->Byt b->h.length=i->am (λs:(List Int×List Ap×Int)=>lq (many:Int) s.1 s.2.1 s.2.2) (b,h,(i:Int))=some (match sL n b with|some (l,[])=>(h++l,0)|_=>([],30)):=by
 intro n;induction n with
 |zero=>intro i b h hi J W;apply aR;dsimp only;unfold lq wz;rw[if_neg (by rw[ah (by omega)];simp;omega)];cases b with
  |nil=>simp[sL]|cons c r=>simp[sL]
 |succ n ih=>
  intro i b h hi J W;have step:lq (many:Int) b h (i:Int)=match bJ b with|some (v,k)=>some (.inl (b.drop k,h++[v],((i+1:Nat):Int)))|none=>some (.inr ([],30)):=by unfold lq;rw[if_pos (by rw[ah (by omega)];simp;omega),FO J,j6];cases hp:bJ b with
   |none=>rfl|some x=>obtain⟨v,k⟩:=x;simp only[Kc,Zb,if_false];rw[aD (by simp;omega),j6,aP (by omega)]
  simp only[sL];cases hp:bJ b with
  |none=>rw[hp]at step;rw[aR (by dsimp only;exact step)]|some x=>obtain⟨v,k⟩:=x;rw[hp]at step;rw[bI (by dsimp only;exact step),ih (i+1) _ _ (by omega) (J.drop _) (by simp;omega)];dsimp only;cases hq:sL n (b.drop k)with
   |none=>rfl|some y=>obtain⟨l,r⟩:=y;cases r<;>simp
theorem C1{b:List Int}(J:Byt b):mD b=some (match b with|[]=>([],30)|c::r=>if c<=16 then (match sL c.toNat r with|some (l,[])=>(l,0)|_=>([],30))else ([],30)):=by cases b with
 |nil=>rfl|cons c r=>
  have W:=J.head;unfold mD;rw[if_neg (by simp;omega),ci,j6];unfold rJ;by_cases h:c<=16
  ·rw[if_neg (by simpa using h),ci,j6,ve,j6];have:=Bj c.toNat (by omega) c.toNat 0 r [] (by omega) J.tail rfl;rw[show((c.toNat:Nat):Int)=c by omega]at this;rw[show((0:Nat):Int)=0 from rfl]at this;rw[this];simp[h]
  ·rw[if_pos (by simpa using by omega)];simp[h]
theorem vf{c:List Int}(J:Byt c):mD (1::c)=some (match bJ c with|some (v,k)=>if k=c.length then ([v],0)else ([],30)|none=>([],30)):=by rw[C1 (J.cons (by decide))];simp only[show((1:Int)<=16)=True by simp,if_true,show(1:Int).toNat=1 from rfl,sL];cases hp:bJ c with
 |none=>rfl|some x=>
  obtain⟨v,k⟩:=x;have:=(kY J hp).2.2;simp only[Option.map_some];by_cases h:k=c.length;·subst h;simp
  ·rw[if_neg h];cases hd:c.drop k with
   |nil=>have:=List.drop_eq_nil_iff.1 hd;omega|cons _ _=>rfl
theorem FP{r:ai}(W:Byt r.fB)(hl:r.fB.length<140737488355328):dN r=some (match bJ r.fB with|some (v,n)=>(v,⟨r.fB.drop n,r.fOk⟩)|none=>(fR,⟨r.fB,false⟩)):=by
 unfold dN;have step:∀k,1<=k->k<=r.fB.length->k<=66->iD r (k:Int)=match bJ (r.fB.take k)with|some (v,n)=>(if n=k then some (.inr (v,⟨r.fB.drop k,r.fOk⟩))else some (.inl ((k+1:Nat):Int)))|none=>some (.inl ((k+1:Nat):Int)):=by
  intro k J Z h3;have hs:=cx (xs:=r.fB) (lo:=0) (hi:=k) (by omega) Z;rw[show((0:Nat):Int)=0 from rfl]at hs;unfold iD iC;rw[if_pos (by simpa using by omega),if_pos (by simp;omega),hs,j6,aD (by simp;omega),j6,X4,List.singleton_append,vf (W.take _),j6,bP Z,aP (by omega)];have a0:(r.fB.take k).length=k:=by simp;omega
  cases hp:bJ (r.fB.take k)with
  |none=>rfl|some x=>
   obtain⟨v,n⟩:=x;simp only[a0];by_cases e:n=k;·rw[if_pos e,if_pos e];rfl
   ·rw[if_neg e,if_neg e];rfl
 cases hp:bJ r.fB with
 |some x=>
  obtain⟨v,n⟩:=x;have hn:=kY W hp;refine aW (λi=>((i+1:Nat):Int)) (n-1) rfl (λi hi=>?_) ?_
  ·rw[step (i+1) (by omega) (by omega) (by omega)];cases hq:bJ (r.fB.take (i+1))with
   |none=>rfl|some y=>obtain⟨v',n'⟩:=y;obtain⟨J,Z⟩:=tz W hq;rw[hp]at J;simp only[Option.some.injEq,Prod.mk.injEq]at J;omega
  ·have e:n-1+1=n:=by omega
   rw[e,step n (by omega) (by omega) (by omega),yk W hp (Zr _)];simp|none=>
  refine aW (λi=>((i+1:Nat):Int)) (min r.fB.length 66) rfl (λi hi=>?_) ?_
  ·rw[step (i+1) (by omega) (by omega) (by omega)];cases hq:bJ (r.fB.take (i+1))with
   |none=>rfl|some y=>obtain⟨v',n'⟩:=y;obtain⟨J,Z⟩:=tz W hq;rw[hp]at J;cases J
  ·have e0:iC r ((min r.fB.length 66+1:Nat):Int) false=some (.inr (fR,⟨r.fB,false⟩)):=rfl;unfold iD;split
   ·have:decide (((min r.fB.length 66+1:Nat):Int)<=66)=false:=by rename_i h;simp at h⊢;omega
    rw[this,e0]
   ·exact e0
theorem qg{b:List Int}(hb:Byt b):nC b=some (match bJ b with|some (v,n)=>(v,(n:Int))|none=>(fR,0)):=by cases b with
 |nil=>rfl|cons k r=>
  have hk:=hb.head;have hr:=hb.tail;have Z:mF (k::r) false=some (fR,0):=rfl;have a2:mG (k::r) false=if k=3 then some (match r with|c::r'=>if c<=64/\c<=(r'.length:Int)then (xF (r'.take c.toNat),((2+c.toNat:Nat):Int))else (fR,0)|[]=>(fR,0))else some (fR,0):=by unfold mG;rw[if_neg (by decide)];cases r with
   |nil=>rw[if_neg (by simp),Z];simp|cons c r'=>
    rw[if_pos (by simp;omega),ci,j6];by_cases h3:k=3
    ·subst h3;rw[if_pos (by simp),if_pos rfl,lA,j6];have J:=hr.head;by_cases hc64:c<=64
     ·obtain⟨n,rfl⟩:=Z4 J.1;have e3:Z9.wrap (2+Z9.wrap (n:Int))=((2+n:Nat):Int):=by rw[uv J,ah (by omega)];omega
      rw[if_pos (by simpa using hc64),j6,e3];by_cases hl:(n:Int)<=(r'.length:Int)
      ·unfold mF;have W:=cx (xs:=3::(n:Int)::r') (lo:=2) (hi:=2+n) (by omega) (by simp;omega);rw[show((2:Nat):Int)=2 from rfl]at W;rw[if_pos (by simp;omega),lA,j6,e3,W,j6];have e7:2+n=n+1+1:=by omega
       simp[hc64,hl,e7]
      ·have:decide (((2+n:Nat):Int)<=(((3::(n:Int)::r').length:Nat):Int))=false:=by simp;omega
       rw[this,Z];simp[hl]
     ·rw[if_neg (by simpa using hc64),Z];simp[hc64]
    ·rw[if_neg (by simpa using h3),if_neg h3,Z]
  have a1:jx (k::r) false=if k=2/\8<=r.length then some (gY (Z9.wrap (bv (r.take 8))),9)else mG (k::r) false:=by
   unfold jx;rw[if_neg (by decide)];by_cases hl:8<=r.length
   ·rw[if_pos (by simp;omega),ci,j6];by_cases h2:k=2
    ·subst h2;rw[if_pos ⟨rfl,hl⟩];unfold mG;have W:=cx (xs:=(2:Int)::r) (lo:=1) (hi:=9) (by omega) (by simp;omega);rw[show((1:Nat):Int)=1 from rfl,show((9:Nat):Int)=9 from rfl]at W;rw[if_pos (by simp),W,j6];have e:(((2:Int)::r).take 9).drop 1=r.take 8:=by simp
     rw[e,mJ _ (hr.take 8) (by simp;omega)];rfl
    ·have:(k==2)=false:=by simpa using h2
     rw[this,if_neg (λh=>h2 h.1)]
   ·rw[if_neg (by simp;omega),if_neg (λh=>hl h.2)]
  have a0:pk (k::r) false=match r with|c::_=>if k=1/\c<=1 then some (B5 (c==1),2)else jx (k::r) false|[]=>jx (k::r) false:=by unfold pk;rw[if_neg (by decide)];cases r with
   |nil=>rw[if_neg (by simp)]|cons c r'=>
    rw[if_pos (by simp;omega),ci,j6];dsimp only;by_cases h1:k=1
    ·subst h1;rw[if_pos (by simp),lA,j6];by_cases J:c<=1
     ·rw[if_pos ⟨rfl,J⟩];unfold jx;rw[if_pos (by simp;omega),lA];rfl
     ·have:decide (c<2)=false:=by simp;omega
      rw[this,if_neg (λh=>J h.2)]
    ·rw[if_neg (by simpa using h1),if_neg (λh=>h1 h.1)]
  unfold nC;rw[if_pos (by simp),ci,j6];by_cases h0:k=0;·subst h0;simp[pk,bJ]
  have e0:(k==0)=false:=by simpa using h0
  rw[e0,a0,a1,a2];simp only[bJ];rw[if_neg h0];by_cases h1:k=1
  ·subst h1;cases r with
   |nil=>rfl|cons c r'=>
    by_cases J:c<=1;·simp[J]
    ·simp[J]
  rw[if_neg h1];by_cases h2:k=2
  ·subst h2;by_cases hl:8<=r.length;·cases r with
    |nil=>simp at hl|cons c r'=>rw[if_pos rfl,if_pos hl];simp;simp at hl;omega
   ·cases r with
    |nil=>rfl|cons c r'=>rw[if_pos rfl,if_neg hl];simp;simp at hl;omega
  rw[if_neg h2];by_cases h3:k=3
  ·subst h3;cases r with
   |nil=>rfl|cons c r'=>
    by_cases J:c<=64/\c<=(r'.length:Int);·simp[J]
    ·simp[J]
  ·cases r with
   |nil=>simp[h2,h3]|cons c r'=>simp[h1,h2,h3]
def eQ (f:Nat->Bool):Nat->Nat
 |0=>0|n+1=>2^n*(f n).toNat+eQ f n
theorem mL (f:Nat->Bool):∀n,eQ f n<2^n
 |0=>by simp[eQ]|n+1=>by have:=mL f n;simp only[eQ];cases f n<;>simp[Yj]<;>omega
theorem lZ (f:Nat->Bool):∀n k,(eQ f n).testBit k=(decide (k<n)&&f k)
 |0,k=>by simp[eQ]|n+1,k=>by
  simp only[eQ];rw[Nat.testBit_two_pow_mul_add _ (mL f n),lZ f n k];by_cases h:k<n;·rw[if_pos h];simp[h];intro _;omega
  ·rw[if_neg h];by_cases h':k=n;·subst h';simp;cases f k<;>rfl
   ·have:¬k<n+1:=by omega
    simp[this];have:k-n≠0:=by omega
    cases f n;·simp
    ·simp only[Bool.toNat_true];obtain⟨j,J⟩:∃j,k-n=j+1:=⟨k-n-1,by omega⟩;rw[J,Nat.testBit_succ];simp
theorem oH{f g:Nat->Bool}{n:Nat}(h:∀k,k<n->f k=g k):eQ f n=eQ g n:=by
 apply X6;intro k;rw[lZ,lZ];by_cases hk:k<n;·rw[h k hk]
 ·simp[hk]
theorem JK{x n:Nat}(h:x<2^n):eQ (λk=>x.testBit k) n=x:=by
 apply X6;intro k;rw[lZ];by_cases hk:k<n;·simp[hk]
 ·have:=Nat.testBit_lt_two_pow (Zs h (Zh (by decide) (Nat.le_of_not_lt hk)));simp[this]
theorem Ah (x k:Nat):x/2^k=2*(x/2^(k+1))+(x.testBit k).toNat:=by
 have J:x/2^(k+1)=x/2^k/2:=by rw[Yj,Zx]
 rw[J,Yk];have:x/2^k%2=0\/x/2^k%2=1:=by omega
 rcases this with h|h<;>simp[h]<;>omega
def fS (l:List Int)(w p:Nat):Bool:=decide (p<l.length*w)&&(l.getD (p/w) 0).toNat.testBit (p%w)
def jR (l:List Int)(w q:Nat):List Int:=(Zq ((l.length*w+7)/8)).map λj=>((eQ (λk=>decide (8*j+k<q)&&fS l w (8*j+k)) 8:Nat):Int)
def bU (l:List Int)(w:Nat):List Int:=jR l w (l.length*w)
theorem fa (l:List Int)(w q:Nat):(jR l w q).length=(l.length*w+7)/8:=by simp[jR]
theorem nK (l:List Int)(w q j:Nat)(h:j<(jR l w q).length):(jR l w q)[j]=((eQ (λk=>decide (8*j+k<q)&&fS l w (8*j+k)) 8:Nat):Int):=by simp[jR]
theorem B6 (l:List Int)(w:Nat):Byt (bU l w):=λc h=>by simp only[bU,jR,Y2]at h;obtain⟨j,_,rfl⟩:=h;have:=mL (λk=>decide (8*j+k<l.length*w)&&fS l w (8*j+k)) 8;omega
theorem JL (l:List Int)(w q:Nat)(hq:q<l.length*w)(W:fS l w q=true):∃x:Nat,x<256/\(jR l w q)[q/8]?=some (x:Int)/\(jR l w q).set (q/8) (((x|||2^(q%8):Nat)):Int)=jR l w (q+1):=by
 have Z:q/8<(jR l w q).length:=by rw[fa];omega
 refine⟨_,mL _ 8,by rw[Z3 Z,nK],?_⟩;apply Y9;·simp[fa]
 intro j h1 h2;rw[List.getElem_set,nK];split
 ·rename_i e;subst e;rw[nK];congr 1;apply X6;intro k;rw[Nat.testBit_or,lZ,lZ,Nat.testBit_two_pow];by_cases h:k<8
  ·by_cases e:q%8=k
   ·have:8*(q/8)+k=q:=by omega
    simp[h,e,this,W]
   ·have J:(8*(q/8)+k<q+1)=(8*(q/8)+k<q):=by apply propext;omega
    simp[e,J]
  ·have:q%8≠k:=by omega
   simp[h,this]
 ·rename_i e;rw[nK];congr 1;apply oH;intro k h;have J:(8*j+k<q+1)=(8*j+k<q):=by apply propext;omega
  simp[J]
theorem Is (l:List Int)(w q:Nat)(h:fS l w q=false):jR l w q=jR l w (q+1):=by
 unfold jR;apply List.map_congr_left;intro j _;congr 1;apply oH;intro k W;by_cases e:8*j+k=q;·rw[e,h];simp
 ·have J:(8*j+k<q+1)=(8*j+k<q):=by apply propext;omega
  simp[J]
theorem Iu (l:List Int)(w:Nat):jR l w 0=Z5 ((l.length*w+7)/8) 0:=by
 apply Y9;·simp[fa]
 intro j h J;rw[nK];have:eQ (λk=>decide (8*j+k<0)&&fS l w (8*j+k)) 8=eQ (λ_=>false) 8:=oH λk _=>by simp
 rw[this];simp[eQ]
def dJ (b:List Int)(p:Nat):Bool:=(b.getD (p/8) 0).toNat.testBit (p%8)
def unp (b:List Int)(w i:Nat):Nat:=eQ (λk=>dJ b (i*w+k)) w
theorem C2 (l:List Int)(w p:Nat)(r:List Int)(W:p<l.length*w):dJ (bU l w++r) p=fS l w p:=by
 have h:p/8<(bU l w).length:=by unfold bU;rw[fa];omega
 unfold dJ;rw[Zc,Ye h,Z3 h];simp only[Yd];have e:(bU l w)[p/8]=_:=nK l w (l.length*w) (p/8) h;rw[e];simp only[Yr];rw[lZ];have J:8*(p/8)+p%8=p:=by omega
 have Z:p%8<8:=by omega
 simp[J,Z,W]
theorem Bk (l:List Int)(w i k:Nat)(hi:i<l.length)(h:k<w):i*w+k<l.length*w/\fS l w (i*w+k)=(l[i]).toNat.testBit k:=by
 have J:i*w+k<l.length*w:=by have:(i+1)*w<=l.length*w:=X7 _ hi;rw[Yx]at this;omega
 refine⟨J,?_⟩;unfold fS;have W:(i*w+k)/w=i:=by rw[Nat.mul_comm,Nat.mul_add_div (by omega),Nat.div_eq_of_lt h];rfl
 have Z:(i*w+k)%w=k:=by rw[Nat.mul_comm,Nat.mul_add_mod,Nat.mod_eq_of_lt h]
 rw[W,Z,Zc,Z3 hi];simp[J]
theorem xK (l:List Int)(w i:Nat)(r:List Int)(hi:i<l.length)(J:0<=l[i]/\l[i]<2^w):(unp (bU l w++r) w i:Int)=l[i]:=by
 have h1:unp (bU l w++r) w i=eQ (λk=>(l[i]).toNat.testBit k) w:=oH λk h=>by obtain⟨W,Z⟩:=Bk l w i k hi h;rw[C2 _ _ _ _ W,Z]
 rw[h1,JK];·omega
 ·have:((l[i].toNat:Nat):Int)<((2^w:Nat):Int):=by
   rw[Zf];have:((l[i].toNat:Nat):Int)=l[i]:=by omega
   rw[this];exact J.2
  exact Int.ofNat_lt.1 this
theorem rQ (n:Nat):chk (decide (0<=(n:Int)))=some ():=ut (decide_eq_true (Y3 n))
theorem or8{a b:Nat}(Z:a<256)(J:b<256):bOr .u8 (a:Int) (b:Int)=((a|||b:Nat):Int):=by
 unfold bOr;rw[bC];have h:(Ze IntKind.u8.bits (a:Int)).toNat=a:=by show(Ze 8 (a:Int)).toNat=a;rw[Zl];omega
 have W:(Ze IntKind.u8.bits (b:Int)).toNat=b:=by show(Ze 8 (b:Int)).toNat=b;rw[Zl];omega
 rw[BitVec.toNat_or,h,W];have:a|||b<2^8:=Nat.or_lt_two_pow (by simpa using Z) (by simpa using J);omega
theorem PO{a b:Nat}(Z:a<256)(W:b<256):d4 .u8 (a:Int) (b:Int)=((a&&&b:Nat):Int):=by
 unfold d4;rw[bC];have h:(Ze IntKind.u8.bits (a:Int)).toNat=a:=by show(Ze 8 (a:Int)).toNat=a;rw[Zl];omega
 have J:(Ze IntKind.u8.bits (b:Int)).toNat=b:=by show(Ze 8 (b:Int)).toNat=b;rw[Zl];omega
 rw[BitVec.toNat_and,h,J];have:a&&&b<=a:=Nat.and_le_left;omega
theorem Ai (x:Nat)(k:Nat):x/2^k&&&1=(x.testBit k).toNat:=by
 rw[Y8,Yk];have:x/2^k%2=0\/x/2^k%2=1:=by omega
 rcases this with h|h<;>simp[h]
theorem PP{x:Int}{k:Nat}(h:0<=x/\x<18446744073709551616)(W:k<=64):d4 .u64 (aV .u64 x (k:Int)) 1=(x.toNat.testBit k).toNat:=by
 obtain⟨n,rfl⟩:=Z4 h.1;rw[sw W];have J:((n:Int)/2^k)=((n/2^k:Nat):Int):=by simp[Zf]
 have Z:n/2^k<=n:=Ya _ _;rw[J,show(1:Int)=((1:Nat):Int)from rfl,M4 (by omega) (by omega),Ai];simp
theorem Og{x:Int}{k:Nat}(h:0<=x/\x<256)(W:k<=8):d4 .u8 (aV .u8 x (k:Int)) 1=(x.toNat.testBit k).toNat:=by
 obtain⟨n,rfl⟩:=Z4 h.1;rw[PN W];have J:((n:Int)/2^k)=((n/2^k:Nat):Int):=by simp[Zf]
 have Z:n/2^k<=n:=Ya _ _;rw[J,show(1:Int)=((1:Nat):Int)from rfl,PO (by omega) (by omega),Ai];simp
theorem Iv{i w k:Nat}(hi:i<1048576)(h:w<=64)(J:k<=64):Z9.wrap ((Z9.wrap ((i:Int)*(w:Int)))+(k:Int))=((i*w+k:Nat):Int):=by
 have:i*w<=1048576*64:=Zg (by omega) h;have e:(i:Int)*(w:Int)=((i*w:Nat):Int):=by simp
 rw[e,ah (n:=((i*w:Nat):Int)) (by omega),ah (by omega)];omega
theorem ED (n:Nat):((n:Int)).tdiv 8=((n/8:Nat):Int):=by rw[Zn (by omega)];rfl
theorem Iw (n:Nat):((n:Int)).tmod 8=((n%8:Nat):Int):=by rw[Zj (by omega)];rfl
theorem EE{i w:Nat}(hi:i<1048576)(h:w<=64):Z9.wrap ((Z9.wrap ((Z9.wrap ((i:Int)*(w:Int)))+7)).tdiv 8)=(((i*w+7)/8:Nat):Int):=by have:i*w<=1048576*64:=Zg (by omega) h;have e:=Iv (i:=i) (w:=w) (k:=7) hi h (by omega);rw[show((7:Nat):Int)=7 from rfl]at e;rw[e,ED,ah (by omega)]
def U64 (l:List Int):Prop:=∀x∈l,0<=x/\x<18446744073709551616
theorem vg{O:Type}{N n:Nat}{z:O}(h:n<=N):mk N (n:Int) z=some (Z5 n z):=by unfold mk;rw[if_pos (by omega)];simp
theorem ng{O:Type}{xs:List O}{i:Nat}(h:i<xs.length):ix xs (i:Int)=some i:=by unfold ix;rw[if_pos (by omega)];simp
theorem DP{l:List Int}{w:Nat}(hu:U64 l)(hl:l.length<1048576)(J:w<=64):md l (w:Int)=some (bU l w):=by
 have a3:l.length*w<=1048576*64:=Zg (by omega) J;unfold md;rw[EE hl J,vg (by omega),j6];refine aW (λi=>((i:Int),jR l w (i*w))) l.length (by simp[Iu]) (λi hi=>?_) ?_
 ·dsimp only;unfold qb;rw[if_pos (by simpa using hi),au hi,j6];have hx:=hu l[i] (Z0 hi);refine aW (λk=>((k:Int),jR l w (i*w+k))) w rfl (λk W=>?_) ?_
  ·dsimp only;unfold qa p9;obtain⟨h1,h⟩:=Bk l w i k hi W;rw[if_pos (by simpa using W),ut (by simp),j6,PP hx (by omega),Iv (by omega) J (by omega),ED,Iw,ah (by omega),aP (by omega)];cases hb:l[i].toNat.testBit k with
   |false=>rw[hb]at h;rw[if_neg (by decide),Is l w _ h];rfl|true=>
    rw[hb]at h;obtain⟨x,a0,Z,a1⟩:=JL l w _ h1 h;have a2:(i*w+k)/8<(jR l w (i*w+k)).length:=by rw[fa];omega
    rw[if_pos (by decide),ng a2,j6,Z,j6,rQ,j6,j6,Z,j6];have h8:en .u8 1 (((i*w+k)%8:Nat):Int)=((2^((i*w+k)%8):Nat):Int):=by
     unfold en;rw[bC];have hm:min (((i*w+k)%8:Nat):Int).toNat IntKind.u8.bits=(i*w+k)%8:=by simp[IntKind.bits];omega
     rw[hm];have:(2:Nat)^((i*w+k)%8)<=2^7:=Zh (by decide) (by omega);rw[Zf];have e:((2:Int)^((i*w+k)%8))=(((2:Nat)^((i*w+k)%8):Nat):Int):=by simp[Zf]
     rw[show((2:Nat):Int)=2 from rfl,e];generalize (2:Nat)^((i*w+k)%8)=m at*;omega
    have:(2:Nat)^((i*w+k)%8)<=2^7:=Zh (by decide) (by omega);rw[h8,or8 a0 (by omega),a1];rfl
  ·dsimp only;unfold qa ua;rw[if_neg (by simp),aP (by omega)];simp[Yx]
 ·unfold qb t8;rw[if_neg (by simp)];rfl
theorem C3{r:ai}{n:Nat}(J:n<=281474976710656):cY r (n:Int)=some (if r.fB.length<n then (Z5 n 0,⟨[],false⟩)else (r.fB.take n,⟨r.fB.drop n,r.fOk⟩)):=by
 unfold cY;by_cases h:r.fB.length<n;·rw[if_pos (by simpa using h),if_pos h,vg J];rfl
 ·rw[if_neg (by simpa using h),if_neg h,vg J,j6,cx (by omega) (Zr _)];simp only[j6,Z2];unfold cpy;simp;omega
theorem Oh (f:Nat->Bool)(k:Nat):eQ f k|||2^k*(f k).toNat=eQ f (k+1):=by rw[Nat.or_comm,←X8 (mL f k)];rfl
theorem PQ{b:Bool}{k:Nat}(h:k<64):en .u64 ((b.toNat:Nat):Int) (k:Int)=((2^k*b.toNat:Nat):Int):=by
 rw[Ag (by omega)];have J:(2:Nat)^k<2^64:=Nat.pow_lt_pow_right (by decide) h;have e:((2:Int)^k)=(((2:Nat)^k:Nat):Int):=by simp[Zf]
 rw[e];cases b;·simp
 ·simp only[Bool.toNat_true,Nat.mul_one];have:(2:Nat)^64=18446744073709551616:=by decide
  generalize (2:Nat)^k=m at*;omega
def uw (r:ai)(many w:Nat):List Int×ai:=if 64<w then (Z5 many 0,⟨r.fB,false⟩)else if r.fB.length<(many*w+7)/8 then (Z5 many 0,⟨[],false⟩)else((Zq many).map λi=>((unp r.fB w i:Nat):Int),⟨r.fB.drop ((many*w+7)/8),r.fOk⟩)
theorem JM{l:List Int}{n i:Nat}(h:i<n):(l.take n).getD i 0=l.getD i 0:=by rw[Zc,Zc,List.getElem?_take,if_pos h]
theorem L5 (b:List Int)(w i n:Nat)(h:(i+1)*w<=8*n):unp (b.take n) w i=unp b w i:=oH λk J=>by rw[Yx]at h;unfold dJ;rw[JM (by omega)]
theorem L6 (n w i:Nat):unp (Z5 n 0) w i=0:=by
 have:unp (Z5 n 0) w i=eQ (λ_=>false) w:=oH λk h=>by unfold dJ;rw[Zc,List.getElem?_replicate];split<;>simp
 rw[this];have:∀w,eQ (λ_=>false) w=0:=by intro w;induction w with|zero=>rfl|succ w ih=>simp[eQ,ih]
 exact this w
theorem AR{r:ai}{many w:Nat}(Z:Byt r.fB)(hm:many<1048576):fG r (many:Int) (w:Int)=some (uw r many w):=by
 unfold fG uw;by_cases hw:64<w;·rw[if_pos (by simpa using by omega),if_pos hw,vg (by omega)];rfl
 rw[if_neg (by simpa using by omega),if_neg hw];have J:w<=64:=by omega
 have a6:many*w<=1048576*64:=Zg (by omega) J;rw[EE hm J,C3 (by omega),j6,vg (by omega),j6];have key:∀(b:List Int) (r':ai),Byt b->b.length=(many*w+7)/8->am (λs:(Int×List Int)=>gr (w:Int) (b,r') (Z5 many 0) s.1 s.2) (0,Z5 many 0)=some ((Zq many).map λi=>((unp b w i:Nat):Int),r'):=by
  intro b r' Z hl;refine aW (λi=>((i:Int),(Zq i).map (λi=>((unp b w i:Nat):Int))++Z5 (many-i) 0)) many (by simp) (λi hi=>?_) ?_
  ·dsimp only;unfold gr;rw[if_pos (by simpa using hi)];have a4:(i+1)*w<=many*w:=X7 _ hi;rw[Yx]at a4;have a2:∀k,k<=64->eQ (λk=>dJ b (i*w+k)) k<18446744073709551616:=λk W=>by
    have:=mL (λk=>dJ b (i*w+k)) k;have h2:(2:Nat)^k<=2^64:=Zh (by decide) W;have:(2:Nat)^64=18446744073709551616:=by decide
    omega
   refine aW (λk=>((k:Int),(Zq i).map (λi=>((unp b w i:Nat):Int))++((eQ (λk=>dJ b (i*w+k)) k:Nat):Int)::Z5 (many-i-1) 0)) w ?_ (λk W=>?_) ?_
   ·have:many-i=(many-i-1)+1:=by omega
    rw[this,List.replicate_succ];simp[eQ]
   ·dsimp only;unfold jp;have a0:(i*w+k)/8<b.length:=by omega
    have a5:i<((Zq i).map (λi=>((unp b w i:Nat):Int))++((eQ (λk=>dJ b (i*w+k)) k:Nat):Int)::Z5 (many-i-1) 0).length:=by simp
    have a1:((Zq i).map (λi=>((unp b w i:Nat):Int))++((eQ (λk=>dJ b (i*w+k)) k:Nat):Int)::Z5 (many-i-1) 0)[i]?=some ((eQ (λk=>dJ b (i*w+k)) k:Nat):Int):=by simp
    rw[if_pos (by simpa using W),ng a5,j6,a1,j6,Iv (by omega) J (by omega),ED,Iw,ah (by omega),au a0,j6,rQ,j6,rQ,j6,j6,a1,j6,aP (by omega)];have a3:=Z b[(i*w+k)/8] (Z0 a0);rw[Og a3 (by omega)];have e:b[(i*w+k)/8].toNat.testBit ((i*w+k)%8)=dJ b (i*w+k):=by unfold dJ;rw[Zc,Z3 a0];rfl
    rw[e,aU];have e2:(((dJ b (i*w+k)).toNat:Nat):Int)%18446744073709551616=(((dJ b (i*w+k)).toNat:Nat):Int):=by cases dJ b (i*w+k)<;>rfl
    have h3:2^k*(dJ b (i*w+k)).toNat<18446744073709551616:=by
     have h:(2:Nat)^k<2^64:=Nat.pow_lt_pow_right (by decide) (by omega);have:(2:Nat)^64=18446744073709551616:=by decide
     cases dJ b (i*w+k)<;>simp<;>omega
    rw[e2,PQ (by omega),L2 (a2 k (by omega)) h3,Oh (λk=>dJ b (i*w+k)) k];congr 3;rw[List.set_append_right _ _ (by simp)];simp
   ·dsimp only;unfold jp mZ;rw[if_neg (by simp),aP (by omega)];have:many-i-1=many-(i+1):=by omega
    rw[this];simp[Yv,unp]
  ·dsimp only;unfold gr mY;rw[if_neg (by simp)];simp
 by_cases hl:r.fB.length<(many*w+7)/8
 ·rw[if_pos hl,if_pos hl,key _ _ (λc hc=>by rw[Yi hc];decide) (by simp)];congr 2;apply Y9;·simp
  ·intro j h h2;simp[L6]
 ·rw[if_neg hl,if_neg hl,key _ _ (Z.take _) (by simp;omega)];congr 2;apply Y9;·simp
  ·intro j h h2;simp only[Yn,List.getElem_range];rw[L5];simp at h;have:(j+1)*w<=many*w:=X7 _ h;omega
theorem vh{b:List Int}{w i:Nat}(hb:Byt b)(hi:i<1048576)(J:w<=64)(hl:(i+1)*w<=8*b.length):pn b (w:Int) (i:Int)=some ((unp b w i:Nat):Int):=by
 unfold pn;have a2:i*w<=1048576*64:=Zg (by omega) J;rw[Yx]at hl;have a0:=mL (λk=>dJ b (i*w+k)) w;have a4:(2:Nat)^w<=2^64:=Zh (by decide) J;have a3:(2:Nat)^64=18446744073709551616:=by decide
 refine aW (λt=>(((unp b w i/2^(w-t):Nat):Int),(w:Int)-1-(t:Int))) w ?_ (λt ht=>?_) ?_
 ·rw[ah (by omega)];have:unp b w i/2^(w-0)=0:=Nat.div_eq_of_lt a0;rw[this];simp
 ·dsimp only;unfold rL;obtain⟨k,hk⟩:∃k,w=t+1+k:=⟨w-t-1,by omega⟩;have e:(w:Int)-1-(t:Int)=(k:Int):=by omega
  have h:(i*w+k)/8<b.length:=by omega
  have a1:=hb b[(i*w+k)/8] (Z0 h);rw[e,if_pos (by simp),Iv hi J (by omega),ED,Iw,ah (n:=(((i*w+k)/8:Nat):Int)) (by omega),au h,j6,rQ,j6,ah (by omega)];have e1:w-t=k+1:=by omega
  have e2:w-(t+1)=k:=by omega
  rw[e1,e2,Ah (unp b w i) k];have Z:(aV .u8 b[(i*w+k)/8] (((i*w+k)%8:Nat):Int)).tmod 2=(((unp b w i).testBit k).toNat:Int):=by
   obtain⟨n,W⟩:=Z4 a1.1;rw[W,PN (by omega)];have h1:((n:Int)/2^((i*w+k)%8))=((n/2^((i*w+k)%8):Nat):Int):=by simp[Zf]
   rw[h1,Zj (Y3 _)];have h2:(unp b w i).testBit k=n.testBit ((i*w+k)%8):=by
    unfold unp;rw[lZ];have:dJ b (i*w+k)=n.testBit ((i*w+k)%8):=by unfold dJ;rw[Zc,Z3 h];simp[W]
    rw[this];have:k<w:=by omega
    simp[this]
   rw[h2,←Ai,Y8];rfl
  rw[Z,aU,aU,aU];have h5:unp b w i/2^(k+1)*2+((unp b w i).testBit k).toNat<18446744073709551616:=by have:=Ah (unp b w i) k;have h6:unp b w i/2^k<=unp b w i:=Ya _ _;have h7:unp b w i=eQ (λk=>dJ b (i*w+k)) w:=rfl;omega
  congr 3;·omega
  ·omega
 ·dsimp only;unfold rL wA;rw[if_neg (by simp;omega)];simp
def pU (l:List Int)(w q:Nat):List Int:=(Zq q).map λp=>((fS l w p).toNat:Int)
theorem Ix (l:List Int)(w q:Nat):pU l w (q+1)=pU l w q++[((fS l w q).toNat:Int)]:=by simp[pU,Yv]
theorem Bl (l:List Int){w:Nat}(hl:l.length<1048576)(hw:w<=64):ui (pU l w (l.length*w))=some (bU l w):=by
 have a3:l.length*w<=1048576*64:=Zg (by omega) hw;unfold ui;have h:(pU l w (l.length*w)).length=l.length*w:=by simp[pU]
 refine aW (λj=>((bU l w).take j,((8*j:Nat):Int))) ((l.length*w+7)/8) (by simp) (λj hj=>?_) ?_
 ·dsimp only;unfold uh;rw[h,if_pos (by simpa using by omega)];have a1:(bU l w).length=(l.length*w+7)/8:=fa _ _ _;refine aW (λt=>(((eQ (λk=>decide (8*j+k<l.length*w)&&fS l w (8*j+k)) 8/2^(8-t):Nat):Int),7-(t:Int))) 8 ?_ (λt ht=>?_) ?_
  ·have:=mL (λk=>decide (8*j+k<l.length*w)&&fS l w (8*j+k)) 8;rw[Nat.div_eq_of_lt (by simpa using this)];simp
  ·dsimp only;unfold ug uf;obtain⟨k,hk⟩:∃k,8=t+1+k:=⟨8-t-1,by omega⟩;have e:7-(t:Int)=(k:Int):=by omega
   have e1:8-t=k+1:=by omega
   have e2:8-(t+1)=k:=by omega
   have e4:Z9.wrap ((k:Int)-1)=7-((t+1:Nat):Int):=by rw[ah (by omega)];omega
   have e5:Z9.wrap (((8*j:Nat):Int)+(k:Int))=((8*j+k:Nat):Int):=by rw[ah (by omega)];omega
   rw[e,if_pos (by simp),e1,e2,e4,e5,Ah _ k];have hN:=mL (λk=>decide (8*j+k<l.length*w)&&fS l w (8*j+k)) 8;have a2:eQ (λk=>decide (8*j+k<l.length*w)&&fS l w (8*j+k)) 8/2^k<=eQ (λk=>decide (8*j+k<l.length*w)&&fS l w (8*j+k)) 8:=Ya _ _;have Z:=Ah (eQ (λk=>decide (8*j+k<l.length*w)&&fS l w (8*j+k)) 8) k;have W:=lZ (λk=>decide (8*j+k<l.length*w)&&fS l w (8*j+k)) 8 k;have a0:k<8:=by omega
   by_cases hp:8*j+k<l.length*w
   ·rw[if_pos (by simpa using by omega),au (by rw[h];exact hp),j6];have J:(pU l w (l.length*w))[8*j+k]'(by rw[h];exact hp)=(((eQ (λk=>decide (8*j+k<l.length*w)&&fS l w (8*j+k)) 8).testBit k).toNat:Int):=by rw[W];simp[pU,hp,a0]
    rw[J,bC,bC];congr 3;omega
   ·rw[if_neg (by simpa using by omega)];have J:(eQ (λk=>decide (8*j+k<l.length*w)&&fS l w (8*j+k)) 8).testBit k=false:=by rw[W];simp[hp]
    rw[J]at Z⊢;rw[bC];simp only[Bool.toNat_false,Nat.add_zero]at Z⊢;congr 3;omega
  ·dsimp only;unfold ug yV yU;rw[if_neg (by decide),aD (by simp;omega),j6];have h1:j<(bU l w).length:=by omega
   rw[zx h1];have h2:(bU l w)[j]=((eQ (λk=>decide (8*j+k<l.length*w)&&fS l w (8*j+k)) 8:Nat):Int):=nK _ _ _ _ _;have e9:((8*j:Nat):Int)+8=((8*(j+1):Nat):Int):=by omega
   rw[h2,ah (by omega),e9];simp
 ·dsimp only;unfold uh yT;rw[h,if_neg (by simp;omega)];rw[Zk (by unfold bU;rw[fa];omega)];rfl
theorem yl{l:List Int}{w:Nat}(Z:U64 l)(hl:l.length<1048576)(J:w<=64):sH l (w:Int)=some (bU l w):=by
 have a1:l.length*w<=1048576*64:=Zg (by omega) J;unfold sH;refine aW (λi=>(pU l w (i*w),(i:Int))) l.length (by simp[pU]) (λi hi=>?_) ?_
 ·dsimp only;unfold uk;have hx:=Z l[i] (Z0 hi);have a0:(i+1)*w<=l.length*w:=X7 _ hi;rw[Yx]at a0;rw[if_pos (by simpa using hi),au hi,j6];refine aW (λk=>(pU l w (i*w+k),((l[i].toNat/2^k:Nat):Int),(k:Int))) w ?_ (λk h=>?_) ?_;·simp;omega
  ·dsimp only;unfold uj;obtain⟨h1,W⟩:=Bk l w i k hi h;have h3:l[i].toNat/2^k<=l[i].toNat:=Ya _ _;have h4:l[i].toNat/2^(k+1)=l[i].toNat/2^k/2:=by rw[Yj,Zx]
   have h5:(((l[i].toNat/2^k:Nat):Int)).tmod 2=((fS l w (i*w+k)).toNat:Int):=by rw[W,←Ai,Y8,Zj (Y3 _)];rfl
   rw[if_pos (by simpa using h),h5,bC];have h6:((fS l w (i*w+k)).toNat:Int)%256=((fS l w (i*w+k)).toNat:Int):=by cases fS l w (i*w+k)<;>rfl
   rw[h6,aD (by simp[pU];omega),j6,←Nat.add_assoc,Ix,aP (by omega),aU,Zn (Y3 _),h4];congr 4;generalize l[i].toNat/2^k=q at*;omega
  ·dsimp only;unfold uj yW;rw[if_neg (by simp),aP (by omega)];simp[Yx]
 ·dsimp only;unfold uk;rw[if_neg (by simp),Bl l hl J];rfl
def wid (n:Nat):Nat:=if n=0 then 0 else n.log2+1
theorem zf (n:Nat):n<2^wid n:=by
 unfold wid;split;·omega
 ·exact Nat.lt_log2_self
theorem L7{n:Nat}(h:n≠0):wid n=wid (n/2)+1:=by
 unfold wid;rw[if_neg h];by_cases h1:n/2=0
 ·have:n=1:=by omega
  subst this;rfl
 ·rw[if_neg h1,Nat.log2_def,if_pos (by omega)]
theorem zg{n k:Nat}(h:2^k<=n):wid n=wid (n/2^k)+k:=by induction k generalizing n with
 |zero=>simp|succ k ih=>rw[Yj]at h;have:0<2^k:=Yy (by decide);rw[L7 (n:=n) (by omega),ih (n:=n/2) (by omega),Yj,Nat.mul_comm (2^k) 2,←Zx];omega
theorem py{n w:Nat}(h:n<2^w):wid n<=w:=by
 unfold wid;split;·omega
 ·rename_i J;have:=Nat.log2_lt J|>.2 h;omega
theorem Bm{n:Nat}(h:n<18446744073709551616):rG (n:Int)=some ((wid n:Nat):Int):=by
 unfold rG;have a0:wid n<=64:=py (by simpa using h);refine aW (λi=>(((n/2^i:Nat):Int),(i:Int))) (wid n) (by simp) (λi hi=>?_) ?_
 ·dsimp only;unfold vI;have h0:0<n/2^i:=by
   rcases Nat.eq_zero_or_pos (n/2^i)with h1|h1
   ·have:n<2^i:=by have:=Nat.div_eq_zero_iff.1 h1;have W:0<2^i:=Yy (by decide);omega
    have:=py this;omega
   ·exact h1
  have Z:n/2^i<=n:=Ya _ _;have J:n/2^(i+1)=n/2^i/2:=by rw[Yj,Zx]
  generalize n/2^i=q at*;rw[if_pos (decide_eq_true (by omega)),Zn (Y3 _),aU,aP (by omega),J];congr 3;omega
 ·dsimp only;unfold vI AH;have:n/2^wid n=0:=Nat.div_eq_of_lt (zf n);rw[this,if_neg (by decide)];rfl
def L8:List Int:=[0,1,2,2,3,3,3,3,4,4,4,4,4,4,4,4,5,5,5,5,5,5,5,5,5,5,5,5,5,5,5,5,6,6,6,6,6,6,6,6,6,6,6,6,6,6,6,6,6,6,6,6,6,6,6,6,6,6,6,6,6,6,6,6,7,7,7,7,7,7,7,7,7,7,7,7,7,7,7,7,7,7,7,7,7,7,7,7,7,7,7,7,7,7,7,7,7,7,7,7,7,7,7,7,7,7,7,7,7,7,7,7,7,7,7,7,7,7,7,7,7,7,7,7,7,7,7,7,8,8,8,8,8,8,8,8,8,8,8,8,8,8,8,8,8,8,8,8,8,8,8,8,8,8,8,8,8,8,8,8,8,8,8,8,8,8,8,8,8,8,8,8,8,8,8,8,8,8,8,8,8,8,8,8,8,8,8,8,8,8,8,8,8,8,8,8,8,8,8,8,8,8,8,8,8,8,8,8,8,8,8,8,8,8,8,8,8,8,8,8,8,8,8,8,8,8,8,8,8,8,8,8,8,8,8,8,8,8,8,8,8,8,8,8,8,8,8,8,8,8,8,8,8,8,8,8]
theorem Oi:∀n:_root_.Fin 256,idx L8 ((n.val:Nat):Int)=some ((wid n.val:Nat):Int):=by decide+kernel
set_option maxRecDepth 100000 in
theorem FQ (x y:Int):pF x y=(idx L8 (IntKind.u8.wrap x)).bind λr=>some (Z9.wrap (y+Z9.wrap r)):=rfl
theorem FR{n k:Nat}(h:n<256)(Z:k<=56):pF (n:Int) (k:Int)=some ((wid n+k:Nat):Int):=by have J:idx L8 (n:Int)=some ((wid n:Nat):Int):=Oi ⟨n,h⟩;have W:wid n<=8:=py (by simpa using h);rw[FQ,bC,show((n:Int)%256)=(n:Int)by omega,J,j6,ah (n:=((wid n:Nat):Int)) (by omega),ah (by omega)];congr 1;omega
theorem FS{n k:Nat}(h:n<65536)(J:k<=48):pG (n:Int) (k:Int)=some ((wid n+k:Nat):Int):=by
 unfold pG;by_cases h1:256<=n
 ·rw[if_pos (by simpa using by omega)];have e:aV .u64 (n:Int) 8=((n/2^8:Nat):Int):=by have:=sw (x:=(n:Int)) (k:=8) (by omega);simpa using this
  have e2:Z9.wrap ((k:Int)+8)=((k+8:Nat):Int):=by rw[ah (by omega)];rfl
  rw[e,e2,FR (by omega) (by omega),zg (n:=n) (k:=8) (by omega)];congr 2;omega
 ·rw[if_neg (by simpa using by omega),FR (by omega) (by omega)]
theorem FT{n k:Nat}(h:n<4294967296)(J:k<=32):pH (n:Int) (k:Int)=some ((wid n+k:Nat):Int):=by
 unfold pH;by_cases h1:65536<=n
 ·rw[if_pos (by simpa using by omega)];have e:aV .u64 (n:Int) 16=((n/2^16:Nat):Int):=by have:=sw (x:=(n:Int)) (k:=16) (by omega);simpa using this
  have e2:Z9.wrap ((k:Int)+16)=((k+16:Nat):Int):=by rw[ah (by omega)];rfl
  rw[e,e2,FS (by omega) (by omega),zg (n:=n) (k:=16) (by omega)];congr 2;omega
 ·rw[if_neg (by simpa using by omega),FS (by omega) (by omega)]
theorem FU{n:Nat}(h:n<18446744073709551616):qH (n:Int)=some ((wid n:Nat):Int):=by
 unfold qH;by_cases h1:4294967296<=n
 ·rw[if_pos (by simpa using by omega)];have e:aV .u64 (n:Int) 32=((n/2^32:Nat):Int):=by have:=sw (x:=(n:Int)) (k:=32) (by omega);simpa using this
  rw[e,show(32:Int)=((32:Nat):Int)from rfl,FT (by omega) (by omega),zg (n:=n) (k:=32) (by omega)]
 ·rw[if_neg (by simpa using by omega),show(0:Int)=((0:Nat):Int)from rfl,FT (by omega) (by omega)];rfl
theorem len_eq{n:Nat}(h:n<18446744073709551616):t7 (n:Int)=some ((wid n:Nat):Int):=by unfold t7;rw[FU h];rfl
theorem Ht:∀s:List Int,ltB s s=false
 |[]=>rfl|a::x=>by simp[ltB,Ht x]
theorem DQ:∀{s u v:List Int},ltB s u=true->ltB u v=true->ltB s v=true
 |_,[],_,h,_=>by simp[ltB]at h|_,_::_,[],_,h=>by simp[ltB]at h|[],_::_,_::_,_,_=>rfl|a::x,b::y,c::z,h,k=>by
  simp only[ltB,Bool.or_eq_true,decide_eq_true_eq,Bool.and_eq_true,beq_iff_eq]at*;rcases h with h|⟨rfl,h⟩
  ·rcases k with k|⟨rfl,k⟩;·left;omega
   ·left;exact h
  ·rcases k with k|⟨rfl,k⟩;·left;exact k
   ·right;exact⟨rfl,DQ h k⟩
theorem Hu:∀{s u:List Int},ltB s u=false->ltB u s=false->s=u
 |[],[],_,_=>rfl|[],_::_,h,_=>by simp[ltB]at h|_::_,[],_,h=>by simp[ltB]at h|a::x,b::y,h,k=>by
  simp only[ltB,Bool.or_eq_false_iff,decide_eq_false_iff_not]at h k;have e:a=b:=by omega
  subst e;simp only[beq_self_eq_true,Bool.true_and]at h k;rw[Hu h.2 k.2]
def ltV (a b:Ap):Bool:=if a.fKind !=b.fKind then decide (a.fKind<b.fKind)else if a.fKind==1 then !a.fBool&&b.fBool else if a.fKind==2 then decide (a.fInt<b.fInt)else if a.fKind==3 then ltB a.fText b.fText else false
theorem Hv (a b:Ap):rF a b=some (ltV a b):=by
 unfold rF lM qO ltV;repeat' split
 all_goals simp_all
theorem rR (a:Ap):ltV a a=false:=by
 unfold ltV;repeat' split
 all_goals simp_all[Ht]
theorem vi{a b c:Ap}(h:ltV a b=true)(k:ltV b c=true):ltV a c=true:=by
 obtain⟨ka,ba,na,ta⟩:=a;obtain⟨kb,bb,nb,tb⟩:=b;obtain⟨kc,bc,nc,tc⟩:=c;simp only[ltV]at*;by_cases e1:ka=kb
 ·subst e1;by_cases e2:ka=kc
  ·subst e2;by_cases e1:ka=1;·subst e1;cases ba<;>cases bb<;>cases bc<;>simp_all
   by_cases e2:ka=2;·subst e2;simp at*;omega
   by_cases e3:ka=3;·subst e3;simp at*;exact DQ h k
   ·have J:(ka==1)=false:=by simpa using e1
    have W:(ka==2)=false:=by simpa using e2
    have Z:(ka==3)=false:=by simpa using e3
    simp[J,W,Z]at h
  ·have:(ka !=kc)=true:=by simpa using e2
   simp only[this,if_true]at*;exact k
 ·have J:(ka !=kb)=true:=by simpa using e1
  simp only[J,if_true,decide_eq_true_eq]at h;by_cases e2:kb=kc;·subst e2;simp only[J,if_true,decide_eq_true_eq];exact h
  ·have W:(kb !=kc)=true:=by simpa using e2
   simp only[W,if_true,decide_eq_true_eq]at k;have Z:(ka !=kc)=true:=by simp;omega
   simp only[Z,if_true,decide_eq_true_eq];omega
theorem tP{a b:Ap}(W:Rgt a)(J:Rgt b)(h:ltV a b=false)(k:ltV b a=false):a=b:=by
 cases W<;>cases J<;>simp[ltV]at h k;·rfl
 ·rename_i x y;cases x<;>cases y<;>simp_all
 ·have:∀x y:Int,x=y->gY x=gY y:=λx y h=>by rw[h]
  apply this;omega
 ·rw[Hu h k]
def ly (a b:Ap):Int:=if ltV a b then-1 else if ltV b a then 1 else 0
theorem rS (a b:Ap):jn a b=some (ly a b):=by unfold jn ly;rw[Hv,Hv,j6,j6];cases ltV a b<;>cases ltV b a<;>rfl
theorem fc (a b:Ap):cy a b=some (ly a b):=by
 unfold cy fV iZ jh mc kp mX eR ly vt;simp only[bne_self_eq_false,j6,Zb,if_false];obtain⟨ka,ba,na,ta⟩:=a;obtain⟨kb,Z,nb,tb⟩:=b;simp only[ltV];by_cases e:ka=kb
 ·subst e;simp only[bne_self_eq_false,Zb,if_false];by_cases e1:ka=1;·subst e1;cases ba<;>cases Z<;>simp
  ·have J:(ka==1)=false:=by simpa using e1
   simp only[J,Zb,if_false];by_cases e2:ka=2
   ·subst e2;simp;repeat' split
    all_goals rfl
   ·have h:(ka==2)=false:=by simpa using e2
    simp only[h,Zb,if_false];by_cases e3:ka=3;·subst e3;simp
    ·have W:(ka==3)=false:=by simpa using e3
     simp[W]
 ·have J:(ka !=kb)=true:=by simpa using e
  have h:(kb !=ka)=true:=by simp;omega
  simp only[J,h,if_true,decide_eq_true_eq];repeat' split
  all_goals rfl
theorem ux{a b:Ap}(h:ltV a b=true):ltV b a=false:=by cases k:ltV b a with
 |false=>rfl|true=>have:=vi h k;rw[rR]at this;cases this
theorem l5 (a b:Ap):ly a b<0↔ltV a b=true:=by
 unfold ly;repeat' split
 all_goals simp_all
theorem Hw (a b:Ap):ly a b<=0↔ltV b a=false:=by
 unfold ly;split;·rename_i h;simp[ux h]
 ·split;·rename_i h;simp[h]
  ·rename_i h;simpa using h
theorem DR{a b:Ap}(ha:Rgt a)(W:Rgt b):ly a b=0↔a=b:=by
 unfold ly;constructor
 ·intro h;split at h;·cases h
  split at h;·cases h
  rename_i J Z;exact tP ha W (by simpa using J) (by simpa using Z)
 ·rintro rfl;rw[rR];rfl
theorem PS{l:List Ap}(h:∀v∈l,Rgt v):Ld cy l:=by
 refine⟨λx _ y _=>⟨_,fc x y,?_⟩,λx _=>?_,λx _ y _ z _ W J=>?_,λx hx y hy z hz W J Z=>?_,λx hx y hy W J=>?_⟩
 ·rw[nv];unfold ly;repeat' split
  all_goals decide
 ·rw[fc];simp only[Yd];rw[l5,rR];decide
 ·rw[fc]at*;simp only[Yd,l5]at*;exact vi W J
 ·rw[fc]at*;simp only[Yd,l5,Bool.not_eq_true]at*;cases hyx:ltV y x with
  |true=>have:=vi hyx Z;rw[J]at this;cases this|false=>have:=tP (h x hx) (h y hy) W hyx;subst this;rw[J]at Z;cases Z
 ·rw[fc]at*;simp only[Yd,l5,Bool.not_eq_true]at*;exact tP (h x hx) (h y hy) W J
abbrev Ris (l:List Ap):Prop:=l.Pairwise λa b=>ltV a b=true
theorem Ris.one:∀{l k:List Ap},Ris l->Ris k->(∀v,v∈l↔v∈k)->l=k
 |[],[],_,_,_=>rfl|[],b::k,_,_,h=>by have:=(h b).2 (by simp);cases this|a::l,[],_,_,h=>by have:=(h a).1 (by simp);cases this|a::l,b::k,hl,hk,h=>by
  have a1:=Zz.1 hl;have a0:=Zz.1 hk;have e:a=b:=by
   have W:=(h a).1 (by simp);have J:=(h b).2 (by simp);rcases Y0.1 W with W|W;·exact W
   rcases Y0.1 J with J|J;·exact J.symm
   have:=ux (a0.1 a W);rw[a1.1 b J]at this;cases this
  subst e;congr 1;refine Ris.one a1.2 a0.2 λv=>?_;have Z:=h v;simp only[Y0]at Z;constructor
  ·intro hm;rcases Z.1 (.inr hm)with e|e;·subst e;have:=a1.1 v hm;rw[rR]at this;cases this
   ·exact e
  ·intro hm;rcases Z.2 (.inr hm)with e|e;·subst e;have:=a0.1 v hm;rw[rR]at this;cases this
   ·exact e
theorem Ris.nodup{l:List Ap}(h:Ris l):l.Nodup:=h.imp λ{a b}h e=>by subst e;rw[rR]at h;cases h
def ins (v:Ap):List Ap->List Ap
 |[]=>[v]|x::r=>if ltV x v then x::ins v r else if v=x then x::r else v::x::r
theorem C4 (v:Ap):∀(l:List Ap) (x:Ap),x∈ins v l↔x=v\/x∈l
 |[],x=>by simp[ins]|y::r,x=>by
  simp only[ins];split
  ·simp only[Y0,C4 v r x];constructor<;>(intro h;rcases h with h|h|h<;>simp[h])
  split;·rename_i e;subst e;simp
  ·simp
theorem Hx (v:Ap)(Z:Rgt v):∀{l:List Ap},(∀x∈l,Rgt x)->Ris l->Ris (ins v l)
 |[],_,_=>by simp[ins]|y::r,hr,h=>by
  have W:=Zz.1 h;simp only[ins];split
  ·rename_i a1;refine Zz.2 ⟨λx J=>?_,Hx v Z (λx J=>hr x (by simp[J])) W.2⟩;rcases(C4 v r x).1 J with e|e;·subst e;exact a1
   ·exact W.1 x e
  split;·exact h
  ·rename_i h1 h2;have a0:ltV v y=true:=by cases h3:ltV v y with
    |true=>rfl|false=>exact absurd (tP Z (hr y (by simp)) h3 (by simpa using h1)) h2
   refine Zz.2 ⟨λx J=>?_,h⟩;rcases Y0.1 J with e|e;·subst e;exact a0
   ·exact vi a0 (W.1 x e)
def aB (l:List Ap):List Ap:=l.foldl (λout v=>ins v out) []
theorem Iy (l:List Ap)(v:Ap):aB (l++[v])=ins v (aB l):=by simp[aB]
theorem B7{l:List Ap}{i:Nat}(h:i<l.length):aB (l.take (i+1))=ins l[i] (aB (l.take i)):=by rw[zx h,Iy]
theorem dp{l:List Ap}(h:∀v∈l,Rgt v):Ris (aB l)/\(∀v,v∈aB l↔v∈l)/\(aB l).length<=l.length:=by
 have key:∀i,i<=l.length->Ris (aB (l.take i))/\(∀v,v∈aB (l.take i)↔v∈l.take i)/\(aB (l.take i)).length<=i:=by
  intro i;induction i with
  |zero=>intro _;simp[aB]|succ i ih=>
   intro hi;obtain⟨Z,W,h3⟩:=ih (by omega);have J:i<l.length:=by omega
   rw[B7 J];have hr:∀x∈aB (l.take i),Rgt x:=λx hx=>h x (Zm ((W x).1 hx));refine⟨Hx _ (h _ (Z0 J)) hr Z,λv=>?_,?_⟩
   ·rw[C4,W,zx J,Zd,Yc];exact or_comm
   ·have:∀(v:Ap) (l:List Ap),(ins v l).length<=l.length+1:=by
     intro v l;induction l with
     |nil=>simp[ins]|cons y r ih=>
      simp only[ins];repeat' split
      all_goals simp
      omega
    have:=this l[i] (aB (l.take i));omega
 have:=key l.length (Zr _);rwa[Z2]at this
def rT (v:Ap)(s:List Ap×Bool)(x:Ap):List Ap×Bool:=if !s.2&&decide (ly v x<=0)then (if ly v x=0 then (s.1++[v],true)else (s.1++[v]++[x],true))else (s.1++[x],s.2)
theorem zh (v:Ap):∀(l a:List Ap),l.foldl (rT v) (a,true)=(a++l,true)
 |[],a=>by simp|x::r,a=>by simp[rT,zh v r]
theorem Hy (v:Ap)(J:Rgt v):∀(l a:List Ap),(∀x∈l,Rgt x)->(if (l.foldl (rT v) (a,false)).2 then (l.foldl (rT v) (a,false)).1 else (l.foldl (rT v) (a,false)).1++[v])=a++ins v l
 |[],a,_=>by simp[ins]|x::r,a,h=>by simp only[Zt,rT,ins];cases hx:ltV x v with
  |true=>
   have:¬ly v x<=0:=by rw[Hw,hx];decide
   simp only[this,decide_false,Bool.and_false,Zb,if_false,if_true];rw[Hy v J r (a++[x]) (λy Z=>h y (by simp[Z]))];simp|false=>
   have W:ly v x<=0:=(Hw v x).2 hx;by_cases e:ly v x=0
   ·have e2:=(DR J (h x (by simp))).1 e;subst e2;simp[e,zh]
   ·have e2:v≠x:=λe2=>e ((DR J (h x (by simp))).2 e2);simp[W,e,e2,zh]
theorem rU (v:Ap):∀(l a:List Ap) (d:Bool),(l.foldl (rT v) (a,d)).1.length<=a.length+l.length+(if d then 0 else 1)
 |[],a,d=>by simp|x::r,a,d=>by
  simp only[Zt,rT];cases d
  ·simp only[Bool.not_false,Bool.true_and];split
   ·split;·have:=rU v r (a++[v]) true;simp at this⊢;omega
    ·have:=rU v r (a++[v]++[x]) true;simp at this⊢;omega
   ·have:=rU v r (a++[x]) false;simp at this⊢;omega
  ·have:=rU v r (a++[x]) true;simp at this⊢;omega
theorem jq{O β:Type}{f:β->O->β}{b:β}{l:List O}{i:Nat}(h:i<l.length):(l.take (i+1)).foldl f b=f ((l.take i).foldl f b) l[i]:=by rw[zx h,List.foldl_append];rfl
theorem FV{l:List Ap}(h:∀v∈l,Rgt v)(hl:l.length<1048576):xk l=some (aB l):=by
 unfold xk;refine aW (λi=>(aB (l.take i),(i:Int))) l.length (by simp[aB]) (λi hi=>?_) ?_
 ·dsimp only;unfold vH;obtain⟨h1,h2,h3⟩:=dp (l:=l.take i) λv J=>h v (Zm J);have a2:(aB (l.take i)).length<=i:=by simp at h3;omega
  have hr:∀x∈aB (l.take i),Rgt x:=λx hx=>h x (Zm ((h2 x).1 hx));have J:=h l[i] (Z0 hi);rw[if_pos (by simpa using hi)];generalize hw:aB (l.take i)=W at*;have a1:=Hy l[i] J W [] hr;refine aW (λk=>(((W.take k).foldl (rT l[i]) ([],false)).1,((W.take k).foldl (rT l[i]) ([],false)).2,(k:Int))) W.length (by simp) (λk Z=>?_) ?_
  ·dsimp only;have a0:=rU l[i] (W.take k) [] false;simp only[List.length_nil,Zv,Zb,if_false]at a0;unfold vG vF vE vD;rw[if_pos (by simpa using Z),au hi,j6,au Z,j6,rS,j6,aP (by omega),jq Z];generalize hs:(W.take k).foldl (rT l[i]) ([],false)=s at*;obtain⟨s1,s2⟩:=s;simp only[rT]at*;cases s2
   ·simp only[Bool.not_false,if_true,Bool.true_and,j6];by_cases e:ly l[i] W[k]<=0
    ·simp only[e,decide_true,if_true];rw[aD (by simp;omega),j6];by_cases e0:ly l[i] W[k]=0;·rw[if_pos (by simpa using e0),if_pos e0]
     ·rw[if_neg (by simpa using e0),if_neg e0,aD (by simp;omega),j6]
    ·simp only[e,decide_false,Zb,if_false];rw[aD (by simp;omega),j6]
   ·simp only[Kc,Zb,if_false,Bool.false_and,j6];rw[aD (by simp;omega),j6]
  ·dsimp only;have a0:=rU l[i] W [] false;simp only[List.length_nil,Zb,if_false]at a0;unfold vG AG vC AF;rw[if_neg (by simp),Z2,aP (by omega),B7 hi,hw];rw[show([]:List Ap)++ins l[i] W=ins l[i] W from rfl]at a1;rw[←a1];cases hd:(W.foldl (rT l[i]) ([],false)).2
   ·simp only[Bool.not_false,if_true,Zb,if_false];rw[au hi,j6,aD (by simp;omega)];rfl
   ·simp
 ·dsimp only;unfold vH AE;rw[if_neg (by simp),Z2];rfl
def dd (s:List Ap):List Ap:=s.foldl (λout v=>if out.getLast?=some v then out else out++[v]) []
theorem C5 (s:List Ap)(v:Ap):dd (s++[v])=if (dd s).getLast?=some v then dd s else dd s++[v]:=by unfold dd;rw[List.foldl_append];rfl
theorem Hz (s:List Ap){i:Nat}(h:i<s.length):(dd (s.take (i+1))).getLast?=some s[i]:=by
 rw[zx h,C5];split;·assumption
 ·simp
theorem C6 (s:List Ap){i:Nat}(h:i+1<s.length):dd (s.take (i+2))=if s[i+1]=s[i]then dd (s.take (i+1))else dd (s.take (i+1))++[s[i+1]]:=by
 rw[zx h,C5,Hz s (by omega)];by_cases e:s[i+1]=s[i];·rw[if_pos e,if_pos (by rw[e])]
 ·rw[if_neg e,if_neg (λh=>e (Option.some.inj h).symm)]
theorem PT (s:List Ap)(h:0<s.length):dd (s.take 1)=s.take 1:=by match s,h with|a::r,_=>rfl
theorem Oj{s:List Ap}(hr:∀x∈s,Rgt x)(h:s.Pairwise λx y=>ltV y x=false):Ris (dd s)/\(∀v,v∈dd s↔v∈s):=by
 have key:∀i,i<=s.length->Ris (dd (s.take i))/\(∀v,v∈dd (s.take i)↔v∈s.take i):=by
  intro i;induction i with
  |zero=>intro _;simp[dd]|succ i ih=>
   intro hi;obtain⟨h1,Z⟩:=ih (by omega);have W:i<s.length:=by omega
   rw[zx W,C5];split
   ·rename_i e;refine⟨h1,λv=>?_⟩;rw[Z,Zd,Yc];constructor;·exact .inl
    ·rintro (hm|rfl);·exact hm
     ·exact(Z _).1 (Yf e)
   ·rename_i e;refine⟨X9.2 ⟨h1,by simp,λa ha b hb=>?_⟩,λv=>by rw[Zd,Zd,Z]⟩;have a1:b=s[i]:=by simpa using hb
    subst a1;have a2:=(Z a).1 ha;obtain⟨j,hj,rfl⟩:=List.getElem_of_mem a2;simp only[Zv]at hj;have a0:ltV s[i] s[j]=false:=Yg.1 h j i (by omega) W (by omega);rw[List.getElem_take]at ha⊢;cases hlt2:ltV s[j] s[i]with
    |true=>rfl|false=>
     have e2:=tP (hr _ (Z0 (by omega))) (hr _ (Z0 W)) hlt2 a0;exfalso;apply e;have a3:0<i:=by omega
     obtain⟨J,rfl⟩:∃J,i=J+1:=⟨i-1,by omega⟩;rw[Hz s (by omega)];congr 1;apply tP (hr _ (Z0 (by omega))) (hr _ (Z0 W));·cases h3:ltV s[J] s[J+1]with
      |false=>rfl|true=>
       rw[←e2]at h3;by_cases e3:j=J;·subst e3;rw[rR]at h3;cases h3
       ·have:=Yg.1 h j J (by omega) (by omega) (by omega);rw[this]at h3;cases h3
     ·exact Yg.1 h J (J+1) (by omega) W (by omega)
 have:=key s.length (Zr _);rwa[Z2]at this
theorem Iz (s:List Ap)(hs:s.length<1048576):eE s=some (dd s):=by
 unfold eE;by_cases h2:s.length<2
 ·rw[if_pos (by simpa using by omega)];match s,h2 with
  |[],_=>rfl|[a],_=>rfl
 rw[if_neg (by simpa using by omega)];refine nI (I:=λs':Int=>∃i:Nat,s'=((i+1:Nat):Int)/\i+1<=s.length/\dd (s.take (i+1))=s.take (i+1)) (μ:=λx=>s.length-x.toNat) ?_ ⟨0,rfl,by omega,PT s (by omega)⟩;rintro _⟨i,rfl,hi,W⟩;unfold gq;by_cases hlt:i+1<s.length
 ·have e1:Z9.wrap (((i+1:Nat):Int)-1)=(i:Int):=by rw[ah (by omega)];omega
  rw[if_pos (by simpa using by omega),ng hlt,j6,Z3 hlt,j6,e1,ng (by omega),j6,Z3 (by omega),j6];by_cases e:s[i+1]=s[i]
  ·right;rw[if_pos (by simpa using e)];have hv:vw s ((i+1:Nat):Int) (s.length:Int)=some (i+1,s.length-(i+1)):=by unfold vw;rw[if_pos (by omega)];simp only[Yr]
   rw[hv,j6];refine nI (I:=λt:Int×Int×List Ap=>∃p k2:Nat,p=i+1+k2/\1<=k2/\p<=s.length/\t.1=((dd (s.take p)).length:Int)/\t.2.1=(k2:Int)/\t.2.2.length=s.length/\(dd (s.take p)).length+1<=p/\t.2.2.take (dd (s.take p)).length=dd (s.take p)/\t.2.2.drop (p-1)=s.drop (p-1)) (μ:=λt=>s.length-t.2.1.toNat) ?_ ?_
   ·rintro⟨t1,t2,xs⟩⟨p,k2,hp,b1,a9,rfl,rfl,a2,a6,Z,J⟩;unfold gp;have hm:Nat.ble (s.length-(i+1)) cz=true:=Nat.ble_eq_true_of_le (by unfold cz;omega);dsimp only at*;rw[ut hm,j6];by_cases hlt2:p<s.length
    ·left;have a0:xs[p]?=some s[p]:=by
      have:(xs.drop (p-1))[1]?=(s.drop (p-1))[1]?:=by rw[J]
      rw[Ys,Ys]at this;have e:p-1+1=p:=by omega
      rw[e]at this;rw[this,Z3 hlt2]
     have a4:xs[p-1]?=some s[p-1]:=by
      have:(xs.drop (p-1))[0]?=(s.drop (p-1))[0]?:=by rw[J]
      rw[Ys,Ys]at this;rw[Nat.add_zero]at this;rw[this,Z3 (by omega)]
     have e2:ixv (i+1) (s.length-(i+1)) (k2:Int)=some p:=by unfold ixv;rw[if_pos (by omega)];simp;omega
     have e3:ixv (i+1) (s.length-(i+1)) (Z9.wrap ((k2:Int)-1))=some (p-1):=by rw[ah (by omega)];unfold ixv;rw[if_pos (by omega)];simp;omega
     have h:=C6 s (i:=p-1) (by omega);have e4:p-1+1=p:=by omega
     have e5:p-1+2=p+1:=by omega
     simp only[e4,e5]at h;rw[if_pos (by simpa using by omega),e2,j6,a0,j6,e3,j6,a4,j6];by_cases e6:s[p]=s[p-1]
     ·rw[if_pos e6]at h;rw[if_neg (by simpa using e6)];unfold dI;refine⟨_,rfl,⟨p+1,k2+1,by omega,by omega,by omega,by rw[h],?_,a2,by rw[h];omega,by rw[h];exact Z,?_⟩,?_⟩;·exact aP (by omega)
      ·have:p+1-1=p-1+1:=by omega
       rw[this,←Y5,←Y5,J]
      ·dsimp only;rw[aP (by omega)];simp;omega
     ·rw[if_neg e6]at h;rw[if_pos (by simpa using e6)];have a1:(dd (s.take p)).length<xs.length:=by omega
      rw[j6,a0,j6,ng a1,j6,Z3 a1,j6];unfold dI;refine⟨_,rfl,⟨p+1,k2+1,by omega,by omega,by omega,?_,aP (by omega),by simp[a2],by rw[h];simp;omega,?_,?_⟩,?_⟩;·rw[h,aP (by omega)];simp
      ·rw[h];simp only[Z1,Z6];rw[zx (by simp;omega)];rw[List.take_set_of_le (Zr _),Z];simp
      ·rw[List.drop_set_of_lt (by omega)];have:p+1-1=p-1+1:=by omega
       rw[this,←Y5,←Y5,J]
      ·dsimp only;rw[aP (by omega)];simp;omega
    ·right;have a5:p=s.length:=by omega
     subst a5;rw[if_neg (by simpa using by omega)];unfold gn;rw[Z2]at*;have a3:vw xs ((dd s).length:Int) (xs.length:Int)=some ((dd s).length,xs.length-(dd s).length):=by unfold vw;rw[if_pos (by omega)];simp only[Yr]
     rw[a3,j6];unfold clr;rw[if_pos (by dsimp only;omega),j6];have b0:(spl xs (dd s).length (Z5 (xs.length-(dd s).length) Ap.zero)).length=xs.length:=by unfold spl;simp;omega
     have:=cx (xs:=spl xs (dd s).length (Z5 (xs.length-(dd s).length) Ap.zero)) (lo:=0) (hi:=(dd s).length) (by omega) (by omega);rw[show((0:Nat):Int)=0 from rfl]at this;rw[this];have e7:(spl xs (dd s).length (Z5 (xs.length-(dd s).length) Ap.zero)).take (dd s).length=dd s:=by unfold spl;rw[Zi,Y6 (by simp;omega)];exact Z
     rw[X4,e7];rfl
   ·have h:=C6 s (i:=i) (by omega);rw[if_pos e,W]at h;refine⟨i+2,1,by omega,by omega,by omega,?_,rfl,rfl,?_,?_,rfl⟩;·rw[h];simp;omega
    ·rw[h];simp;omega
    ·rw[h];simp
  ·left;rw[if_neg (by simpa using e)];unfold gm;refine⟨_,rfl,⟨i+1,aP (by omega),by omega,?_⟩,?_⟩
   ·rw[C6 s (i:=i) (by omega),if_neg e,W];exact(zx hlt).symm
   ·rw[aP (by omega)];simp;omega
 ·right;have:i+1=s.length:=by omega
  rw[if_neg (by simpa using by omega)];rw[this,Z2]at W;unfold gl;rw[W];rfl
theorem B8{l:List Ap}(h:∀v∈l,Rgt v)(hl:l.length<1048576):∃r,ll l cy=some r/\eE r=some (aB l):=by
 obtain⟨r,W⟩:∃r,zQ cy l=some r:=by unfold zQ;rw[if_pos (PS h)];exact⟨_,rfl⟩
 obtain⟨_,J,hs⟩:=BA W;refine⟨r,W,?_⟩;rw[Iz r (by rw[J.length_eq];exact hl)];congr 1;have Z:∀x∈r,Rgt x:=λx hx=>h x (J.mem_iff.1 hx);have a0:r.Pairwise λx y=>ltV y x=false:=hs.imp λ{x y}h=>by rw[fc]at h;simp only[Yd,l5,Bool.not_eq_true]at h;exact h
 obtain⟨h1,h2⟩:=Oj Z a0;obtain⟨h3,h4,_⟩:=dp h;exact Ris.one h1 h3 λv=>by rw[h2,h4,J.mem_iff]
theorem JO{O β σ:Type}{f:σ->Option (σ⊕β)}{s:σ}(S:Nat->σ)(xs:List O)(p:O->Bool)(W J:β)(h0:s=S 0)(step:∀(i:Nat)(h:i<xs.length),p xs[i]=true->f (S i)=some (.inl (S (i+1))))(out:∀(i:Nat) (h:i<xs.length),p xs[i]=false->f (S i)=some (.inr W)) (a0:f (S xs.length)=some (.inr J)):am f s=some (if xs.all p then J else W):=by
 have key:∀k i:Nat,i+k=xs.length->am f (S i)=some (if (xs.drop i).all p then J else W):=by
  intro k;induction k with
  |zero=>
   intro i hi;have:i=xs.length:=by omega
   subst this;rw[aR a0];simp|succ k ih=>
   intro i hi;have Z:i<xs.length:=by omega
   rw[Z7 Z,List.all_cons];cases hp:p xs[i]with
   |true=>rw[bI (step i Z hp),ih (i+1) (by omega)];simp|false=>rw[aR (out i Z hp)];simp
 have:=key xs.length 0 (by omega);rw[h0];simpa using this
def zi (out:List aS)(v:Ap):List aS:=match out.getLast? with
 |some r=>if r.fValue=v then out.dropLast++[⟨r.fMany+1,v⟩]else out++[⟨1,v⟩]|none=>[⟨1,v⟩]
def bh (l:List Ap):List aS:=l.foldl zi []
def gh (l:List aS):List Ap:=l.flatMap λr=>Z5 r.fMany.toNat r.fValue
theorem tA{l:List Ap}{i:Nat}(h:i<l.length):bh (l.take (i+1))=zi (bh (l.take i)) l[i]:=jq h
theorem JP (out:List aS)(v:Ap):∃n,(zi out v).getLast?=some ⟨n,v⟩:=by
 unfold zi;split
 ·rename_i r _;split;·exact⟨r.fMany+1,by simp⟩
  ·exact⟨1,by simp⟩
 ·exact⟨1,by simp⟩
theorem sY{O:Type}{l:List O}{a:O}(h:l.getLast?=some a):l=l.dropLast++[a]:=by cases l with
 |nil=>cases h|cons x r=>
  have J:(x::r).getLast (by simp)=a:=by rw[List.getLast?_eq_some_getLast (by simp)]at h;exact Option.some.inj h
  rw[←J,List.dropLast_concat_getLast]
theorem zj (l:List Ap){i:Nat}(hi:i<=l.length):(∀r∈bh (l.take i),1<=r.fMany/\r.fMany<=i/\r.fValue∈l)/\(bh (l.take i)).length<=i/\gh (bh (l.take i))=l.take i:=by induction i with
 |zero=>simp[bh,gh]|succ i ih=>
  obtain⟨h1,h2,Z⟩:=ih (by omega);have a1:i<l.length:=by omega
  rw[tA a1,zx a1];generalize hw:bh (l.take i)=W at*;unfold zi;have hm:=Z0 a1;split
  ·rename_i r J;split
   ·rename_i e;have a0:=sY J;have a2:r∈W:=Yf J;obtain⟨g1,g2,g3⟩:=h1 r a2;refine⟨λx h=>?_,?_,?_⟩
    ·rcases Zd.1 h with h|h;·have:=h1 x (by rw[a0];exact List.mem_append_left _ h);exact⟨this.1,by omega,this.2.2⟩
     ·have:x=⟨r.fMany+1,l[i]⟩:=by simpa using h
      subst this;exact⟨by simp;omega,by simp;omega,hm⟩
    ·have:W.length=W.dropLast.length+1:=by rw[a0];simp
     simp;omega
    ·rw[←Z];have e1:gh W=gh W.dropLast++Z5 r.fMany.toNat r.fValue:=by
      conv=>lhs;rw[a0]
      simp[gh]
     rw[e1];have e2:(r.fMany+1).toNat=r.fMany.toNat+1:=by omega
     simp[gh,e2,List.replicate_succ',e]
   ·refine⟨λx h=>?_,by simp;omega,?_⟩
    ·rcases Zd.1 h with h|h;·have:=h1 x h;exact⟨this.1,by omega,this.2.2⟩
     ·have:x=⟨1,l[i]⟩:=by simpa using h
      subst this;exact⟨by simp,by simp;omega,hm⟩
    ·rw[←Z];simp[gh]
  ·rename_i J;have:W=[]:=List.getLast?_eq_none_iff.1 J;subst this;refine⟨λx h=>?_,by simp,?_⟩
   ·have:x=⟨1,l[i]⟩:=by simpa using h
    subst this;exact⟨by simp,by simp;omega,hm⟩
   ·rw[←Z];simp[gh]
theorem L9{O:Type}(l:List O)(a:O)(n:Nat)(h:l.length=n+1):l.set n a=l.dropLast++[a]:=by
 apply Y9;·simp;omega
 intro j J W;rw[List.getElem_set];split
 ·rename_i e;subst e;rw[List.getElem_append_right (by simp;omega)];simp
 ·simp at J;rw[List.getElem_append_left (by simp;omega),List.getElem_dropLast]
theorem Ok (l:List Ap)(hl:l.length<=1048576):mA l=some (bh l):=by
 unfold mA;refine aW (λi=>((i:Int),bh (l.take i))) l.length (by simp[bh]) (λi hi=>?_) ?_
 ·dsimp only;obtain⟨h1,h2,_⟩:=zj l (i:=i) (by omega);rw[tA hi];generalize bh (l.take i)=W at*;unfold lj;rw[if_pos (by simpa using hi),au hi,j6];have a0:fh (i:Int) W l[i] (W.length:Int)=some (.inr (.inl ((((i+1:Nat):Int)),W++[⟨1,l[i]⟩]))):=by unfold fh n8 jA;rw[if_neg (by simp),aD (by simp;omega),j6,aP (by omega)];rfl
  have Z:∀k,k+1<W.length->fh (i:Int) W l[i] (k:Int)=some (.inl ((k+1:Nat):Int)):=by intro k J;unfold fh io;rw[if_pos (by simpa using by omega),if_neg (by rw[ah (by omega)];simp;omega),if_neg (by decide),aP (by omega)]
  unfold zi;cases hg:W.getLast? with
  |none=>have:W=[]:=List.getLast?_eq_none_iff.1 hg;subst this;exact aR a0|some r=>
   dsimp only;have a1:=sY hg;obtain⟨n,hn⟩:∃n,W.length=n+1:=⟨W.length-1,by
    have:W.length=W.dropLast.length+1:=by rw[a1];simp
    omega⟩;have h:W[n]?=some r:=by rw[List.getLast?_eq_getElem?,hn]at hg;exact hg
   have a2:=h1 r (Yf hg);by_cases e:r.fValue=l[i]
   ·rw[if_pos e];refine aW (λk=>(k:Int)) n rfl (λk J=>Z k (by omega)) ?_;unfold fh io jA;rw[if_pos (by simpa using by omega),if_pos (by rw[ah (by omega)];simp;omega),ng (by omega),j6,h,j6,if_pos (by simpa using e),j6,h,j6,j6,h,j6,aP (by omega),L9 _ _ _ hn,ah (by omega),e];rfl
   ·rw[if_neg e];refine aW (λk=>(k:Int)) W.length rfl (λk J=>?_) a0;by_cases hk1:k+1<W.length;·exact Z k hk1
    ·have:k=n:=by omega
     subst this;unfold fh io;rw[if_pos (by simpa using by omega),if_pos (by rw[ah (by omega)];simp;omega),ng (by omega),j6,h,j6,if_neg (by simpa using e),aP (by omega)]
 ·dsimp only;unfold lj n7;rw[if_neg (by simp),Z2];rfl
def nh (r:aS):eo:=⟨r.fMany,r.fValue⟩
theorem GX (l:List Ap)(hl:l.length<=1048576):tN l=some ((bh l).map nh):=by
 unfold tN;refine aW (λi=>((bh (l.take i)).map nh,(i:Int))) l.length (by simp[bh]) (λi hi=>?_) ?_
 ·dsimp only;obtain⟨h1,h2,_⟩:=zj l (i:=i) (by omega);rw[tA hi];unfold qN;have a1:lL l ((bh (l.take i)).map nh) (i:Int) false=some (.inl ((bh (l.take i)++[(⟨1,l[i]⟩:aS)]).map nh,((i+1:Nat):Int))):=by unfold lL ol;rw[if_neg (by decide),au hi,j6,aD (by simp;omega),j6,aP (by omega)];simp[nh]
  rw[if_pos (by simpa using hi)];rcases Nat.eq_zero_or_pos i with h0|h0
  ·subst h0;rw[if_neg (by decide),a1];simp[bh,zi]
  ·obtain⟨j,rfl⟩:∃j,i=j+1:=⟨i-1,by omega⟩;have e1:Z9.wrap (((j+1:Nat):Int)-1)=(j:Int):=by rw[ah (by omega)];omega
   rw[if_pos (decide_eq_true (by omega)),au hi,j6,e1,au (by omega),j6];obtain⟨n,J⟩:∃n,(bh (l.take (j+1))).getLast?=some ⟨n,l[j]⟩:=by rw[tA (by omega)];exact JP _ _
   generalize hw:bh (l.take (j+1))=W at*;unfold zi;rw[J];dsimp only;by_cases e:l[j+1]=l[j]
   ·rw[if_pos e.symm];unfold lL ol;have a3:=sY J;obtain⟨k,Z⟩:∃k,W.length=k+1:=⟨W.length-1,by
     have:W.length=W.dropLast.length+1:=by rw[a3];simp
     omega⟩;have a4:=h1 _ (Yf J);have a2:(W.map nh)[k]?=some ⟨n,l[j]⟩:=by rw[List.getLast?_eq_getElem?,Z]at J;rw[List.getElem?_map];have:W[k]?=some ⟨n,l[j]⟩:=J;rw[this];rfl
    have e2:Z9.wrap (((W.map nh).length:Int)-1)=(k:Int):=by rw[ah (by simp;omega)];simp;omega
    have a0:k<(W.map nh).length:=by simp;omega
    have e3:(W.map nh)[k]=⟨n,l[j]⟩:=by rw[Z3 a0]at a2;exact Option.some.inj a2
    have e4:=cx (xs:=W.map nh) (lo:=0) (hi:=k) (by omega) (by omega);rw[show((0:Nat):Int)=0 from rfl]at e4;rw[if_pos (by simpa using e),e2,au a0,j6,e3,e4,j6,aD (by simp;omega),j6,aD (by simp;omega),j6,aP (by omega)];simp only at a4;rw[ah (by simp;omega)];simp only[X3,X4,List.map_append,List.map_cons,List.map_nil,nh,List.map_dropLast];rw[List.dropLast_eq_take,Zw,Z,e];rfl
   ·rw[if_neg (λh=>e h.symm)];have:decide (l[j+1]=l[j])=false:=by simpa using e
    rw[this,a1]
 ·dsimp only;unfold qN tg;rw[if_neg (by simp),Z2];rfl
def xL (l:List Ap):List Int:=(bh l).flatMap λr=>r.fMany::aZ r.fValue
theorem qq{O:Type}(l:List O)(f:O->List Int)(k:Nat)(h:∀x∈l,(f x).length<=k):(l.flatMap f).length<=k*l.length:=by induction l with
 |nil=>simp|cons v r ih=>have:=h v (by simp);have:=ih λx J=>h x (by simp[J]);rw[Zo,Z1,Z8,Nat.mul_add];omega
theorem kC{l:List Ap}:(∀r∈bh l,1<=r.fMany/\r.fMany<=l.length/\r.fValue∈l)/\(bh l).length<=l.length/\gh (bh l)=l:=by have:=zj l (Zr _);rwa[Z2]at this
theorem C7{l:List Ap}(h:∀v∈l,Rgt v)(hl:l.length<=64):si l=some (xL l):=by
 obtain⟨J,h2,_⟩:=kC (l:=l);unfold si;rw[Ok l (by omega),j6];refine aW (λi=>(((bh l).take i).flatMap λr=>r.fMany::aZ r.fValue,(i:Int))) (bh l).length (by simp) (λi hi=>?_) ?_
 ·dsimp only;have hm:=J _ (Z0 hi);have W:=h _ hm.2.2;have Z:=qq ((bh l).take i) (λr=>r.fMany::aZ r.fValue) 67 λx hx=>by have:=(eK (h _ (J x (Zm hx)).2.2)).2;simp;omega
  have a0:=(eK W).2;simp only[Zv]at Z;unfold rC;rw[if_pos (by simpa using hi),au hi,j6,bC,aD (by simp only[Z6];omega),j6,sX W,j6,aD (by simp only[Z1,Z6];omega),j6,aP (by omega),nJ hi];have:(bh l)[i].fMany%256=(bh l)[i].fMany:=by omega
  rw[this];simp
 ·dsimp only;unfold rC wo;rw[if_neg (by simp),Z2];rfl
def zig (d:Int):Nat:=if d<0 then (-2*d-1).toNat else (2*d).toNat
def fi (z:Nat):List Int:=if h:z<128 then[(z:Int)]else ((z%128+128:Nat):Int)::fi (z/128)termination_by z
theorem rV{z:Nat}(h:z<128):fi z=[(z:Int)]:=by rw[fi,dif_pos h]
theorem uy{z:Nat}(h:¬z<128):fi z=((z%128+128:Nat):Int)::fi (z/128):=by rw[fi,dif_neg h]
theorem DS:∀(k z:Nat),z<128^(k+1)->(fi z).length<=k+1
 |0,z,h=>by rw[rV (by simpa using h)];simp|k+1,z,h=>by
  by_cases hz:z<128;·rw[rV hz];simp
  ·rw[uy hz];have:z/128<128^(k+1):=by rw[Yu (by decide)];rw[Yj]at h;exact h
   have:=DS k _ this;simp;omega
theorem mM{z:Nat}(h:z<18446744073709551616):(fi z).length<=10:=DS 9 z (Zs h (by decide))
theorem JQ (z:Nat):Byt (fi z):=by induction z using Yo with|_ z ih=>
 by_cases hz:z<128;·rw[rV hz];exact .cons (by omega) .nil
 ·rw[uy hz];exact .cons (by omega) (ih _ (by omega))
theorem mn{d:Int}(h:cL d):zig d<18446744073709551616:=by unfold zig cL at*;split<;>omega
def hU (l:List Int)(i:Nat):List Int:=fi (zig (Z9.wrap (l.getD (i+1) 0-l.getD i 0)))
def kD (l:List Int):List Int:=be8 (l.getD 0 0%18446744073709551616)++(Zq (l.length-1)).flatMap (hU l)
theorem Uq:∀n:_root_.Fin 256,n.val|||128=n.val%128+128:=by decide+kernel
theorem GY (x:Nat):∀(z:Nat) (J:List Int),z<18446744073709551616->J.length+(fi z).length<=140737488355328->x<1000->am (λs:(List Int×Int)=>ko (x:Int) s.1 s.2) (J,(z:Int))=some (.inl (J++fi z,((x+1:Nat):Int))):=by
 intro z;induction z using Yo with|_ z ih=>
  intro J hz hl hx;by_cases h:z<128
  ·rw[rV h]at hl⊢;apply aR;dsimp only;unfold ko uW uV;rw[if_neg (by simp;omega),bC,aD (by simpa using hl),j6,aP (by omega)];have:(z:Int)%256=z:=by omega
   rw[this];rfl
  ·rw[uy h]at hl⊢;simp only[Z8]at hl;have e:ko (x:Int) J (z:Int)=some (.inl (J++[((z%128+128:Nat):Int)],((z/128:Nat):Int))):=by
    unfold ko;have h1:bOr .u8 ((z:Int)%256) 128=((z%128+128:Nat):Int):=by have W:=Uq ⟨z%256,by omega⟩;simp only at W;rw[show((z:Int)%256)=((z%256:Nat):Int)by omega,show(128:Int)=((128:Nat):Int)from rfl,or8 (by omega) (by omega),W];congr 1;omega
    have Z:aV .u64 (z:Int) 7=((z/128:Nat):Int):=by have:=sw (x:=(z:Int)) (k:=7) (by omega);simpa using this
    rw[if_pos (by simp;omega),bC,h1,Z,aD (by simp;omega),j6]
   rw[bI (by dsimp only;exact e),ih (z/128) (by omega) _ (by omega) (by simp;omega) hx];simp
theorem Ma{a:Nat}(W:a<18446744073709551616):d7 .u64 (a:Int) 18446744073709551615=18446744073709551615-(a:Int):=by
 unfold d7;rw[aU];show(((Ze 64 (a:Int)^^^Ze 64 18446744073709551615).toNat:Nat):Int)%18446744073709551616=_;have h:(Ze 64 (a:Int)).toNat=a:=by rw[Zl];omega
 have J:Ze 64 18446744073709551615=BitVec.allOnes 64:=by decide
 rw[J,BitVec.xor_allOnes,BitVec.toNat_not,h];have:(2:Nat)^64=18446744073709551616:=by decide
 omega
theorem xor_zero{a:Nat}(W:a<18446744073709551616):d7 .u64 (a:Int) 0=(a:Int):=by
 unfold d7;rw[aU];show(((Ze 64 (a:Int)^^^Ze 64 0).toNat:Nat):Int)%18446744073709551616=_;have h:(Ze 64 (a:Int)).toNat=a:=by rw[Zl];omega
 have J:Ze 64 0=0#64:=by decide
 rw[J,BitVec.xor_zero,h];omega
theorem PU{d:Int}(h:cL d):d7 .u64 (en .u64 (X5.wrap d) 1) (X5.wrap (aV .i64 d 63))=(zig d:Int):=by
 have J:aV .i64 d 63=if d<0 then-1 else 0:=by
  unfold aV cL at*;rw[Yb _ (Int.le_of_lt (Int.pow_pos (by decide)))];have:(2:Int)^(min (63:Int).toNat Z9.bits)=9223372036854775808:=by decide
  rw[this];split<;>omega
 have W:en .u64 (X5.wrap d) 1=(2*d)%18446744073709551616:=by have:=Ag (x:=X5.wrap d) (k:=1) (by omega);rw[show((1:Nat):Int)=1 from rfl]at this;rw[this,aU];omega
 rw[J,W,aU];unfold zig cL at*;split
 ·have e:((2*d)%18446744073709551616)=((2*d+18446744073709551616).toNat:Int):=by omega
  rw[show((-1:Int)%18446744073709551616)=18446744073709551615 from by decide,e,Ma (by omega)];omega
 ·have e:((2*d)%18446744073709551616)=((2*d).toNat:Int):=by omega
  rw[show((0:Int)%18446744073709551616)=0 from by decide,e,xor_zero (by omega)]
theorem B9{l:List Int}(Z:0<l.length)(hl:l.length<=64):qE l=some (kD l):=by
 unfold qE;have a1:idx l 0=some l[0]:=au (i:=0) Z;have W:=cx (xs:=l) (lo:=1) (hi:=l.length) (by omega) (Zr _);rw[show((1:Nat):Int)=1 from rfl]at W;rw[a1,j6,aU,vc,j6,W,j6,Z2];have h:(l.drop 1).length=l.length-1:=by simp
 have a0:l.getD 0 0=l[0]:=by rw[Zc,Z3 Z];rfl
 refine aW (λi=>(be8 (l[0]%18446744073709551616)++(Zq i).flatMap (hU l),(i:Int))) (l.length-1) (by simp) (λi hi=>?_) ?_
 ·dsimp only;unfold qD;rw[h,if_pos (by simpa using hi),au (by rw[h];exact hi),j6,au (by omega),j6];have J:=ik ((l.drop 1)[i]'(by rw[h];exact hi)-l[i]'(by omega));have hb:=qq (Zq i) (hU l) 10 λx hx=>mM (mn (ik _));have a2:=mM (mn J);simp only[List.length_range]at hb;have e:hU l i=fi (zig (Z9.wrap ((l.drop 1)[i]'(by rw[h];exact hi)-l[i]'(by omega)))):=by unfold hU;rw[Zc,Zc,Z3 (show i+1<l.length by omega),Z3 (show i<l.length by omega)];simp only[Yd,List.getElem_drop];congr 5;omega
  rw[PU J,GY i _ _ (mn J) (by simp only[Z1,bB];omega) (by omega),Yv,Yl,←e];simp
 ·dsimp only;unfold qD uU;rw[h,if_neg (by simp)];unfold kD;rw[a0];rfl
theorem Ca (x:Nat):∀(z:Nat) (J:List Int),z<18446744073709551616->J.length+(fi z).length<=140737488355328->x<1000->am (λs:(List Int×Int)=>pa (x:Int) s.1 s.2) (J,(z:Int))=some (.inl (J++fi z,((x+1:Nat):Int))):=by
 intro z;induction z using Yo with|_ z ih=>
  intro J Z hl W;by_cases h:z<128
  ·rw[rV h]at hl⊢;apply aR;dsimp only;unfold pa AD AC;rw[if_neg (by simp;omega),bC,aD (by simpa using hl),j6,aP (by omega)];have:(z:Int)%256=z:=by omega
   rw[this];rfl
  ·rw[uy h]at hl⊢;simp only[Z8]at hl;have e:pa (x:Int) J (z:Int)=some (.inl (J++[((z%128+128:Nat):Int)],((z/128:Nat):Int))):=by
    unfold pa;rw[if_pos (by simp;omega),bC,aU,aU,aD (by simp;omega),j6,Zj (by omega),Zn (by omega)];congr 4;·congr 1;omega
    ·omega
   rw[bI (by dsimp only;exact e),ih (z/128) (by omega) _ (by omega) (by simp;omega) W];simp
theorem wD{O:Type}{l:List O}{i:Nat}{d:O}(h:i<l.length):l.getD i d=l[i]:=by rw[Zc,Z3 h];rfl
theorem FW{l:List Ap}(W:0<l.length)(hl:l.length<=64):xj l=some (kD (l.map (·.fInt))):=by
 unfold xj;have a0:idx l 0=some l[0]:=au (i:=0) W;rw[a0,j6,aU,zd,j6];have J:∀i (h:i<l.length),(l.map (·.fInt)).getD i 0=l[i].fInt:=λi h=>by rw[wD (by simpa using h)];simp
 refine aW (λi=>(be8 (l[0].fInt%18446744073709551616)++(Zq i).flatMap (hU (l.map (·.fInt))),((i+1:Nat):Int))) (l.length-1) (by simp) (λi hi=>?_) ?_
 ·dsimp only;unfold vB vA;have e1:Z9.wrap (((i+1:Nat):Int)-1)=(i:Int):=by rw[ah (by omega)];omega
  rw[if_pos (by simpa using by omega),au (by omega),j6,e1,au (by omega),j6];have Z:=ik (l[i+1].fInt-l[i].fInt);have hb:=qq (Zq i) (hU (l.map (·.fInt))) 10 λx hx=>mM (mn (ik _));have a1:=mM (mn Z);simp only[List.length_range]at hb;have e:hU (l.map (·.fInt)) i=fi (zig (Z9.wrap (l[i+1].fInt-l[i].fInt))):=by unfold hU;rw[J _ (by omega),J _ (by omega)]
  have key:=Ca (i+1) (zig (Z9.wrap (l[i+1].fInt-l[i].fInt))) (be8 (l[0].fInt%18446744073709551616)++(Zq i).flatMap (hU (l.map (·.fInt)))) (mn Z) (by simp only[Z1,bB];omega) (by omega);have hz:(if decide (Z9.wrap (l[i+1].fInt-l[i].fInt)<0)=true then (X5.wrap (Z9.wrap ((Z9.wrap ((-2)*(Z9.wrap (l[i+1].fInt-l[i].fInt))))-1)))else (X5.wrap (Z9.wrap (2*(Z9.wrap (l[i+1].fInt-l[i].fInt))))))=((zig (Z9.wrap (l[i+1].fInt-l[i].fInt)):Nat):Int):=by
   generalize Z9.wrap (l[i+1].fInt-l[i].fInt)=d at*;simp only[decide_eq_true_eq];unfold zig cL at*;split;·rw[aU,ej,ej];omega
   ·rw[aU,ej];omega
  rw[Yv,Yl,List.flatMap_singleton,e,←Zi,←key,←hz];split<;>rfl
 ·dsimp only;unfold vB AB;rw[if_neg (by simp;omega)];unfold kD;rw[J 0 W];simp
def ek (w:List Ap)(v:Ap):Nat:=w.findIdx λx=>decide (v=x)
def kE (l:List Ap):List Int:=((aB l).length:Int)::((aB l).flatMap aZ++bU (l.map λv=>(ek (aB l) v:Int)) (wid ((aB l).length-1)))
theorem Mc{w:List Ap}{v:Ap}(Z:w.length<1048576)(h:v∈w):kq w v=some (ek w v:Int):=by
 unfold kq;have:=DO (f:=λs:Int=>f8 w v s) w (λx=>decide (v=x)) (λi=>(i:Int)) (-1) (λi hi J=>?_) (λi hi J=>?_) ?_
 ·rw[this];have W:w.any (λx=>decide (v=x))=true:=List.any_eq_true.2 ⟨v,h,by simp⟩;rw[W];rfl
 ·unfold f8;rw[if_pos (by simpa using hi),au hi,j6,J,if_neg (by decide),aP (by omega)]
 ·unfold f8;rw[if_pos (by simpa using hi),au hi,j6,J,if_pos rfl];rfl
 ·unfold f8 qo;rw[if_neg (by simp)];rfl
theorem l6{w:List Ap}{v:Ap}(h:v∈w):ek w v<w.length:=List.findIdx_lt_length_of_exists ⟨v,h,by simp⟩
theorem xM{w:List Ap}{v:Ap}(h:v∈w):w[ek w v]'(l6 h)=v:=by have:=List.findIdx_getElem (p:=λx=>decide (v=x)) (xs:=w) (w:=l6 h);simp only[decide_eq_true_eq]at this;exact this.symm
theorem Cb{l w:List Ap}(h:∀v∈l,v∈w)(Z:w.length<1048576):U64 (l.map λv=>(ek w v:Int)):=λx W=>by obtain⟨v,J,rfl⟩:=Y2.1 W;have:=l6 (h v J);omega
theorem C8{l:List Ap}(h:∀v∈l,Rgt v)(hl:l.length<=64)(a2:l≠[]):mB l=some (kE l):=by
 obtain⟨r,a4,a1⟩:=B8 h (by omega);obtain⟨h3,Z,h5⟩:=dp h;have W:∀v∈aB l,Rgt v:=λv J=>h v ((Z v).1 J);unfold mB jm;rw[aD (by simp;omega),j6,j6,X3,a4,j6,a1,j6,bC,show((aB l).length:Int)%256=(aB l).length by omega];have a6:=jN W;refine aW (λi=>(((aB l).length:Int)::((aB l).take i).flatMap aZ,(i:Int))) (aB l).length (by simp) (λi hi=>?_) ?_
 ·dsimp only;unfold rD;have h1:=jN (l:=(aB l).take i) λv J=>W v (Zm J);have h2:=(eK (W _ (Z0 hi))).2;simp only[Zv]at h1;rw[if_pos (by simpa using hi),au hi,j6,sX (W _ (Z0 hi)),j6,aD (by simp only[Z8];omega),j6,aP (by omega),nJ hi];rfl
 ·dsimp only;unfold rD;rw[if_neg (by simp),Z2];unfold wt;have:am (λs:(List Int×Int)=>oc l (aB l) (((aB l).length:Int)::(aB l).flatMap aZ) s.1 s.2) ([],0)=some (kE l):=by
   refine aW (λi=>((l.take i).map λv=>(ek (aB l) v:Int),(i:Int))) l.length (by simp) (λi hi=>?_) ?_
   ·dsimp only;unfold oc;have hm:=(Z l[i]).2 (Z0 hi);have hp:=l6 hm;rw[if_pos (by simpa using hi),au hi,j6,Mc (by omega) hm,j6,aU,aD (by simp;omega),j6,aP (by omega),zx hi];have:((ek (aB l) l[i]:Nat):Int)%18446744073709551616=(ek (aB l) l[i]:Nat):=by omega
    rw[this,List.map_append,List.map_cons,List.map_nil]
   ·dsimp only;unfold oc wq;rw[if_neg (by simp),Z2];by_cases h0:(aB l).length=0
    ·have a3:aB l=[]:=Za h0;have a5:l=[]:=by cases l with
      |nil=>rfl|cons a t=>have:=(Z a).2 (by simp);rw[a3]at this;cases this
     subst a5;exfalso;exact absurd rfl a2
    have e1:X5.wrap (Z9.wrap (((aB l).length:Int)-1))=(((aB l).length-1:Nat):Int):=by rw[ah (by omega),aU];omega
    have a0:wid ((aB l).length-1)<=64:=py (Zs (show(aB l).length-1<64 by omega) (by decide));have a9:(bU (l.map λv=>(ek (aB l) v:Int)) (wid ((aB l).length-1))).length<=64*64:=by unfold bU;rw[fa,Zw];have:=Zg hl a0;omega
    rw[e1,len_eq (by omega),j6,DP (Cb (λv J=>(Z v).2 J) (by omega)) (by simp;omega) a0,j6,aD (by simp only[Z8];omega)];rfl
  rw[this];rfl
theorem DT{w:List Ap}{v:Ap}(J:w.Nodup)(h:v∈w){k:Nat}(W:k<w.length):w[k]=v↔k=ek w v:=by
 constructor
 ·intro e;rw[←xM h]at e;exact(List.getElem_inj J).1 e
 ·rintro rfl;exact xM h
theorem GZ{l:List Ap}(h:∀v∈l,Rgt v)(hl:l.length<=64)(a1:l≠[]):Ad l=some (kE l):=by
 obtain⟨h3,h4,h5⟩:=dp h;have Z:∀v∈aB l,Rgt v:=λv J=>h v ((h4 v).1 J);unfold Ad;rw[FV h (by omega),j6,bC,show((aB l).length:Int)%256=(aB l).length by omega];have a3:=jN Z;refine aW (λi=>(((aB l).length:Int)::((aB l).take i).flatMap aZ,(i:Int))) (aB l).length (by simp) (λi hi=>?_) ?_
 ·dsimp only;unfold xq;have h1:=jN (l:=(aB l).take i) λv J=>Z v (Zm J);have h2:=(eK (Z _ (Z0 hi))).2;simp only[Zv]at h1;rw[if_pos (by simpa using hi),au hi,j6,xI (Z _ (Z0 hi)),j6,aD (by simp only[Z8];omega),j6,aP (by omega),nJ hi];rfl
 ·dsimp only;unfold xq;rw[if_neg (by simp),Z2];unfold BU;have:am (λs:(List Int×Int)=>th l (aB l) (((aB l).length:Int)::(aB l).flatMap aZ) s.1 s.2) ([],0)=some (kE l):=by
   refine aW (λi=>((l.take i).map λv=>(ek (aB l) v:Int),(i:Int))) l.length (by simp) (λi hi=>?_) ?_
   ·dsimp only;unfold th;have hm:=(h4 l[i]).2 (Z0 hi);have hp:=l6 hm;rw[if_pos (by simpa using hi)];refine aW (λk=>(((l.take i).map λv=>(ek (aB l) v:Int))++if ek (aB l) l[i]<k then[(ek (aB l) l[i]:Int)]else[],(k:Int))) (aB l).length (by simp) (λk hk=>?_) ?_
    ·dsimp only;unfold xp xn;rw[if_pos (by simpa using hk),au hk,j6,au hi,j6,aP (by omega)];by_cases e:k=ek (aB l) l[i]
     ·have W:=(DT h3.nodup hm hk).2 e;rw[if_pos (by simpa using W),if_neg (by omega),Y7,aU,aD (by simp;omega),j6,if_pos (by omega)];have:(k:Int)%18446744073709551616=(ek (aB l) l[i]:Nat):=by omega
      rw[this]
     ·have W:¬(aB l)[k]=l[i]:=λh=>e ((DT h3.nodup hm hk).1 h);rw[if_neg (by simpa using W)];have e2:(ek (aB l) l[i]<k+1)=(ek (aB l) l[i]<k):=by apply propext;omega
      simp only[e2]
    ·dsimp only;unfold xp BT;rw[if_neg (by simp),if_pos hp,aP (by omega),zx hi,List.map_append,List.map_cons,List.map_nil];rfl
   ·dsimp only;unfold th BS;rw[if_neg (by simp),Z2];have h0:(aB l).length≠0:=λh0=>by have a2:aB l=[]:=Za h0;cases l with
     |nil=>exact a1 rfl|cons a t=>have:=(h4 a).2 (by simp);rw[a2]at this;cases this
    have W:X5.wrap (Z9.wrap (((aB l).length:Int)-1))=(((aB l).length-1:Nat):Int):=by rw[ah (by omega),aU];omega
    have a0:wid ((aB l).length-1)<=64:=py (Zs (show(aB l).length-1<64 by omega) (by decide));have a4:(bU (l.map λv=>(ek (aB l) v:Int)) (wid ((aB l).length-1))).length<=64*64:=by unfold bU;rw[fa,Zw];have:=Zg hl a0;omega
    rw[W,Bm (by omega),j6,yl (Cb (λv J=>(h4 v).2 J) (by omega)) (by simp;omega) a0,j6,aD (by simp only[Z8];omega)];rfl
  rw[this];rfl
def iy:List Int->Int
 |[]=>0|a::r=>r.foldl (λm x=>if x<m then x else m) a
theorem DU (r:List Int):∀a:Int,r.foldl (λm x=>if x<m then x else m) a<=a/\(∀x∈r,r.foldl (λm x=>if x<m then x else m) a<=x)/\(r.foldl (λm x=>if x<m then x else m) a=a\/r.foldl (λm x=>if x<m then x else m) a∈r):=by induction r with
 |nil=>intro a;simp|cons b r ih=>
  intro a;simp only[Zt];obtain⟨h1,Z,h⟩:=ih (if b<a then b else a);have W:(if b<a then b else a)<=a/\(if b<a then b else a)<=b/\((if b<a then b else a)=a\/(if b<a then b else a)=b):=by split<;>omega
  refine⟨by omega,λx J=>?_,?_⟩
  ·rcases Y0.1 J with rfl|J;·omega
   ·exact Z x J
  ·rcases h with h|h
   ·rcases W.2.2 with h4|h4;·left;omega
    ·right;rw[h,h4];simp
   ·right;simp[h]
theorem C9{l:List Int}{x:Int}(h:x∈l):iy l<=x:=by cases l with
 |nil=>cases h|cons a r=>
  obtain⟨J,W,_⟩:=DU r a;rcases Y0.1 h with rfl|h;·exact J
  ·exact W x h
theorem Bn{l:List Int}(h:l≠[]):iy l∈l:=by cases l with
 |nil=>exact absurd rfl h|cons a r=>
  obtain⟨_,_,J⟩:=DU r a;rcases J with J|J;·show r.foldl _ a∈_;rw[J];simp
  ·exact List.mem_cons_of_mem _ J
def ce (l:List Int):Nat:=l.foldl (λw x=>max w (wid x.toNat)) 0
theorem vP{l:List Int}{i:Nat}(h:i<l.length):ce (l.take (i+1))=max (ce (l.take i)) (wid l[i].toNat):=jq h
theorem kZ{l:List Int}(h:U64 l):ce l<=64/\∀x∈l,wid x.toNat<=ce l:=by
 have key:∀i,i<=l.length->ce (l.take i)<=64/\∀x∈l.take i,wid x.toNat<=ce (l.take i):=by
  intro i;induction i with
  |zero=>intro _;simp[ce]|succ i ih=>
   intro hi;obtain⟨h1,Z⟩:=ih (by omega);have W:i<l.length:=by omega
   have J:=h l[i] (Z0 W);have hw:wid l[i].toNat<=64:=py (by rw[show(2:Nat)^64=18446744073709551616 by decide];omega);rw[vP W];refine⟨by omega,λx J=>?_⟩;rw[zx W]at J;rcases Zd.1 J with J|J;·have:=Z x J;omega
   ·have:x=l[i]:=by simpa using J
    subst this;omega
 have:=key l.length (Zr _);rwa[Z2]at this
def aQ (l:List Int):List Int:=l.map λx=>x-iy l
def mo (l:List Int):List Int:=be8 (iy l%18446744073709551616)++[(ce (aQ l):Int)]++bU (aQ l) (ce (aQ l))
theorem nL{l:List Int}(h:∀x∈l,cL x):U64 (aQ l):=λx hx=>by obtain⟨y,J,rfl⟩:=Y2.1 hx;have h1:=C9 J;have W:=h y J;have Z:=h (iy l) (Bn (List.ne_nil_of_mem J));unfold cL at W Z;omega
theorem FX{x m:Int}(J:cL x)(hm:cL m)(h:m<=x):X5.wrap ((X5.wrap x)-(X5.wrap m))=x-m:=by rw[aU,aU,aU];unfold cL at*;omega
theorem PV{l:List Int}(h:0<l.length)(hl:l.length<=1048576):lJ l=some (iy l):=by cases l with
 |nil=>simp at h|cons a r=>
  unfold lJ rl;rw[if_neg (by simp;omega),ci,j6];refine aW (λi=>((r.take i).foldl (λm x=>if x<m then x else m) a,((i+1:Nat):Int))) r.length (by simp) (λi hi=>?_) ?_
  ·dsimp only;unfold mP;rw[if_pos (by simpa using hi),au (by simpa using hi),j6,aP (by simp at hl;omega),jq hi];rfl
  ·dsimp only;unfold mP rk;rw[if_neg (by simp),Z2];rfl
theorem JR (a b:Nat):(if (a:Int)<(b:Int)then (b:Int)else (a:Int))=((max a b:Nat):Int):=by split<;>omega
theorem Cc{l:List Int}(h:∀x∈l,cL x)(h0:0<l.length)(hl:l.length<=64):qJ l=some (mo l):=by
 have a1:l≠[]:=λe=>by subst e;simp at h0
 have hm:=h _ (Bn a1);have J:=nL h;obtain⟨hw,a4⟩:=kZ J;have Z:(aQ l).length=l.length:=by simp[aQ]
 unfold qJ;rw[PV h0 (by omega),j6];refine aW (λi=>((aQ l).take i,((ce ((aQ l).take i):Nat):Int),(i:Int))) l.length (by simp[ce]) (λi hi=>?_) ?_
 ·dsimp only;unfold qI;have W:=Z0 hi;have a0:(aQ l)[i]'(by omega)=l[i]-iy l:=by simp[aQ]
  have a2:=J _ (Z0 (show i<(aQ l).length by omega));rw[a0]at a2;have e2:=FU (n:=(l[i]-iy l).toNat) (by omega);rw[show(((l[i]-iy l).toNat:Nat):Int)=l[i]-iy l by omega]at e2;rw[if_pos (by simpa using hi),au hi,j6,FX (h _ W) hm (C9 W),aD (by simp;omega),j6,e2,j6,aP (by omega),JR,vP (by omega),zx (by omega),a0]
 ·dsimp only;unfold qI uX;have a3:(bU (aQ l) (ce (aQ l))).length<=64*64:=by unfold bU;rw[fa,Z];have:=Zg hl hw;omega
  rw[if_neg (by simp),←Z,Z2,aU,vc,j6,bC,aD (by simp[bB]),j6,DP J (by omega) hw,j6,aD (by simp only[Z1,bB,Z6];omega)];have:((ce (aQ l):Nat):Int)%256=(ce (aQ l):Nat):=by omega
  rw[this];rfl
theorem FY{l:List Ap}(h:∀v∈l,cL v.fInt)(W:0<l.length)(hl:l.length<=64):xr l=some (mo (l.map (·.fInt))):=by
 have h':∀x∈l.map (·.fInt),cL x:=λx hx=>by obtain⟨v,hv,rfl⟩:=Y2.1 hx;exact h v hv
 have a2:l.map (·.fInt)≠[]:=λe=>by rw[List.map_eq_nil_iff]at e;subst e;simp at W
 have hm:=h' _ (Bn a2);have J:=nL h';obtain⟨hw,a9⟩:=kZ J;have a0:(aQ (l.map (·.fInt))).length=l.length:=by simp[aQ]
 unfold xr;have a5:idx l 0=some l[0]:=au (i:=0) W;rw[a5,j6];have a3:iy (l.map (·.fInt))=l.foldl (λm x=>if x.fInt<m then x.fInt else m) l[0].fInt:=by cases l with
  |nil=>simp at W|cons a r=>simp[iy,List.foldl_map]
 refine aW (λi=>((l.take i).foldl (λm x=>if x.fInt<m then x.fInt else m) l[0].fInt,(i:Int))) l.length (by simp) (λi hi=>?_) ?_
 ·dsimp only;unfold vJ;rw[if_pos (by simpa using hi),au hi,j6,aP (by omega),jq hi]
 ·dsimp only;unfold vJ AK;rw[if_neg (by simp),Z2,←a3];have:am (λs:(List Int×Int×Int)=>sk l (iy (l.map (·.fInt))) s.1 s.2.1 s.2.2) ([],0,0)=some (mo (l.map (·.fInt))):=by
   refine aW (λi=>((aQ (l.map (·.fInt))).take i,((ce ((aQ (l.map (·.fInt))).take i):Nat):Int),(i:Int))) l.length (by simp[ce]) (λi hi=>?_) ?_
   ·dsimp only;unfold sk;have Z:=Z0 hi;have a1:(aQ (l.map (·.fInt)))[i]'(by omega)=l[i].fInt-iy (l.map (·.fInt)):=by simp[aQ]
    have a4:=J _ (Z0 (show i<(aQ (l.map (·.fInt))).length by omega));rw[a1]at a4;have e2:=Bm (n:=(l[i].fInt-iy (l.map (·.fInt))).toNat) (by omega);rw[show(((l[i].fInt-iy (l.map (·.fInt))).toNat:Nat):Int)=l[i].fInt-iy (l.map (·.fInt))by omega]at e2;rw[if_pos (by simpa using hi),au hi,j6,FX (h _ Z) hm (C9 (List.mem_map_of_mem Z)),aD (by simp;omega),j6,e2,j6,aP (by omega),JR,vP (by omega),zx (by omega),a1]
   ·dsimp only;unfold sk AJ;have a6:(bU (aQ (l.map (·.fInt))) (ce (aQ (l.map (·.fInt))))).length<=64*64:=by unfold bU;rw[fa,a0];have:=Zg hl hw;omega
    rw[if_neg (by simp),←a0,Z2,aU,zd,j6,bC,aD (by simp[bB]),j6,yl J (by omega) hw,j6,aD (by simp only[Z1,bB,Z6];omega)];have:((ce (aQ (l.map (·.fInt))):Nat):Int)%256=(ce (aQ (l.map (·.fInt))):Nat):=by omega
    rw[this];rfl
  rw[this];rfl
def nM (l:List Ap):List Int:=l.flatMap aZ
def rW (kind:Int)(l:List Ap):List Int:=if kind=1 then xL l else if kind=2 then kD (l.map (·.fInt))else if kind=3 then kE l else if kind=4 then mo (l.map (·.fInt))else nM l
def il (l:List Ap):Bool:=l.all λv=>v.fKind==2
def enc (kind:Int)(l:List Ap):List Int×Int:=if kind<0\/4<kind then ([],62)else if 64<l.length then ([],61)else if l.all right=false then ([],60)else if (kind=2\/kind=4)/\il l=false then ([],62)else if l=[]then ([],0)else (rW kind l,0)
theorem Ol{l:List Ap}(hl:l.length<=1048576):sg l=some (if il l then (l.map (·.fInt),true)else ([],false)):=by
 unfold sg il;refine JO (λi=>((l.take i).map (·.fInt),(i:Int))) l (λv=>v.fKind==2) _ _ (by simp) (λi hi h=>?_) (λi hi h=>?_) ?_
 ·dsimp only;unfold n5;rw[if_pos (by simpa using hi),au hi,j6,if_neg (by simpa using h),aD (by simp;omega),j6,aP (by omega),zx hi,List.map_append,List.map_cons,List.map_nil]
 ·dsimp only;unfold n5;rw[if_pos (by simpa using hi),au hi,j6,if_pos (by simpa using h)];rfl
 ·dsimp only;unfold n5 wk;rw[if_neg (by simp),Z2];rfl
theorem G0{l:List Ap}(hl:l.length<=1048576):eN l fq=some (!l.all right):=by
 unfold eN kJ;have:=DO (f:=λs:Int=>eM l fq s) l (λv=>!right v) (λi=>(i:Int)) (-1) (λi hi h=>?_) (λi hi h=>?_) ?_
 ·rw[this,j6];have e:l.any (λv=>!right v)=!l.all right:=by simp[List.any_eq_not_all_not]
  rw[e];cases l.all right<;>simp
 ·unfold eM fq;rw[if_pos (by simpa using hi),au hi,j6,jC,j6,j6,h,if_neg (by decide),aP (by omega)]
 ·unfold eM fq;rw[if_pos (by simpa using hi),au hi,j6,jC,j6,j6,h,if_pos rfl];rfl
 ·unfold eM mW;rw[if_neg (by simp)];rfl
theorem tQ{l:List Ap}(h:∀v∈l,VOK v)(W:l.all right=true):∀v∈l,Rgt v:=λv J=>Rgt.of (h v J) (List.all_eq_true.1 W v J)
theorem vj{l:List Ap}(kind:Int)(h:∀v∈l,VOK v)(hl:l.length<=1048576):fO kind l=some (enc kind l):=by
 unfold fO enc;have hj:∀b,ir kind l b=some (if b=true then ([],62)else if 64<l.length then ([],61)else if l.all right=false then ([],60)else if (kind=2\/kind=4)/\il l=false then ([],62)else if l=[]then ([],0)else (rW kind l,0)):=by
  intro b;unfold ir;cases b
  ·simp only[Zb,if_false];by_cases h1:64<l.length;·rw[if_pos (decide_eq_true (by omega)),if_pos h1]
   rw[if_neg (by simp;omega),if_neg h1,G0 hl,j6];cases hr:l.all right;·rfl
   rw[if_neg (by decide),if_neg (by decide),Ol hl,j6];have W:=tQ h hr;have a0:∀J:List Int×Bool,(kind=2\/kind=4->J.1=l.map (·.fInt))->iq kind l J false=some (if l=[]then ([],0)else (rW kind l,0)):=by
    intro J a1;unfold iq;rw[if_neg (by decide)];by_cases h0:l=[];·subst h0;rfl
    have a3:0<l.length:=Y4.2 h0;rw[if_neg (by simpa using h0),if_neg h0];unfold rW;by_cases k1:kind=1;·rw[if_pos (by simpa using k1),C7 W (by omega),if_pos k1];rfl
    rw[if_neg (by simpa using k1),if_neg k1];by_cases k2:kind=2;·rw[if_pos (by simpa using k2),a1 (.inl k2),B9 (by simpa using a3) (by simp;omega),if_pos k2];rfl
    rw[if_neg (by simpa using k2),if_neg k2];by_cases k3:kind=3;·rw[if_pos (by simpa using k3),C8 W (by omega) h0,if_pos k3];rfl
    rw[if_neg (by simpa using k3),if_neg k3];by_cases k4:kind=4;·rw[if_pos (by simpa using k4),a1 (.inr k4),Cc (λx hx=>by obtain⟨v,Z,rfl⟩:=Y2.1 hx;exact(h v Z).int) (by simpa using a3) (by simp;omega),if_pos k4];rfl
    rw[if_neg (by simpa using k4),if_neg k4];refine aW (λi=>((l.take i).flatMap aZ,(i:Int))) l.length (by simp) (λi hi=>?_) ?_
    ·dsimp only;unfold qc;have h3:=jN (l:=l.take i) λv Z=>W v (Zm Z);have h2:=(eK (W _ (Z0 hi))).2;simp only[Zv]at h3;rw[if_pos (by simpa using hi),au hi,j6,sX (W _ (Z0 hi)),j6,aD (by omega),j6,aP (by omega),nJ hi]
    ·dsimp only;unfold qc ub;rw[if_neg (by simp),Z2];rfl
   have a2:∀J:List Int×Bool,iq kind l J true=some ([],62):=λJ=>rfl;cases hi:il l
   ·simp only[Zb,if_false,Bool.not_false,if_true,and_true];by_cases k2:kind=2;·rw[if_pos (by simpa using k2),if_pos (.inl k2),a2]
    by_cases k4:kind=4
    ·have:(kind==4)=true:=by simpa using k4
     rw[if_neg (by simpa using k2),this,if_pos (.inr k4),a2]
    ·have:(kind==4)=false:=by simpa using k4
     rw[if_neg (by simpa using k2),this,if_neg (by omega),a0 _ (by omega)]
   ·simp only[if_true,Kc,Zb,if_false,Bool.true_eq_false,and_false];exact a0 _ λ_=>rfl
  ·rfl
 by_cases h0:kind<0;·rw[if_pos (by simpa using h0),if_pos (.inl h0),hj];rfl
 rw[if_neg (by simpa using h0),hj];by_cases h4:4<kind;·rw[if_pos (by simpa using h4),if_pos (show kind<0\/4<kind from .inr h4)]
 ·rw[if_neg (show¬(kind<0\/4<kind)by omega),if_neg (by simpa using h4)]
theorem IA{l:List Ap}(kind:Int)(hl:l.length<=1048576):tf kind l=some (enc kind l).2:=by
 unfold tf enc;have W:sT kind l=some (if l.all (λv=>!((decide (kind=2)||decide (kind=4))&&v.fKind !=2))then 0 else 62):=by
  unfold sT;refine xE l _ _ _ (λi hi h=>?_) (λi hi h=>?_) ?_
  ·unfold pI me;rw[if_pos (by simpa using hi),au hi,j6,aP (by omega)];by_cases k2:kind=2;·subst k2;simp at h;simp[h]
   by_cases k4:kind=4;·subst k4;simp at h;simp[h]
   ·simp[k2,k4]
  ·unfold pI me;rw[if_pos (by simpa using hi),au hi,j6];by_cases k2:kind=2;·subst k2;simp at h;simp[h]
   by_cases k4:kind=4;·subst k4;simp at h;simp[h]
   ·simp[k2,k4]at h
  ·unfold pI yf;rw[if_neg (by simp)];rfl
 have J:∀b,pJ kind l b=some (if b=true then 62 else if 64<l.length then 61 else if l.all right=false then 60 else if (kind=2\/kind=4)/\il l=false then 62 else 0):=by
  intro b;unfold pJ;cases b
  ·simp only[Zb,if_false];by_cases h1:64<l.length;·rw[if_pos (decide_eq_true (by omega)),if_pos h1]
   rw[if_neg (by simp;omega),if_neg h1];have:=xE (f:=λs:Int=>mf kind l s) l right 60 (if (kind=2\/kind=4)/\il l=false then 62 else 0) (λi hi h=>?_) (λi hi h=>?_) ?_;·rw[this];cases l.all right<;>rfl
   ·unfold mf;rw[if_pos (by simpa using hi),au hi,j6,q9,j6,h,if_neg (by decide),aP (by omega)]
   ·unfold mf;rw[if_pos (by simpa using hi),au hi,j6,q9,j6,h];rfl
   ·unfold mf;rw[if_neg (by simp),W];unfold il;by_cases hk:kind=2\/kind=4
    ·have e:(decide (kind=2)||decide (kind=4))=true:=by simpa using hk
     simp only[e,Bool.true_and,hk,true_and];have e2:(l.all λv=>!(v.fKind !=2))=l.all λv=>v.fKind==2:=by congr 1;funext v;cases hv:(v.fKind==2)<;>simp[bne,hv]
     rw[e2];cases l.all λv=>v.fKind==2<;>rfl
    ·have e:(decide (kind=2)||decide (kind=4))=false:=by simpa using hk
     simp[e,hk]
  ·rfl
 by_cases h0:kind<0;·rw[if_pos (by simpa using h0),if_pos (.inl h0),J];rfl
 rw[if_neg (by simpa using h0),J];by_cases h4:4<kind;·rw[if_pos (by simpa using h4),if_pos (show kind<0\/4<kind from .inr h4)]
 ·rw[if_neg (show¬(kind<0\/4<kind)by omega),if_neg (by simpa using h4)];congr 1;repeat' split
  all_goals rfl
theorem Ei{l:List Ap}(kind:Int)(h:∀v∈l,VOK v)(hl:l.length<=1048576):uY kind l=some (enc kind l):=by
 unfold uY;rw[IA kind hl,j6];unfold un;by_cases he:(enc kind l).2=0
 ·rw[if_neg (by simpa using he)];unfold enc at he⊢;split at he;·cases he
  rename_i hk;rw[if_neg hk];split at he;·cases he
  rename_i a1;rw[if_neg a1];split at he;·cases he
  rename_i W;rw[if_neg W];split at he;·cases he
  rename_i hi;rw[if_neg hi];have J:=tQ h (by simpa using W);by_cases h0:l=[];·subst h0;rfl
  rw[if_neg h0,if_neg (by simpa using h0)];have a0:0<l.length:=Y4.2 h0;unfold rW iR;by_cases k1:kind=1
  ·rw[if_pos (by simpa using k1),GX _ hl,if_pos k1,j6];obtain⟨h1,h2,_⟩:=kC (l:=l);refine aW (λi=>(((bh l).take i).flatMap λr=>r.fMany::aZ r.fValue,(i:Int))) (bh l).length (by simp) (λi hi=>?_) ?_
   ·dsimp only;have hm:=h1 _ (Z0 hi);have W:=J _ hm.2.2;have hb:=qq ((bh l).take i) (λr=>r.fMany::aZ r.fValue) 67 λx hx=>by have:=(eK (J _ (h1 x (Zm hx)).2.2)).2;simp;omega
    have a2:=(eK W).2;simp only[Zv]at hb;have hg:((bh l).map nh)[i]'(by simpa using hi)=nh (bh l)[i]:=by simp
    unfold ul;rw[if_pos (by simpa using hi),au (by simpa using hi),j6,hg,bC,aD (by simp only[Z6];omega),j6,j6];unfold nh;dsimp only;rw[xI W,j6,aD (by simp only[Z1,Z6];omega),j6,aP (by omega),nJ hi];have:(bh l)[i].fMany%256=(bh l)[i].fMany:=by omega
    rw[this];simp
   ·dsimp only;unfold ul iR;rw[if_neg (by simp),Z2];rfl
  rw[if_neg (by simpa using k1),if_neg k1];by_cases k2:kind=2;·rw[if_pos (by simpa using k2),FW a0 (by omega),if_pos k2];rfl
  rw[if_neg (by simpa using k2),if_neg k2];by_cases k3:kind=3;·rw[if_pos (by simpa using k3),GZ J (by omega) h0,if_pos k3];rfl
  rw[if_neg (by simpa using k3),if_neg k3];by_cases k4:kind=4;·rw[if_pos (by simpa using k4),FY (λv Z=>(h v Z).int) a0 (by omega),if_pos k4];rfl
  rw[if_neg (by simpa using k4),if_neg k4];refine aW (λi=>((l.take i).flatMap aZ,(i:Int))) l.length (by simp) (λi hi=>?_) ?_
  ·dsimp only;unfold um;have h3:=jN (l:=l.take i) λv Z=>J v (Zm Z);have h2:=(eK (J _ (Z0 hi))).2;simp only[Zv]at h3;rw[if_pos (by simpa using hi),au hi,j6,xI (J _ (Z0 hi)),j6,aD (by omega),j6,aP (by omega),nJ hi]
  ·dsimp only;unfold um iR;rw[if_neg (by simp),Z2];rfl
 ·rw[if_pos (by simpa using he),if_pos rfl];have:(enc kind l).1=[]:=by
   unfold enc at he⊢;repeat' split
   all_goals first|rfl|(exfalso;simp_all)
  congr 1;exact Prod.ext this.symm rfl
theorem em{kind:Int}{l:List Ap}{b:List Int}(h:enc kind l=(b,0)):(0<=kind/\kind<=4)/\l.length<=64/\l.all right=true/\((kind=2\/kind=4)->il l=true)/\((l=[]/\b=[])\/(l≠[]/\b=rW kind l)):=by
 unfold enc at h;split at h;·cases h
 rename_i h1;split at h;·cases h
 rename_i h2;split at h;·cases h
 rename_i W;split at h;·cases h
 rename_i h4;refine⟨by omega,by omega,by simpa using W,λZ=>?_,?_⟩;·cases hi:il l with
  |true=>rfl|false=>exact absurd ⟨Z,hi⟩ h4
 ·split at h;·rename_i J;left;exact⟨J,(Prod.mk.inj h).1.symm⟩
  ·rename_i J;right;exact⟨J,(Prod.mk.inj h).1.symm⟩
def Ur (kind:Int)(b:List Int)(many:Nat)(g:List Ap)(ok:Bool):Prop:=∀l:List Ap,(∀v∈l,Rgt v)->l.length=many->enc kind l=(b,0)->g=l/\ok=true
def lc (kind:Int)(b:List Int)(many:Nat)(x:List Ap×ai):Prop:=(∀v∈x.1,VOK v)/\x.1.length<=1048576/\Ur kind b many x.1 x.2.fOk
theorem vQ{l:List Ap}{k:Nat}(h:k<l.length):nM (l.drop k)=aZ l[k]++nM (l.drop (k+1)):=by unfold nM;rw[Z7 h,Zo]
theorem zk{v:Ap}(h:Rgt v){r:List Int}{ok:Bool}{rest:List Int}(J:r=aZ v++rest)(W:Byt r)(hl:r.length<140737488355328):dN ⟨r,ok⟩=some (v,⟨rest,ok⟩):=by rw[FP W hl];dsimp only;rw[J,iU h];dsimp only;rw[Zy]
theorem zl{r:ai}(J:Byt r.fB)(hl:r.fB.length<140737488355328):∃v r',dN r=some (v,r')/\Rgt v/\Byt r'.fB/\r'.fB.length<=r.fB.length/\(r.fOk=false->r'.fOk=false):=by rw[FP J hl];cases hp:bJ r.fB with
 |none=>exact⟨_,_,rfl,.null,J,Zr _,λ_=>rfl⟩|some x=>obtain⟨v,n⟩:=x;exact⟨_,_,rfl,(gN J hp).1,J.drop _,by simp,λh=>h⟩
theorem G1{b:List Int}{many:Nat}(hb:Byt b)(hl:b.length<140737488355328)(hm:1<=many/\many<=64):∃x,bR ⟨b,true⟩ 0 (many:Int)=some x/\lc 0 b many x:=by
 unfold bR;rw[if_pos (by decide)];refine dO (I:=λs:List Ap×ai=>Byt s.2.fB/\s.2.fB.length<140737488355328/\(∀v∈s.1,Rgt v)/\s.1.length<=many/\∀l:List Ap,(∀v∈l,Rgt v)->l.length=many->b=nM l->s.1=l.take s.1.length/\s.2=⟨nM (l.drop s.1.length),true⟩) (μ:=λs=>many-s.1.length) (Q:=lc 0 b many) ?_ ⟨hb,hl,by simp,by simp,λl _ _ h=>⟨rfl,by rw[h];rfl⟩⟩;rintro⟨a0,r⟩⟨h1,h2,h3,h4,h5⟩;dsimp only at*;have a1:a0.length=many\/r.fOk=false->lc 0 b many (a0,r):=λh=>⟨λv hv=>(h3 v hv).ok,by dsimp only;omega,λl hr W J=>by
  obtain⟨_,_,_,_,J⟩:=em J;have a2:b=nM l:=by
   rcases J with⟨e,_⟩|⟨_,e⟩;·subst e;simp at W;omega
   ·exact e
  obtain⟨g1,g2⟩:=h5 l hr W a2;subst g2;rcases h with h|h;·rw[h,←W,Z2]at g1;exact⟨g1,rfl⟩
  ·cases h⟩;unfold pd kL cd;by_cases hlt:a0.length<many
 ·rw[if_pos (decide_eq_true (by omega))];cases hok:r.fOk with
  |false=>right;exact⟨_,rfl,a1 (.inr hok)⟩|true=>
   left;rw[if_pos rfl];obtain⟨v,r',e1,e2,e3,e4,_⟩:=zl h1 h2;rw[e1,j6,aD (by simp;omega),j6];refine⟨_,rfl,⟨e3,by dsimp only;omega,λx Z=>?_,by simp;omega,λl hr W J=>?_⟩,by simp;omega⟩
   ·rcases Zd.1 Z with Z|Z;·exact h3 x Z
    ·have:x=v:=by simpa using Z
     subst this;exact e2
   ·obtain⟨g1,g2⟩:=h5 l hr W J;subst g2;have hk:a0.length<l.length:=by omega
    have:=zk (hr _ (Z0 hk)) (ok:=true) (vQ hk) h1 h2;rw[this]at e1;obtain⟨rfl,rfl⟩:=Prod.mk.inj (Option.some.inj e1);refine⟨?_,by simp⟩;simp only[Z1,Z6];rw[zx hk,←g1]
 ·right;rw[if_neg (by simp;omega),if_neg (by decide)];exact⟨_,rfl,a1 (.inl (by omega))⟩
theorem Us:∀n:_root_.Fin 256,tj 1 ((n.val:Nat):Int)=some (0,((n.val:Nat):Int)):=by decide+kernel
theorem JS (v:Ap){n:Nat}(hn:n<=255):fy [v] (n:Int)=some (Z5 n v):=by
 have hm:tj 1 (n:Int)=some (0,(n:Int)):=Us ⟨n,by omega⟩;have e1:X5.wrap ((([v]:List Ap).length:Nat):Int)=1:=by rw[aU];rfl
 have e2:X5.wrap (n:Int)=(n:Int):=by rw[aU];omega
 unfold fy iH xu;rw[if_neg (by simp),e1,e2,hm,j6,j6];unfold fF iG;dsimp only;rw[if_neg (by simp),if_neg (by simp;omega)];rw[ah (by omega),vg (by omega),j6];refine nI (I:=λs:Int×List Ap=>∃k:Nat,s.1=(k:Int)/\k<=n/\(0<n->0<k)/\s.2=Z5 k v++Z5 (n-k) Ap.zero) (μ:=λs=>n-s.1.toNat) ?_ ?_
 ·rintro⟨_,_⟩⟨k,rfl,hk,a0,rfl⟩;dsimp only;unfold iF iE;have J:(Z5 k v++Z5 (n-k) Ap.zero).length=n:=by simp;omega
  by_cases hlt:k<n
  ·left;have a2:vw (Z5 k v++Z5 (n-k) Ap.zero) (k:Int) ((Z5 k v++Z5 (n-k) Ap.zero).length:Int)=some (k,n-k):=by unfold vw;rw[if_pos (by omega),J];simp
   have Z:vw (Z5 k v++Z5 (n-k) Ap.zero) 0 (k:Int)=some (0,k):=by unfold vw;rw[if_pos (by omega)];simp
   have a1:Nat.ble (min k (n-k)) cz=true:=Nat.ble_eq_true_of_le (by unfold cz;omega);rw[if_pos (by rw[J];exact decide_eq_true (by omega)),a2,j6,Z,j6];dsimp only;rw[ut a1,j6];have hc:cpv (Z5 k v++Z5 (n-k) Ap.zero) (k,n-k) (0,k)=some (Z5 (k+min k (n-k)) v++Z5 (n-(k+min k (n-k))) Ap.zero):=by
    unfold cpv;rw[if_pos (by dsimp only;omega)];dsimp only;unfold spl;have W:((Z5 k v++Z5 (n-k) Ap.zero).drop 0).take (min k (n-k))=Z5 (min k (n-k)) v:=by rw[X4,List.take_append_of_le_length (by simp;omega)];rw[List.take_replicate];congr 1;omega
    rw[W,Y6 (by simp),List.length_replicate,List.drop_append,List.drop_replicate,List.drop_replicate,List.length_replicate];have e4:k-(k+min k (n-k))=0:=by omega
    have e5:n-k-(k+min k (n-k)-k)=n-(k+min k (n-k)):=by omega
    rw[e4,e5,←Zi,←List.replicate_append_replicate];simp
   rw[hc,j6];refine⟨_,rfl,⟨k+min k (n-k),?_,by omega,by omega,rfl⟩,?_⟩;·dsimp only;rw[ah (by omega)];omega
   ·dsimp only;rw[ah (by omega)];have:=a0 (by omega);omega
  ·right;have:k=n:=by omega
   subst this;rw[if_neg (by rw[J];simp)];simp
 ·refine⟨min 1 n,by simp,by omega,by omega,?_⟩;dsimp only;unfold cpy;rcases Nat.eq_zero_or_pos n with h|h;·subst h;rfl
  ·have:min 1 n=1:=by omega
   rw[this];have e:n=(n-1)+1:=by omega
   rw[e,List.replicate_succ];simp
def tk1 (r:ai):List Int×ai:=match r.fB with|[]=>([0],⟨[],false⟩)|c::t=>([c],⟨t,r.fOk⟩)
theorem take_one (r:ai):cY r 1=some (tk1 r):=by have:=C3 (r:=r) (n:=1) (by omega);rw[show((1:Nat):Int)=1 from rfl]at this;rw[this];obtain⟨b,ok⟩:=r;unfold tk1;cases b with
 |nil=>rfl|cons c t=>simp
theorem xN (c:Int)(t:List Int)(ok:Bool):tk1 ⟨c::t,ok⟩=([c],⟨t,ok⟩):=rfl
theorem Aj (r:ai)(h:Byt r.fB):∃c r1,tk1 r=([c],r1)/\(0<=c/\c<256)/\Byt r1.fB/\r1.fB.length<=r.fB.length/\(r1.fOk=false\/(r.fB=c::r1.fB/\r1.fOk=r.fOk)):=by obtain⟨b,ok⟩:=r;cases b with
 |nil=>exact⟨0,⟨[],false⟩,rfl,by decide,.nil,Zr _,.inl rfl⟩|cons c t=>exact⟨c,⟨t,ok⟩,rfl,h.head,h.tail,by simp,.inr ⟨rfl,rfl⟩⟩
def oI (rs:List aS):List Int:=rs.flatMap λr=>r.fMany::aZ r.fValue
theorem vk{rs:List aS}{j:Nat}(h:j<rs.length):gh (rs.take (j+1))=gh (rs.take j)++Z5 rs[j].fMany.toNat rs[j].fValue:=by unfold gh;rw[zx h,Yl,List.flatMap_singleton]
theorem uA (rs:List aS)(j:Nat):gh rs=gh (rs.take j)++gh (rs.drop j):=by unfold gh;rw[←Yl,Zp]
theorem IB{b:List Int}{many:Nat}(hb:Byt b)(hl:b.length<140737488355328)(hm:1<=many/\many<=64):∃x,bR ⟨b,true⟩ 1 (many:Int)=some x/\lc 1 b many x:=by
 unfold bR;rw[if_neg (by decide),if_pos (by decide)];refine dO (I:=λs:List Ap×ai=>Byt s.2.fB/\s.2.fB.length<140737488355328/\(∀v∈s.1,Rgt v)/\s.1.length<=many/\∀l:List Ap,(∀v∈l,Rgt v)->l.length=many->b=xL l->∃j,j<=(bh l).length/\s.1=gh ((bh l).take j)/\s.2=⟨oI ((bh l).drop j),true⟩) (μ:=λs=>if s.2.fOk then s.2.fB.length+1 else 0) (Q:=lc 1 b many) ?_ ⟨hb,hl,by simp,by simp,λl _ _ h=>⟨0,by omega,rfl,by rw[h];rfl⟩⟩;rintro⟨J,r⟩⟨h1,h2,h3,h4,h5⟩;dsimp only at*;have a3:J.length=many\/r.fOk=false->lc 1 b many (J,r):=λh=>⟨λv hv=>(h3 v hv).ok,by dsimp only;omega,λl hr a0 Z=>by
  obtain⟨_,_,_,_,Z⟩:=em Z;have b0:b=xL l:=by
   rcases Z with⟨e,_⟩|⟨_,e⟩;·subst e;simp at a0;omega
   ·exact e
  obtain⟨j,g0,W,g2⟩:=h5 l hr a0 b0;subst g2;rcases h with h|h
  ·refine⟨?_,rfl⟩;have h6:=uA (bh l) j;rw[kC.2.2,←W]at h6;have h7:=congrArg Yz h6;simp only[Z1]at h7;have h8:gh ((bh l).drop j)=[]:=Za (by omega);rw[h8,Y7]at h6;exact h6.symm
  ·cases h⟩;unfold pf kM cd;by_cases hlt:J.length<many
 ·rw[if_pos (decide_eq_true (by omega))];cases hok:r.fOk with
  |false=>right;exact⟨_,rfl,a3 (.inr hok)⟩|true=>
   left;rw[if_pos rfl,take_one,j6];obtain⟨rb,b7⟩:=r;dsimp only at*;subst hok;obtain⟨c,r1,e1,hc,a6,a1,a2⟩:=Aj ⟨rb,true⟩ h1;replace a1:r1.fB.length<140737488355328:=by dsimp only at a1;omega
   dsimp only at a2;rw[e1];dsimp only;rw[ci,j6];obtain⟨v,r',f1,f2,f3,f4,f5⟩:=zl a6 a1;obtain⟨cn,rfl⟩:=Z4 hc.1;have hn:(if (Z9.wrap ((many:Int)-(J.length:Int)))<(Z9.wrap (cn:Int))then Z9.wrap ((many:Int)-(J.length:Int))else Z9.wrap (cn:Int))=((min cn (many-J.length):Nat):Int):=by rw[ah (by omega),ah (by omega)];split<;>omega
   rw[f1,j6];dsimp only;rw[hn,JS v (by omega),j6,aD (by simp;omega),j6];refine⟨_,rfl,⟨f3,by dsimp only;omega,λx hx=>?_,by simp;omega,λl hr a0 Z=>?_⟩,?_⟩
   ·rcases Zd.1 hx with hx|hx;·exact h3 x hx
    ·have:=(Yt.1 hx).2;subst this;exact f2
   ·obtain⟨j,g0,W,g2⟩:=h5 l hr a0 Z;obtain⟨rfl,_⟩:=ai.mk.inj g2;obtain⟨q1,q2,q3⟩:=kC (l:=l);have hj:j<(bh l).length:=by
     rcases Ym j (bh l).length with h|h;·exact h
     ·rw[Zk h,q3]at W;rw[W]at hlt;omega
    have hd:oI ((bh l).drop j)=(bh l)[j].fMany::(aZ (bh l)[j].fValue++oI ((bh l).drop (j+1))):=by unfold oI;rw[Z7 hj,Zo];rfl
    have a9:=q1 _ (Z0 hj);have b3:((cn:Int)::r1.fB=(bh l)[j].fMany::(aZ (bh l)[j].fValue++oI ((bh l).drop (j+1))))/\r1.fOk=true:=by
     rcases a2 with h|⟨h,h'⟩
     ·exfalso;rw[hd,xN]at e1;rw[←(Prod.mk.inj e1).2]at h;cases h
     ·rw[←hd,←h];exact⟨rfl,h'⟩
    obtain⟨b1,b2⟩:=b3;obtain⟨b6,b4⟩:=List.cons.inj b1;obtain⟨c0,b5⟩:=r1;dsimp only at*;subst b2;have hv:=zk (hr _ a9.2.2) (ok:=true) b4 a6 a1;rw[hv]at f1;obtain⟨rfl,rfl⟩:=Prod.mk.inj (Option.some.inj f1);refine⟨j+1,by omega,?_,by simp⟩;have a4:=vk hj;have a5:=uA (bh l) (j+1);rw[q3,a4,←W]at a5;have:=congrArg Yz a5;simp only[Z1,List.length_replicate]at this;rw[a4,←W];congr 2;omega
   ·dsimp only;rcases a2 with h|⟨h,h'⟩;·rw[if_neg (by rw[f5 h];decide)];simp
    ·have:=congrArg Yz h;simp only[Z8]at this;simp only[if_true];split<;>omega
 ·right;rw[if_neg (by simp;omega),if_neg (by decide)];exact⟨_,rfl,a3 (.inl (by omega))⟩
theorem Cd{r:ai}(hb:Byt r.fB):gG r=some (if r.fB.length<8 then (0,⟨[],false⟩)else (bv (r.fB.take 8),⟨r.fB.drop 8,r.fOk⟩)):=by
 have key:∀(t:List Int) (W:ai),Byt t->t.length=8->am (λs:(Int×Int)=>gZ (t,W) s.1 s.2) (0,0)=some (bv t,W):=by
  intro t W ht hl;refine aW (λi=>(bv (t.take i),(i:Int))) 8 (by simp[bv]) (λi hi=>?_) ?_
  ·dsimp only;unfold gZ;have hi':i<t.length:=by omega
   have a1:=wB (t.take i) (ht.take i);have a0:=ht t[i] (Z0 hi');have hp:(256:Int)^(t.take i).length<=256^7:=by
    have:(t.take i).length<=7:=by simp;omega
    have h9:=Zh (show 0<256 by omega) this;have J:=Int.ofNat_le.2 h9;simpa[Zf]using J
   have Z:=Ag (x:=bv (t.take i)) (k:=8) (by omega);rw[show((8:Nat):Int)=8 from rfl]at Z;have e:bv (t.take (i+1))=bv (t.take i)*256+t[i]:=by rw[zx hi',sy]
   have e1:bv (t.take i)*2^8%18446744073709551616=bv (t.take i)*2^8:=by omega
   have e2:t[i]%18446744073709551616=t[i]:=by omega
   dsimp only;rw[if_pos (decide_eq_true (by omega)),au hi',j6,aP (by omega),Z,aU,e,e1,e2,JJ 8 (by omega) (by omega) (by omega) (by omega)];rfl
  ·unfold gZ oP;dsimp only;rw[if_neg (by rw[hl];simp),Zk (by omega)];rfl
 unfold gG;have J:=C3 (r:=r) (n:=8) (by omega);rw[show((8:Nat):Int)=8 from rfl]at J;rw[J,j6];by_cases h:r.fB.length<8;·rw[if_pos h,if_pos h,key _ _ (λc hc=>by rw[Yi hc];decide) (by simp)];rfl
 ·rw[if_neg h,if_neg h,key _ _ (hb.take _) (by simp;omega)]
theorem JT{r:ai}(hb:Byt r.fB):∃x,fz r=some x/\(Byt x.2.fB/\x.2.fB.length<=r.fB.length):=by
 unfold fz;refine dO (I:=λs:Int×Int×ai=>∃k:Nat,s.2.1=(k:Int)/\k<=76/\Byt s.2.2.fB/\s.2.2.fB.length<=r.fB.length) (μ:=λs=>77-s.2.1.toNat) (Q:=λx:Int×ai=>Byt x.2.fB/\x.2.fB.length<=r.fB.length) ?_ ⟨0,rfl,by omega,hb,Zr _⟩;rintro⟨z,_,W⟩⟨k,rfl,hk,h,J⟩;dsimp only at*;unfold kK iI pc;by_cases h70:(k:Int)<70
 ·rw[if_pos (decide_eq_true h70)];cases hok:W.fOk with
  |false=>right;exact⟨_,rfl,h,J⟩|true=>
   rw[if_pos rfl,take_one,j6];obtain⟨c,r2,e1,hc,Z,a0,_⟩:=Aj W h;rw[e1];dsimp only;rw[ci,j6,rQ,j6];by_cases h128:c<128;·right;rw[if_pos (decide_eq_true h128)];exact⟨_,rfl,Z,by dsimp only;omega⟩
   ·left;rw[if_neg (by simpa using h128)];refine⟨_,rfl,⟨k+7,?_,by omega,Z,by dsimp only;omega⟩,?_⟩;·dsimp only;rw[ah (by omega)];rfl
    ·dsimp only;rw[ah (by omega)];omega
 ·right;rw[if_neg (by simpa using h70),if_neg (by decide)];exact⟨_,rfl,h,J⟩
theorem PW:∀n:_root_.Fin 256,n.val&&&127=n.val%128:=by decide+kernel
theorem tB (q:Nat):∃(c:Nat) (t:List Int),fi q=(c:Int)::t/\c<256/\c%128=q%128/\((c<128/\q<128/\t=[])\/(128<=c/\128<=q/\t=fi (q/128))):=by
 by_cases h:q<128;·exact⟨q,[],rV h,by omega,rfl,.inl ⟨h,h,rfl⟩⟩
 ·exact⟨q%128+128,_,uy h,by omega,by omega,.inr ⟨by omega,by omega,rfl⟩⟩
theorem JU{z:Nat}(hz:z<18446744073709551616)(rest:List Int):fz ⟨fi z++rest,true⟩=some ((z:Int),⟨rest,true⟩):=by
 unfold fz;have a9:(2:Nat)^64=18446744073709551616:=by decide
 refine nI (I:=λs:Int×Int×ai=>∃i:Nat,i<=9/\s=(((z%2^(7*i):Nat):Int),((7*i:Nat):Int),⟨fi (z/2^(7*i))++rest,true⟩)) (μ:=λs=>77-s.2.1.toNat) ?_ ⟨0,by omega,by simp[Nat.mod_one]⟩;rintro _⟨i,hi,rfl⟩;dsimp only;unfold kK iI;obtain⟨c,t,e1,hc,a5,a1⟩:=tB (z/2^(7*i));have a6:2^(7*i)*(z/2^(7*i)%128)+z%2^(7*i)<=z:=by have W:=Nat.div_add_mod z (2^(7*i));have Z:2^(7*i)*(z/2^(7*i)%128)<=2^(7*i)*(z/2^(7*i)):=Nat.mul_le_mul_left _ (Nat.mod_le _ _);omega
 have a2:z%2^(7*(i+1))=2^(7*i)*(z/2^(7*i)%128)+z%2^(7*i):=by rw[show 7*(i+1)=7*i+7 by omega,Nat.pow_add,Nat.mod_mul,show(2:Nat)^7=128 from rfl];omega
 have a4:z/2^(7*(i+1))=z/2^(7*i)/128:=by rw[show 7*(i+1)=7*i+7 by omega,Nat.pow_add,Zx]
 have a3:z%2^(7*i)<2^(7*i):=Nat.mod_lt _ (Yy (by decide));have a0:bOr .u64 ((z%2^(7*i):Nat):Int) (en .u64 (X5.wrap (d4 .u8 (c:Int) 127)) ((7*i:Nat):Int))=((z%2^(7*(i+1)):Nat):Int):=by
  have W:d4 .u8 (c:Int) 127=((c%128:Nat):Int):=by have:=PW ⟨c,hc⟩;simp only at this;rw[show(127:Int)=((127:Nat):Int)from rfl,PO hc (by omega),this]
  rw[W,a5,aU,Ag (by omega)];have Z:(((z/2^(7*i)%128:Nat):Int))%18446744073709551616=((z/2^(7*i)%128:Nat):Int):=by generalize z/2^(7*i)=q;omega
  have h3:(((z/2^(7*i)%128:Nat):Int))*2^(7*i)=((2^(7*i)*(z/2^(7*i)%128):Nat):Int):=by rw[Int.natCast_mul,Zf,Int.mul_comm];rfl
  rw[Z,h3];have h4:((2^(7*i)*(z/2^(7*i)%128):Nat):Int)%18446744073709551616=((2^(7*i)*(z/2^(7*i)%128):Nat):Int):=by generalize 2^(7*i)*(z/2^(7*i)%128)=u at*;omega
  rw[h4,L2 (by omega) (by omega),Nat.or_comm,←X8 a3,a2]
 rw[if_pos (decide_eq_true (by omega)),if_pos rfl,take_one,j6,e1,Zu,xN];dsimp only;rw[ci,j6,rQ,j6,a0];rcases a1 with⟨g1,J,rfl⟩|⟨g1,J,rfl⟩
 ·right;rw[if_pos (decide_eq_true (by omega))];have:z%2^(7*(i+1))=z:=by apply Nat.mod_eq_of_lt;rw[show 7*(i+1)=7*i+7 by omega,Nat.pow_add,Nat.mul_comm];have:=(Yu (Yy (n:=7*i) (show 0<2 by decide))).1 J;exact this
  rw[this];rfl
 ·left;rw[if_neg (by simp;omega)];refine⟨_,rfl,⟨i+1,?_,?_⟩,?_⟩
  ·have W:128*2^(7*i)<=z:=(Nat.le_div_iff_mul_le (Yy (by decide))).1 J;rcases Ym i 9 with h|h;·omega
   ·have:i=9:=by omega
    subst this;have:(128:Nat)*2^(7*9)=1180591620717411303424:=by decide
    omega
  ·rw[a4,ah (by omega)];congr 2
  ·dsimp only;rw[ah (by omega)];omega
theorem Om{a:Int}(J:cL a):d7 .i64 a (-1)=-a-1/\d7 .i64 a 0=a:=by
 unfold d7;rw[ej,ej];have W:((Ze 64 a).toNat:Int)=a%18446744073709551616:=by rw[Zl];omega
 constructor
 ·show(((Ze 64 a^^^Ze 64 (-1)).toNat:Nat)+9223372036854775808:Int)%18446744073709551616-9223372036854775808=_;have h:Ze 64 (-1)=BitVec.allOnes 64:=by decide
  rw[h,BitVec.xor_allOnes,BitVec.toNat_not];have:=(Ze 64 a).isLt;have e:(2:Nat)^64=18446744073709551616:=by decide
  unfold cL at J;omega
 ·show(((Ze 64 a^^^Ze 64 0).toNat:Nat)+9223372036854775808:Int)%18446744073709551616-9223372036854775808=_;have h:Ze 64 0=0#64:=by decide
  rw[h,BitVec.xor_zero];unfold cL at J;omega
theorem Ut{d:Int}(h:cL d):d7 .i64 (Z9.wrap (aV .u64 (zig d:Int) 1)) (Z9.wrap (0-(Z9.wrap (d4 .u64 (zig d:Int) 1))))=d:=by
 have hz:=mn h;have Z:aV .u64 (zig d:Int) 1=((zig d/2:Nat):Int):=by have:=sw (x:=(zig d:Int)) (k:=1) (by omega);simpa using this
 have W:d4 .u64 (zig d:Int) 1=((zig d%2:Nat):Int):=by rw[show(1:Int)=((1:Nat):Int)from rfl,M4 hz (by omega),Y8]
 rw[Z,W,ah (n:=((zig d/2:Nat):Int)) (by omega),ah (n:=((zig d%2:Nat):Int)) (by omega)];have hr:cL ((zig d/2:Nat):Int):=by unfold cL;omega
 obtain⟨g1,J⟩:=Om hr;unfold zig at*;by_cases hd:d<0
 ·rw[if_pos hd]at*;have:(0-(((-2*d-1).toNat%2:Nat):Int))=-1:=by omega
  rw[this,show Z9.wrap (-1)=-1 from by decide,g1];omega
 ·rw[if_neg hd]at*;have:(0-(((2*d).toNat%2:Nat):Int))=0:=by omega
  rw[this,show Z9.wrap 0=0 from by decide,J];omega
theorem DV{n m:Int}(h:cL m):Z9.wrap (n+Z9.wrap (m-n))=m:=by rw[ej,ej];unfold cL at h;omega
theorem On{v:Ap}(h:Rgt v)(J:v.fKind=2):v=gY v.fInt:=by cases h<;>first|rfl|(simp at J)
theorem lB{l:List Ap}(h:il l=true)(W:∀v∈l,Rgt v):∀v∈l,v=gY v.fInt/\cL v.fInt:=λv J=>by have:=List.all_eq_true.1 h v J;exact⟨On (W v J) (by simpa using this),(W v J).ok.int⟩
theorem G2{b:List Int}{many:Nat}(hb:Byt b)(hl:b.length<140737488355328)(hm:1<=many/\many<=64):∃x,bR ⟨b,true⟩ 2 (many:Int)=some x/\lc 2 b many x:=by
 unfold bR;rw[if_neg (by decide),if_neg (by decide),if_pos (by decide),Cd hb,j6];unfold eU;rw[j6,aD (by simp),j6];generalize J:(if ({fB:=b,fOk:=true}:ai).fB.length<8 then ((0:Int),({fB:=[],fOk:=false}:ai))else (bv (({fB:=b,fOk:=true}:ai).fB.take 8),⟨({fB:=b,fOk:=true}:ai).fB.drop 8,true⟩))=x0;have a5:Byt x0.2.fB/\x0.2.fB.length<140737488355328:=by
  rw[←J];dsimp only;split;·exact⟨.nil,by simp⟩
  ·exact⟨hb.drop _,by simp;omega⟩
 refine dO (I:=λs:List Ap×Int×ai=>Byt s.2.2.fB/\s.2.2.fB.length<140737488355328/\(∀v∈s.1,VOK v)/\s.1.length<=many/\∀l:List Ap,(∀v∈l,Rgt v)->l.length=many->il l=true->b=kD (l.map (·.fInt))->∃k,s.1.length=k+1/\s.1=l.take (k+1)/\s.2.1=(l.map (·.fInt)).getD k 0/\s.2.2=⟨((Zq (many-1)).drop k).flatMap (hU (l.map (·.fInt))),true⟩) (μ:=λs=>many-s.1.length) (Q:=lc 2 b many) ?_ ⟨a5.1,a5.2,λv hv=>?_,by simp;omega,λl hr Z hi W=>?_⟩
 ·rintro⟨a3,n,r⟩⟨h1,h2,h3,h4,h5⟩;dsimp only at*;have a6:a3.length=many\/r.fOk=false->lc 2 b many (a3,r):=λh=>⟨h3,by dsimp only;omega,λl hr Z W=>by
   obtain⟨_,_,_,hi,W⟩:=em W;have b1:b=kD (l.map (·.fInt)):=by
    rcases W with⟨e,_⟩|⟨_,e⟩;·subst e;simp at Z;omega
    ·exact e
   obtain⟨k,g1,g2,g3,g4⟩:=h5 l hr Z (hi (.inl rfl)) b1;subst g4;rcases h with h|h;·rw[←g1,h,←Z,Z2]at g2;exact⟨g2,rfl⟩
   ·cases h⟩;unfold pg kN cd;by_cases hlt:a3.length<many
  ·rw[if_pos (decide_eq_true (by omega))];cases hok:r.fOk with
   |false=>right;exact⟨_,rfl,a6 (.inr hok)⟩|true=>
    left;rw[if_pos rfl];obtain⟨⟨z,r'⟩,e1,e2,e3⟩:=JT h1;rw[e1,j6];unfold eU;rw[j6,aD (by simp;omega),j6];dsimp only at e2 e3⊢;refine⟨_,rfl,⟨e2,by dsimp only;omega,λx J=>?_,by simp;omega,λl hr Z hi W=>?_⟩,by simp;omega⟩
    ·rcases Zd.1 J with J|J;·exact h3 x J
     ·have:x=gY (Z9.wrap (n+(d7 .i64 (Z9.wrap (aV .u64 z 1)) (Z9.wrap (0-(Z9.wrap (d4 .u64 z 1))))))):=by simpa using J
      subst this;exact(Rgt.int _ (ik _)).ok
    ·obtain⟨k,g1,g2,g3,g4⟩:=h5 l hr Z hi W;have hk:k+1<l.length:=by omega
     have a1:=lB hi hr;have a0:∀i (h:i<l.length),(l.map (·.fInt)).getD i 0=l[i].fInt:=λi h=>by rw[wD (by simpa using h)];simp
     have hd:(Zq (many-1)).drop k=k::(Zq (many-1)).drop (k+1):=by rw[Z7 (by simp;omega)];simp
     rw[hd,Zo]at g4;have a9:hU (l.map (·.fInt)) k=fi (zig (Z9.wrap (l[k+1].fInt-l[k].fInt))):=by unfold hU;rw[a0 _ hk,a0 _ (by omega)]
     rw[a9]at g4;rw[g4,JU (mn (ik _))]at e1;obtain⟨rfl,rfl⟩:=Prod.mk.inj (Option.some.inj e1);rw[Ut (ik _),g3,a0 _ (by omega),DV (a1 _ (Z0 hk)).2];refine⟨k+1,by simp;omega,?_,(a0 _ hk).symm,rfl⟩;dsimp only;rw[zx hk,g2];congr 2;exact(a1 _ (Z0 hk)).1.symm
  ·right;rw[if_neg (by simp;omega),if_neg (by decide)];exact⟨_,rfl,a6 (.inl (by omega))⟩
 ·have:v=gY (Z9.wrap x0.1):=by simpa using hv
  subst this;exact(Rgt.int _ (ik _)).ok
 ·have h0:0<l.length:=by omega
  have a1:=lB hi hr;have a0:∀i (h:i<l.length),(l.map (·.fInt)).getD i 0=l[i].fInt:=λi h=>by rw[wD (by simpa using h)];simp
  have a4:=(a1 _ (Z0 h0)).2;have a2:b=be8 (l[0].fInt%18446744073709551616)++(Zq (many-1)).flatMap (hU (l.map (·.fInt))):=by rw[W];unfold kD;rw[a0 0 h0,Zw,Z]
  have b0:¬b.length<8:=by rw[a2];simp[bB]
  dsimp only at J;rw[if_neg b0]at J;have h1:b.take 8=be8 (l[0].fInt%18446744073709551616):=by rw[a2];exact Y6 (bB _)
  have h2:b.drop 8=(Zq (many-1)).flatMap (hU (l.map (·.fInt))):=by rw[a2];exact Yw (bB _)
  rw[h1,h2,ur (by omega) (by omega)]at J;subst J;refine⟨0,rfl,?_,?_,rfl⟩
  ·dsimp only;rw[zx h0,xJ a4];simp only[List.take_zero,X3];congr 1;exact(a1 _ (Z0 h0)).1.symm
  ·dsimp only;rw[a0 0 h0,xJ a4]
theorem DW (r:ai)(many w:Nat):(uw r many w).1.length=many/\(∀x∈(uw r many w).1,∃n:Nat,x=(n:Int)/\n<18446744073709551616):=by
 unfold uw;split;·exact⟨by simp,λx J=>⟨0,(Yt.1 J).2,by decide⟩⟩
 split;·exact⟨by simp,λx J=>⟨0,(Yt.1 J).2,by decide⟩⟩
 · rename_i h _;refine⟨by simp,λx J=>?_⟩;obtain⟨i,_,rfl⟩:=Y2.1 J;refine⟨_,rfl,?_⟩;have W:=mL (λk=>dJ r.fB (i*w+k)) w;have Z:(2:Nat)^w<=2^64:=Zh (by decide) (by omega);have h3:(2:Nat)^64=18446744073709551616:=by decide
   unfold unp;omega
theorem AS{pl:List Int}{w:Nat}(Z:w<=64)(h:∀x∈pl,0<=x/\x<2^w):uw ⟨bU pl w,true⟩ pl.length w=(pl,⟨[],true⟩):=by
 have hl:(bU pl w).length=(pl.length*w+7)/8:=fa _ _ _;unfold uw;rw[if_neg (by omega),if_neg (by dsimp only;omega)];dsimp only;congr 1
 · apply Y9;·simp
   ·intro i W J;have:=xK pl w i [] J (h _ (Z0 J));rw[Y7]at this;simp[this]
 ·rw[←hl,Yp]
theorem IC{b:List Int}{many:Nat}(hb:Byt b)(hl:b.length<140737488355328)(hm:1<=many/\many<=64):∃x,bR ⟨b,true⟩ 3 (many:Int)=some x/\lc 3 b many x:=by
 unfold bR;rw[if_neg (by decide),if_neg (by decide),if_neg (by decide),if_pos (by decide),take_one,j6];obtain⟨c,r1,e1,hc,b5,c1,c2⟩:=Aj ⟨b,true⟩ hb;rw[e1];dsimp only at*;rw[ci,j6];obtain⟨cn,rfl⟩:=Z4 hc.1;refine dO (I:=λs:List Ap×Int×ai=>Byt s.2.2.fB/\s.2.2.fB.length<140737488355328/\(∀v∈s.1,Rgt v)/\s.1.length<=cn/\s.2.1=(s.1.length:Int)/\∀l:List Ap,(∀v∈l,Rgt v)->l.length=many->b=kE l->s.1=(aB l).take s.1.length/\cn=(aB l).length/\s.2.2=⟨((aB l).drop s.1.length).flatMap aZ++bU (l.map λv=>(ek (aB l) v:Int)) (wid ((aB l).length-1)),true⟩) (μ:=λs=>cn-s.1.length) (Q:=lc 3 b many) ?_ ⟨b5,by dsimp only;omega,by simp,by simp,rfl,λl h Z J=>?_⟩
 · rintro⟨W,wn,r⟩⟨h1,h2,h3,h4,b1,h5⟩;dsimp only at*;subst b1;unfold pi;by_cases hlt:W.length<cn
   · left;rw[if_pos (decide_eq_true (by omega))];obtain⟨v,r',f1,f2,f3,f4,f5⟩:=zl h1 h2;rw[f1,j6,aD (by simp;omega),j6];refine⟨_,rfl,⟨f3,by dsimp only;omega,λx hx=>?_,by simp;omega,?_,λl h Z J=>?_⟩,by simp;omega⟩
     · rcases Zd.1 hx with hx|hx;·exact h3 x hx
       · have:x=v:=by simpa using hx
         subst this;exact f2
     ·dsimp only;rw[bC];simp;omega
     · obtain⟨g1,g2,g3⟩:=h5 l h Z J;have hk:W.length<(aB l).length:=by omega
       obtain⟨w1,w2,w3⟩:=dp h;rw[Z7 hk,Zo,Zi]at g3;subst g3;have hv:=zk (h _ ((w2 _).1 (Z0 hk))) (ok:=true) rfl h1 h2;rw[hv]at f1;obtain⟨rfl,rfl⟩:=Prod.mk.inj (Option.some.inj f1);refine⟨?_,g2,by simp⟩;simp only[Z1,Z6];rw[zx hk,←g1]
   · right;rw[if_neg (by simp;omega)];unfold ph;have a6:X5.wrap (Z9.wrap ((if (W.length:Int)<1 then 1 else (W.length:Int))-1))=((W.length-1:Nat):Int):=by rw[ah (by split<;>omega),aU];split<;>omega
     have b6:wid (W.length-1)<=64:=py (Zs (show W.length-1<256 by omega) (by decide));rw[a6,len_eq (by omega),j6,AR h1 (by omega),j6];obtain⟨u1,u2⟩:=DW r many (wid (W.length-1));have a2:∀l:List Ap,(∀v∈l,Rgt v)->l.length=many->b=kE l->W=aB l/\uw r many (wid (W.length-1))=(l.map (λv=>(ek (aB l) v:Int)),⟨[],true⟩):=λl h Z J=>by
      obtain⟨g1,g2,g3⟩:=h5 l h Z J;obtain⟨w1,w2,w3⟩:=dp h;have e2:W.length=(aB l).length:=by omega
      rw[e2,Z2]at g1;refine⟨g1,?_⟩;rw[e2,Yp]at g3;simp only[List.flatMap_nil,X3]at g3;rw[g3,e2,←Z];have:=AS (pl:=l.map λv=>(ek (aB l) v:Int)) (w:=wid ((aB l).length-1)) (by rw[←e2];exact b6) (λx hx=>by
       obtain⟨v,hv,rfl⟩:=Y2.1 hx;have hp:=l6 ((w2 v).2 hv);have c0:=zf ((aB l).length-1);refine⟨by omega,?_⟩;have:((ek (aB l) v:Nat):Int)<((2^wid ((aB l).length-1):Nat):Int):=Int.ofNat_lt.2 (by omega);rwa[Zf]at this);rw[Zw]at this;exact this
     generalize uw r many (wid (W.length-1))=U at*;obtain⟨pl,r2⟩:=U;dsimp only at*;have b0:  ∃x,am (λs:(List Ap×Int)=>kO W (pl,r2) s.1 s.2) ([],0)=some x/\lc 3 b many x:=by
      refine dO (I:=λs:List Ap×Int=>(∀v∈s.1,Rgt v)/\s.1.length<=many/\s.2=(s.1.length:Int)/\∀l:List Ap,(∀v∈l,Rgt v)->l.length=many->b=kE l->s.1=l.take s.1.length) (μ:=λs=>many-s.1.length) (Q:=lc 3 b many) ?_ ⟨by simp,by simp,rfl,λl _ _ _=>by simp⟩;rintro⟨a0,an⟩⟨k1,k2,b3,k3⟩;dsimp only at*;subst b3;unfold kO cd;dsimp only;by_cases hlt2:a0.length<many
      · have hi:a0.length<pl.length:=by omega
        obtain⟨n,a3,b7⟩:=u2 _ (Z0 hi);have e3:X5.wrap (W.length:Int)=(W.length:Int):=by rw[aU];omega
        rw[if_pos (decide_eq_true (by omega)),au hi,j6,e3,a3];by_cases hge:W.length<=n
        · right;rw[if_pos (decide_eq_true (by omega))];refine⟨_,rfl,by simp,by simp,λl h Z J=>?_⟩;exfalso;obtain⟨_,_,_,_,J⟩:=em J;have a1:b=kE l:=by
           rcases J with⟨e,_⟩|⟨_,e⟩;·subst e;simp at Z;omega
           ·exact e
          obtain⟨g1,g2⟩:=a2 l h Z a1;obtain⟨rfl,_⟩:=Prod.mk.inj g2;have hp:=l6 (((dp h).2.1 _).2 (Z0 (show a0.length<l.length by omega)));simp only[Yn]at a3;rw[g1]at hge;omega
        · left;rw[if_neg (by simp;omega),au (by omega),j6,aD (by simp;omega),j6];refine⟨_,rfl,⟨λx hx=>?_,by simp;omega,?_,λl h Z J=>?_⟩,by simp;omega⟩
          · rcases Zd.1 hx with hx|hx;·exact k1 x hx
            · have:x=W[n]:=by simpa using hx
              subst this;exact h3 _ (Z0 _)
          ·dsimp only;rw[aP (by omega)];simp
          · have q:=k3 l h Z J;obtain⟨g1,g2⟩:=a2 l h Z J;obtain⟨rfl,_⟩:=Prod.mk.inj g2;have hk:a0.length<l.length:=by omega
            have b2:=((dp h).2.1 _).2 (Z0 hk);simp only[Yn]at a3;have a9:n=ek (aB l) l[a0.length]:=by omega
            subst g1;subst a9;dsimp only;simp only[Z1,Z6];rw[zx hk,←q,xM b2]
      · right;rw[if_neg (by simp;omega)];refine⟨_,rfl,λv hv=>(k1 v hv).ok,by dsimp only;omega,λl h Z J=>?_⟩;obtain⟨_,_,_,_,J⟩:=em J;have a1:b=kE l:=by
         rcases J with⟨e,_⟩|⟨_,e⟩;·subst e;simp at Z;omega
         ·exact e
        have q:=k3 l h Z a1;obtain⟨g1,g2⟩:=a2 l h Z a1;obtain⟨_,rfl⟩:=Prod.mk.inj g2;have:a0.length=l.length:=by omega
        rw[this,Z2]at q;exact⟨q,rfl⟩
     obtain⟨x,a5,a4⟩:=b0;rw[a5];exact⟨x,rfl,a4⟩
 · obtain⟨w1,w2,w3⟩:=dp h;have b4:b=(((aB l).length:Nat):Int)::((aB l).flatMap aZ++bU (l.map λv=>(ek (aB l) v:Int)) (wid ((aB l).length-1))):=J;subst b4;rw[xN]at e1;obtain⟨e2,e3⟩:=Prod.mk.inj e1;refine⟨by simp,?_,?_⟩;·have:=(List.cons.inj e2).1;omega
   ·rw[←e3];rfl
theorem ID{b:List Int}{many:Nat}{kind:Int}(hk:kind≠0/\kind≠1/\kind≠2/\kind≠3)(hb:Byt b)(hm:1<=many/\many<=64):∃x,bR ⟨b,true⟩ kind (many:Int)=some x/\lc kind b many x:=by
 unfold bR;rw[if_neg (by simpa using hk.1),if_neg (by simpa using hk.2.1),if_neg (by simpa using hk.2.2.1),if_neg (by simpa using hk.2.2.2),Cd hb,j6];dsimp only;generalize h:(if b.length<8 then ((0:Int),({fB:=[],fOk:=false}:ai))else (bv (b.take 8),⟨b.drop 8,true⟩))=x0;have a5:Byt x0.2.fB:=by
  rw[←h];split;·exact .nil
  ·exact hb.drop _
 rw[take_one,j6];obtain⟨c,r1,e1,hc,b2,b4,b5⟩:=Aj x0.2 a5;rw[e1];dsimp only;obtain⟨cn,rfl⟩:=Z4 hc.1;rw[ci,j6,ah (by omega),AR b2 (by omega),j6];obtain⟨u1,u2⟩:=DW r1 many cn;have a4:∀l:List Ap,(∀v∈l,Rgt v)->l.length=many->il l=true->b=mo (l.map (·.fInt))->x0.1=iy (l.map (·.fInt))%18446744073709551616/\uw r1 many cn=(aQ (l.map (·.fInt)),⟨[],true⟩):=λl hr Z hi W=>by
  have a1:=lB hi hr;have h':∀x∈l.map (·.fInt),cL x:=λx h=>by obtain⟨v,hv,rfl⟩:=Y2.1 h;exact(a1 v hv).2
  have hu:=nL h';obtain⟨hw,b1⟩:=kZ hu;have a2:b=be8 (iy (l.map (·.fInt))%18446744073709551616)++((ce (aQ (l.map (·.fInt))):Nat):Int)::bU (aQ (l.map (·.fInt))) (ce (aQ (l.map (·.fInt)))):=by rw[W];unfold mo;simp
  have h8:¬b.length<8:=by rw[a2];simp[bB]
  rw[if_neg h8]at h;have h1:b.take 8=be8 (iy (l.map (·.fInt))%18446744073709551616):=by rw[a2];exact Y6 (bB _)
  have h2:b.drop 8=((ce (aQ (l.map (·.fInt))):Nat):Int)::bU (aQ (l.map (·.fInt))) (ce (aQ (l.map (·.fInt)))):=by rw[a2];exact Yw (bB _)
  rw[h1,h2,ur (by omega) (by omega)]at h;subst h;dsimp only at e1;rw[xN]at e1;obtain⟨e3,e4⟩:=Prod.mk.inj e1;have e5:cn=ce (aQ (l.map (·.fInt))):=by have:=(List.cons.inj e3).1;omega
  subst e4;refine⟨rfl,?_⟩;have:=AS (pl:=aQ (l.map (·.fInt))) (w:=ce (aQ (l.map (·.fInt)))) hw (λx h=>by
   have h3:=hu x h;have h4:=zf x.toNat;have h5:=b1 x h;have h6:(2:Nat)^wid x.toNat<=2^ce (aQ (l.map (·.fInt))):=Zh (by decide) h5;refine⟨h3.1,?_⟩;have:((x.toNat:Nat):Int)<((2^ce (aQ (l.map (·.fInt))):Nat):Int):=Int.ofNat_lt.2 (by omega);rw[Zf]at this;have e:((x.toNat:Nat):Int)=x:=by omega
   rw[e]at this;exact this);have a6:(aQ (l.map (·.fInt))).length=many:=by simp[aQ,Z]
  rw[a6]at this;rw[e5];exact this
 generalize uw r1 many cn=U at*;obtain⟨pl,r2⟩:=U;obtain⟨n0,rn⟩:=x0;dsimp only at*;refine dO (I:=λs:List Ap×Int=>(∀v∈s.1,Rgt v)/\s.1.length<=many/\s.2=(s.1.length:Int)/\∀l:List Ap,(∀v∈l,Rgt v)->l.length=many->il l=true->b=mo (l.map (·.fInt))->s.1=l.take s.1.length) (μ:=λs=>many-s.1.length) (Q:=lc kind b many) ?_ ⟨by simp,by simp,rfl,λl _ _ _ _=>by simp⟩;rintro⟨J,an⟩⟨k1,k2,a9,k3⟩;dsimp only at*;subst a9;unfold pj cd;dsimp only;by_cases hlt2:J.length<many
 · have hi:J.length<pl.length:=by omega
   left;unfold eU;rw[if_pos (decide_eq_true (by omega)),au hi,j6,j6,aD (by simp;omega),j6];refine⟨_,rfl,⟨λx h=>?_,by simp;omega,?_,λl hr Z a0 W=>?_⟩,by simp;omega⟩
   · rcases Zd.1 h with h|h;·exact k1 x h
     · have:x=gY (Z9.wrap (X5.wrap (n0+pl[J.length]))):=by simpa using h
       subst this;exact .int _ (ik _)
   ·dsimp only;rw[aP (by omega)];simp
   · have q:=k3 l hr Z a0 W;obtain⟨g1,g2⟩:=a4 l hr Z a0 W;obtain⟨rfl,_⟩:=Prod.mk.inj g2;have a1:=lB a0 hr;have hk:J.length<l.length:=by omega
     have h1:=a1 _ (Z0 hk);dsimp only;simp only[Z1,Z6];rw[zx hk,←q];congr 1;have e9:Z9.wrap (X5.wrap (n0+(aQ (l.map (·.fInt)))[J.length]))=l[J.length].fInt:=by
      have:(aQ (l.map (·.fInt)))[J.length]=l[J.length].fInt-iy (l.map (·.fInt)):=by simp[aQ]
      rw[this,g1,aU,ej];have:=h1.2;unfold cL at this;omega
     rw[e9];congr 1;exact h1.1.symm
 · right;rw[if_neg (by simp;omega)];refine⟨_,rfl,λv hv=>(k1 v hv).ok,by dsimp only;omega,λl hr Z W=>?_⟩;obtain⟨b3,_,_,a0,W⟩:=em W;have b0:kind=4:=by omega
   subst b0;have a3:b=mo (l.map (·.fInt)):=by
    rcases W with⟨e,_⟩|⟨_,e⟩;·subst e;simp at Z;omega
    ·exact e
   have q:=k3 l hr Z (a0 (.inr rfl)) a3;obtain⟨g1,g2⟩:=a4 l hr Z (a0 (.inr rfl)) a3;obtain⟨_,rfl⟩:=Prod.mk.inj g2;have:J.length=l.length:=by omega
   rw[this,Z2]at q;exact⟨q,rfl⟩
theorem DX{b:List Int}{many:Nat}(kind:Int)(h:Byt b)(hl:b.length<140737488355328)(hm:1<=many/\many<=64):∃x,bR ⟨b,true⟩ kind (many:Int)=some x/\lc kind b many x:=by
 by_cases h0:kind=0;·subst h0;exact G1 h hl hm
 by_cases h1:kind=1;·subst h1;exact IB h hl hm
 by_cases h2:kind=2;·subst h2;exact G2 h hl hm
 by_cases h3:kind=3;·subst h3;exact IC h hl hm
 ·exact ID ⟨h0,h1,h2,h3⟩ h hm
def iV (kind:Int)(b:List Int)(many:Nat)(g:List Ap):Prop:=(∀v∈g,VOK v)/\g.length<=1048576/\∀l:List Ap,(∀v∈l,Rgt v)->l.length=many->enc kind l=(b,0)->g=l
theorem ra{kind:Int}{l:List Ap}{b:List Int}{many:Nat}(h:enc kind l=(b,0))(J:l.length=many)(hm:1<=many):b=rW kind l:=by
 obtain⟨_,_,_,_,h⟩:=em h;rcases h with⟨e,_⟩|⟨_,e⟩;·subst e;simp at J;omega
 ·exact e
theorem FZ{b:List Int}{many:Nat}(hb:Byt b)(hl:b.length<=1048576)(hm:1<=many/\many<=64):∃g,xw b (many:Int)=some g/\iV 0 b many g:=by
 unfold xw;refine dO (I:=λs:List Ap×Int×Int=>∃a1:Nat,s.2.1=(a1:Int)/\a1<=b.length/\s.2.2=(s.1.length:Int)/\(∀v∈s.1,Rgt v)/\s.1.length<=many/\∀l:List Ap,(∀v∈l,Rgt v)->l.length=many->b=nM l->s.1=l.take s.1.length/\b.drop a1=nM (l.drop s.1.length)) (μ:=λs=>many-s.1.length) (Q:=iV 0 b many) ?_ ⟨0,rfl,by omega,rfl,by simp,by simp,λl _ _ h=>⟨rfl,h⟩⟩;rintro⟨a2,x,y⟩⟨a1,Z,h1,hy,h3,h4,h5⟩;dsimp only at*;subst Z;subst hy;unfold AN AM;by_cases hlt:a2.length<many
 ·rw[if_pos (decide_eq_true (by omega)),bP h1,j6,qg (hb.drop _),j6];cases hp:bJ (b.drop a1)with
  |none=>
   right;dsimp only;rw[if_pos (by decide)];refine⟨_,rfl,by simp,by simp,λl W a0 he=>?_⟩;exfalso;obtain⟨g1,J⟩:=h5 l W a0 (ra he a0 hm.1);have hk:a2.length<l.length:=by omega
   rw[vQ hk]at J;rw[J,iU (W _ (Z0 hk))]at hp;cases hp|some p=>
   obtain⟨v,n⟩:=p;have hn:=kY (hb.drop _) hp;simp only[Y1]at hn;left;dsimp only;rw[if_neg (by simp;omega),aD (by simp;omega),j6,aP (by omega),ah (by omega)];refine⟨_,rfl,⟨a1+n,by dsimp only;omega,by omega,by simp,λx Z=>?_,by simp;omega,λl W a0 he=>?_⟩,by simp;omega⟩
   ·rcases Zd.1 Z with Z|Z;·exact h3 x Z
    ·have:x=v:=by simpa using Z
     subst this;exact(gN (hb.drop _) hp).1
   ·obtain⟨g1,J⟩:=h5 l W a0 he;have hk:a2.length<l.length:=by omega
    rw[vQ hk]at J;rw[J,iU (W _ (Z0 hk))]at hp;obtain⟨rfl,rfl⟩:=Prod.mk.inj (Option.some.inj hp);dsimp only;simp only[Z1,Z6];refine⟨?_,?_⟩;·rw[zx hk,←g1]
    ·rw[←Y5,J,Zy]
 ·right;rw[if_neg (by simp;omega)];refine⟨_,rfl,λv hv=>(h3 v hv).ok,by omega,λl W a0 he=>?_⟩;obtain⟨g1,J⟩:=h5 l W a0 (ra he a0 hm.1);have:a2.length=l.length:=by omega
  rw[this,Z2]at g1;exact g1
theorem G3{b:List Int}{many:Nat}(hb:Byt b)(hl:b.length<=1048576)(hm:1<=many/\many<=64):∃g,Ae b (many:Int)=some g/\iV 1 b many g:=by
 unfold Ae;refine dO (I:=λs:List Ap×Int=>∃J:Nat,s.2=(J:Int)/\J<=b.length/\(∀v∈s.1,Rgt v)/\s.1.length<=many+255/\∀l:List Ap,(∀v∈l,Rgt v)->l.length=many->b=xL l->∃j,j<=(bh l).length/\s.1=gh ((bh l).take j)/\b.drop J=oI ((bh l).drop j)) (μ:=λs=>b.length-s.2.toNat) (Q:=iV 1 b many) ?_ ⟨0,rfl,by omega,by simp,by simp,λl _ _ h=>⟨0,by omega,rfl,h⟩⟩;rintro⟨a0,x⟩⟨J,hx,h1,h3,h4,h5⟩;dsimp only at*;subst hx;have a3:(J=b.length\/many<=a0.length)->iV 1 b many a0:=λh=>⟨λv hv=>(h3 v hv).ok,by omega,λl hr a1 he=>by
  obtain⟨j,g0,Z,W⟩:=h5 l hr a1 (ra he a1 hm.1);obtain⟨q1,q2,q3⟩:=kC (l:=l);have a2:=uA (bh l) j;rw[q3,←Z]at a2;have:gh ((bh l).drop j)=[]:=by
   rcases h with h|h
   ·rw[h,Yp]at W;cases hd:(bh l).drop j with
    |nil=>rfl|cons a t=>rw[hd]at W;simp[oI]at W
   ·have:=congrArg Yz a2;simp only[Z1]at this;exact Za (by omega)
  rw[this,Y7]at a2;exact a2.symm⟩;unfold BZ xy BX;by_cases hlt:J<b.length
 ·rw[if_pos (decide_eq_true (by omega))];by_cases hlt2:a0.length<many
  ·have hc:=hb b[J] (Z0 hlt);rw[if_pos (decide_eq_true (by omega)),aP (by omega),bP (by omega),j6,qg (hb.drop _),j6];cases hp:bJ (b.drop (J+1))with
   |none=>
    right;dsimp only;rw[if_pos (by decide)];refine⟨_,rfl,by simp,by simp,λl hr a1 he=>?_⟩;exfalso;obtain⟨j,g0,Z,W⟩:=h5 l hr a1 (ra he a1 hm.1);obtain⟨q1,q2,q3⟩:=kC (l:=l);have hj:j<(bh l).length:=by
     rcases Ym j (bh l).length with h|h;·exact h
     ·rw[Zk h,q3]at Z;rw[Z]at hlt2;omega
    have hd:oI ((bh l).drop j)=(bh l)[j].fMany::(aZ (bh l)[j].fValue++oI ((bh l).drop (j+1))):=by unfold oI;rw[Z7 hj,Zo];rfl
    rw[hd,Z7 hlt]at W;rw[(List.cons.inj W).2,iU (hr _ (q1 _ (Z0 hj)).2.2)]at hp;cases hp|some p=>
    obtain⟨v,n⟩:=p;have hn:=kY (hb.drop _) hp;have hv:=(gN (hb.drop _) hp).1;simp only[Y1]at hn;left;dsimp only;rw[if_neg (by simp;omega)];obtain⟨cn,a4⟩:=Z4 hc.1;have a5:am (λs:(List Ap×Int)=>tp b (J:Int) (v,(n:Int)) s.1 s.2) (a0,0)=some (.inl (a0++Z5 cn v,((J+1+n:Nat):Int))):=by
     refine aW (λi=>(a0++Z5 i v,(i:Int))) cn (by simp) (λi hi=>?_) ?_
     ·dsimp only;unfold tp;rw[au hlt,j6,a4,ah (by omega),if_pos (decide_eq_true (by omega)),aD (by simp;omega),j6,aP (by omega),Zi,List.replicate_succ']
     ·dsimp only;unfold tp BY;rw[au hlt,j6,a4,ah (by omega),if_neg (by simp),aP (by omega),ah (by omega)];rfl
    rw[a5];refine⟨_,rfl,⟨J+1+n,rfl,by omega,λx hx=>?_,by simp;omega,λl hr a1 he=>?_⟩,by dsimp only;omega⟩
    ·rcases Zd.1 hx with hx|hx;·exact h3 x hx
     ·have:=(Yt.1 hx).2;subst this;exact hv
    ·obtain⟨j,g0,Z,W⟩:=h5 l hr a1 he;obtain⟨q1,q2,q3⟩:=kC (l:=l);have hj:j<(bh l).length:=by
      rcases Ym j (bh l).length with h|h;·exact h
      ·rw[Zk h,q3]at Z;rw[Z]at hlt2;omega
     have hd:oI ((bh l).drop j)=(bh l)[j].fMany::(aZ (bh l)[j].fValue++oI ((bh l).drop (j+1))):=by unfold oI;rw[Z7 hj,Zo];rfl
     rw[hd,Z7 hlt]at W;obtain⟨g3,g4⟩:=List.cons.inj W;rw[g4,iU (hr _ (q1 _ (Z0 hj)).2.2)]at hp;obtain⟨rfl,rfl⟩:=Prod.mk.inj (Option.some.inj hp);refine⟨j+1,by omega,?_,?_⟩
     ·dsimp only;rw[vk hj,←Z];congr 2;omega
     ·rw[←Y5,g4,Zy]
  ·right;have:decide ((a0.length:Int)<(many:Int))=false:=by simp;omega
   rw[this,if_neg (by decide)];exact⟨_,rfl,a3 (.inr (by omega))⟩
 ·right;rw[if_neg (by simp;omega),if_neg (by decide)];exact⟨_,rfl,a3 (.inl (by omega))⟩
def tC (h:List Int)(many k:Nat):List Int:=((Zq (many-1)).drop k).flatMap (hU h)
theorem Ce (J:List Int){many k:Nat}(h:k+1<many):tC J many k=hU J k++tC J many (k+1):=by unfold tC;rw[Z7 (by simp;omega),Zo];simp
theorem DY (J:List Int){many k:Nat}(h:many<=k+1):tC J many k=[]:=by unfold tC;rw[List.drop_of_length_le (by simp;omega)];rfl
theorem Ej{b:List Int}{many:Nat}(hb:Byt b)(hl:b.length<=1048576)(hm:1<=many/\many<=64):∃g,u3 b (many:Int)=some g/\iV 2 b many g:=by
 unfold u3;have c7:(2:Nat)^64=18446744073709551616:=by decide
 by_cases h8:b.length<8
 ·rw[if_pos (decide_eq_true (by omega))];refine⟨_,rfl,by simp,by simp,λl hr a0 J=>?_⟩;exfalso;have b7:b=kD (l.map (·.fInt)):=ra J a0 hm.1;rw[b7]at h8;simp[kD,bB]at h8;omega
 have b2:=cx (xs:=b) (lo:=0) (hi:=8) (by omega) (by omega);rw[show((0:Nat):Int)=0 from rfl,show((8:Nat):Int)=8 from rfl,X4]at b2;rw[if_neg (by simp;omega),b2,j6,mJ _ (hb.take 8) (by simp;omega),j6];refine dO (I:=λs:Int×List Ap×Int×Int×Int=>∃pos m:Nat,s.2.2.2.2=(pos:Int)/\8<=pos/\pos<=b.length/\s.2.2.2.1=((7*m:Nat):Int)/\m<=pos/\(0<=s.2.2.1/\s.2.2.1<18446744073709551616)/\(∀v∈s.2.1,VOK v)/\s.2.1.length<=many/\∀l:List Ap,(∀v∈l,Rgt v)->l.length=many->il l=true->b=kD (l.map (·.fInt))->∃k,s.2.1.length=k+1/\s.2.1=l.take (k+1)/\s.1=(l.map (·.fInt)).getD k 0/\((many<=k+1/\b.drop pos=[])\/(k+1<many/\m<=9/\∃z:Nat,z<18446744073709551616/\hU (l.map (·.fInt)) k=fi z/\z=zig (Z9.wrap ((l.map (·.fInt)).getD (k+1) 0-(l.map (·.fInt)).getD k 0))/\s.2.2.1=((z%2^(7*m):Nat):Int)/\b.drop pos=fi (z/2^(7*m))++tC (l.map (·.fInt)) many (k+1)))) (μ:=λs=>b.length-s.2.2.2.2.toNat) (Q:=iV 2 b many) ?_ ⟨8,0,rfl,by omega,by omega,rfl,by omega,by simp,λv hv=>?_,by simp;omega,λl hr a0 hi J=>?_⟩
 ·rintro⟨n,a1,z,s,x⟩⟨pos,m,hx,e5,e0,hs,d1,hz,h3,h4,h5⟩;dsimp only at*;subst hx;subst hs;have b0:(pos=b.length\/a1.length=many)->iV 2 b many a1:=λh=>⟨h3,by omega,λl hr a0 J=>by
   have hi:=(em J).2.2.2.1 (.inl rfl);obtain⟨k,g1,g2,g3,W⟩:=h5 l hr a0 hi (ra J a0 hm.1);have hk:l.length<=k+1:=by
    rcases W with⟨W,_⟩|⟨W,_,z',_,_,_,_,g5⟩;·omega
    ·rcases h with h|h
     ·rw[h,Yp]at g5;obtain⟨c,t,e,_⟩:=tB (z'/2^(7*m));rw[e]at g5;cases g5
     ·omega
   rw[Zk hk]at g2;exact g2⟩;unfold y7 uo y6;by_cases hlt:pos<b.length
  ·rw[if_pos (decide_eq_true (by omega))];by_cases hlt2:a1.length<many
   ·left;have hc:=hb b[pos] (Z0 hlt);obtain⟨cn,c0⟩:=Z4 hc.1;rw[if_pos (decide_eq_true (by omega)),au hlt,j6,rQ,j6,j6,c0];have b3:∀y:Int,0<=X5.wrap y/\X5.wrap y<18446744073709551616:=λy=>by rw[aU];omega
    have b1:∀z':Nat,z'<18446744073709551616->m<=9->z=((z'%2^(7*m):Nat):Int)->cn%128=(z'/2^(7*m))%128->X5.wrap (z+(en .u64 (X5.wrap ((cn:Int).tmod 128)) ((7*m:Nat):Int)))=((z'%2^(7*(m+1)):Nat):Int):=by
     intro z' d2 d0 e1 e2;have e6:2^(7*m)*(z'/2^(7*m)%128)+z'%2^(7*m)<=z':=by have h1:=Nat.div_add_mod z' (2^(7*m));have h2:2^(7*m)*(z'/2^(7*m)%128)<=2^(7*m)*(z'/2^(7*m)):=Nat.mul_le_mul_left _ (Nat.mod_le _ _);omega
     have c6:z'%2^(7*(m+1))=2^(7*m)*(z'/2^(7*m)%128)+z'%2^(7*m):=by rw[show 7*(m+1)=7*m+7 by omega,Nat.pow_add,Nat.mod_mul,show(2:Nat)^7=128 from rfl];omega
     rw[Zj (Y3 _),show((cn:Int)%128)=((cn%128:Nat):Int)by omega,e2];have h2:X5.wrap (((z'/2^(7*m)%128:Nat):Int))=((z'/2^(7*m)%128:Nat):Int):=by rw[aU];generalize z'/2^(7*m)=q;omega
     have h3:(((z'/2^(7*m)%128:Nat):Int))*2^(7*m)=((2^(7*m)*(z'/2^(7*m)%128):Nat):Int):=by rw[Int.natCast_mul,Zf,Int.mul_comm];rfl
     rw[h2,Ag (by omega),h3,e1,aU,c6];generalize 2^(7*m)*(z'/2^(7*m)%128)=u at*;generalize z'%2^(7*m)=w at*;omega
    generalize hZ:X5.wrap (z+(en .u64 (X5.wrap ((cn:Int).tmod 128)) ((7*m:Nat):Int)))=Z at*;have a6:0<=Z/\Z<18446744073709551616:=by rw[←hZ];exact b3 _
    by_cases h128:128<=cn
    ·rw[if_pos (decide_eq_true (by omega))];unfold qR;refine⟨_,rfl,⟨pos+1,m+1,?_,by omega,by omega,?_,by omega,a6,h3,h4,λl hr a0 hi J=>?_⟩,?_⟩;·dsimp only;rw[aP (by omega)]
     ·dsimp only;rw[ah (by omega)];omega
     ·obtain⟨k,g1,g2,g3,W⟩:=h5 l hr a0 hi J;refine⟨k,g1,g2,g3,?_⟩;rcases W with⟨W,g5⟩|⟨W,g5,z',g6,g7,g8,g9,a5⟩
      ·exfalso;have:=List.drop_eq_nil_iff.1 g5;omega
      ·right;obtain⟨c,t,e,c1,c2,c3⟩:=tB (z'/2^(7*m));rw[e,Zu,Z7 hlt]at a5;obtain⟨e3,e4⟩:=List.cons.inj a5;have ec:cn=c:=by omega
       subst ec;have hS:=b1 z' g6 g5 g9 c2;rcases c3 with⟨c4,_⟩|⟨_,c4,rfl⟩;·omega
       ·have c5:z'/2^(7*(m+1))=z'/2^(7*m)/128:=by rw[show 7*(m+1)=7*m+7 by omega,Nat.pow_add,Zx]
        refine⟨W,?_,z',g6,g7,g8,hS,by rw[c5];exact e4⟩;have h1:128*2^(7*m)<=z':=(Nat.le_div_iff_mul_le (Yy (by decide))).1 c4;rcases Ym m 9 with h|h;·omega
        ·have:m=9:=by omega
         subst this;have:(128:Nat)*2^(7*9)=1180591620717411303424:=by decide
         omega
     ·dsimp only;rw[aP (by omega)];omega
    ·rw[if_neg (by simp;omega)];have hv:(if (Z.tmod 2==0)=true then lr a1 (pos:Int) (Z9.wrap (n+(Z9.wrap (X5.wrap (Z.tdiv 2)))))else lr a1 (pos:Int) (Z9.wrap ((Z9.wrap (n-(Z9.wrap (X5.wrap (Z.tdiv 2)))))-1)))=lr a1 (pos:Int) (Z9.wrap (n+(if Z%2=0 then Z/2 else-(Z/2)-1))):=by
      rw[Zj a6.1,Zn a6.1,aU];by_cases J:Z%2=0
      ·rw[if_pos (by simpa using J),if_pos J];congr 1;rw[ej,ej,ej];omega
      ·rw[if_neg (by simpa using J),if_neg J];congr 1;rw[ej,ej,ej,ej];omega
     rw[hv];unfold lr qR;rw[aD (by simp;omega),j6];refine⟨_,rfl,⟨pos+1,0,?_,by omega,by omega,rfl,by omega,by simp,λv hv=>?_,by simp;omega,λl hr a0 hi J=>?_⟩,?_⟩;·dsimp only;rw[aP (by omega)]
     ·rcases Zd.1 hv with hv|hv;·exact h3 v hv
      ·have:v=gY (Z9.wrap (n+(if Z%2=0 then Z/2 else-(Z/2)-1))):=by simpa using hv
       subst this;exact(Rgt.int _ (ik _)).ok
     ·obtain⟨k,g1,g2,g3,W⟩:=h5 l hr a0 hi J;rcases W with⟨W,g5⟩|⟨W,g5,z',g6,g7,g8,g9,a5⟩
      ·exfalso;have:=List.drop_eq_nil_iff.1 g5;omega
      ·obtain⟨c,t,e,c1,c2,c3⟩:=tB (z'/2^(7*m));rw[e,Zu,Z7 hlt]at a5;obtain⟨e3,e4⟩:=List.cons.inj a5;have ec:cn=c:=by omega
       subst ec;have hS:=b1 z' g6 g5 g9 c2;rcases c3 with⟨_,c4,rfl⟩|⟨c4,_⟩
       ·have b4:z'%2^(7*(m+1))=z':=by apply Nat.mod_eq_of_lt;rw[show 7*(m+1)=7*m+7 by omega,Nat.pow_add,Nat.mul_comm];exact(Yu (Yy (n:=7*m) (show 0<2 by decide))).1 c4
        rw[b4]at hS;have a4:=lB hi hr;have a3:∀i (h:i<l.length),(l.map (·.fInt)).getD i 0=l[i].fInt:=λi h=>by rw[wD (by simpa using h)];simp
        have a2:k+1<l.length:=by omega
        have b6:Z9.wrap (n+(if Z%2=0 then Z/2 else-(Z/2)-1))=l[k+1].fInt:=by
         have hw:=ik ((l.map (·.fInt)).getD (k+1) 0-(l.map (·.fInt)).getD k 0);have hu:(if Z%2=0 then Z/2 else-(Z/2)-1)=Z9.wrap ((l.map (·.fInt)).getD (k+1) 0-(l.map (·.fInt)).getD k 0):=by
          rw[hS,g8];generalize Z9.wrap ((l.map (·.fInt)).getD (k+1) 0-(l.map (·.fInt)).getD k 0)=d at*;unfold zig;unfold cL at hw;by_cases hd:d<0;·rw[if_pos hd,if_neg (by omega)];omega
          ·rw[if_neg hd,if_pos (by omega)];omega
         rw[hu,g3,DV (by rw[a3 _ a2];exact(a4 _ (Z0 a2)).2),a3 _ a2]
        rw[b6];refine⟨k+1,by simp;omega,?_,(a3 _ a2).symm,?_⟩
        ·dsimp only;rw[zx a2,←g2];congr 2;exact(a4 _ (Z0 a2)).1.symm
        ·rw[X3]at e4;rcases Ym (k+1+1) many with h|h
         ·right;refine⟨h,by omega,_,mn (ik _),rfl,rfl,by simp[Nat.mod_one],?_⟩;rw[e4,Ce _ h];simp[hU]
         ·left;exact⟨h,by rw[e4,DY _ h]⟩
       ·omega
     ·dsimp only;rw[aP (by omega)];omega
   ·right;have:decide ((a1.length:Int)<(many:Int))=false:=by simp;omega
    rw[this,if_neg (by decide)];exact⟨_,rfl,b0 (.inr (by omega))⟩
  ·right;rw[if_neg (by simp;omega),if_neg (by decide)];exact⟨_,rfl,b0 (.inl (by omega))⟩
 ·have:v=gY (Z9.wrap (bv (b.take 8))):=by simpa using hv
  subst this;exact(Rgt.int _ (ik _)).ok
 ·have h0:0<l.length:=by omega
  have a4:=lB hi hr;have a3:∀i (h:i<l.length),(l.map (·.fInt)).getD i 0=l[i].fInt:=λi h=>by rw[wD (by simpa using h)];simp
  have b5:=(a4 _ (Z0 h0)).2;have a9:b=be8 (l[0].fInt%18446744073709551616)++tC (l.map (·.fInt)) many 0:=by rw[J];unfold kD tC;rw[a3 0 h0,Zw,a0,X4]
  have h1:b.take 8=be8 (l[0].fInt%18446744073709551616):=by rw[a9];exact Y6 (bB _)
  have h2:b.drop 8=tC (l.map (·.fInt)) many 0:=by rw[a9];exact Yw (bB _)
  rw[h1,h2,ur (by omega) (by omega),xJ b5];refine⟨0,rfl,?_,(a3 0 h0).symm,?_⟩
  ·dsimp only;rw[zx h0];simp only[List.take_zero,X3];congr 1;exact(a4 _ (Z0 h0)).1.symm
  ·rcases Ym 1 many with h|h
   ·right;refine⟨by omega,by omega,_,mn (ik _),rfl,rfl,by simp[Nat.mod_one],?_⟩;rw[Ce _ (by omega)];simp[hU]
   ·left;exact⟨by omega,DY _ (by omega)⟩
theorem F0{b:List Int}{many:Nat}(hb:Byt b)(hl:b.length<=1048576)(hm:1<=many/\many<=64):∃g,xz b (many:Int)=some g/\iV 3 b many g:=by
 have a2:(∀l:List Ap,(∀v∈l,Rgt v)->l.length=many->b=kE l->False)->iV 3 b many []:=λh=>⟨by simp,by simp,λl J Z he=>(h l J Z (ra he Z hm.1)).elim⟩;unfold xz;cases hbc:b with
 |nil=>rw[if_pos (by decide)];refine⟨_,rfl,?_⟩;rw[←hbc];refine a2 λl J Z he=>?_;rw[hbc]at he;cases he|cons c t=>
   rw[←hbc,if_neg (by rw[hbc];simp;omega)];have hc:=hb c (by rw[hbc];simp);obtain⟨cn,rfl⟩:=Z4 hc.1;have h0:idx b 0=some (cn:Int):=by rw[hbc,ci]
   have b4:1<=b.length:=by rw[hbc];simp
   refine dO (I:=λs:List Ap×Int×Int=>∃a0:Nat,s.2.1=(a0:Int)/\a0<=b.length/\s.2.2=(s.1.length:Int)/\(∀v∈s.1,Rgt v)/\s.1.length<=cn/\∀l:List Ap,(∀v∈l,Rgt v)->l.length=many->b=kE l->s.1=(aB l).take s.1.length/\cn=(aB l).length/\b.drop a0=((aB l).drop s.1.length).flatMap aZ++bU (l.map λv=>(ek (aB l) v:Int)) (wid ((aB l).length-1))) (μ:=λs=>cn-s.1.length) (Q:=iV 3 b many) ?_ ⟨1,rfl,b4,rfl,by simp,by simp,λl J Z he=>?_⟩
   · rintro⟨W,x,y⟩⟨a0,hx,h1,hy,h3,h4,h5⟩;dsimp only at*;subst hx;subst hy;unfold AQ;rw[h0,j6,ah (by omega)];by_cases hlt:W.length<cn
     ·rw[if_pos (decide_eq_true (by omega)),bP h1,j6,qg (hb.drop _),j6];cases hp:bJ (b.drop a0)with
       |none=>
         right;dsimp only;rw[if_pos (by decide)];refine⟨_,rfl,a2 λl J Z he=>?_⟩;obtain⟨g1,g2,g3⟩:=h5 l J Z he;have hk:W.length<(aB l).length:=by omega
         rw[Z7 hk,Zo,Zi]at g3;rw[g3,iU (J _ (((dp J).2.1 _).1 (Z0 hk)))]at hp;cases hp|some p=>
         obtain⟨v,n⟩:=p;have hn:=kY (hb.drop _) hp;simp only[Y1]at hn;left;dsimp only;rw[if_neg (by simp;omega),aD (by simp;omega),j6,aP (by omega),ah (by omega)];refine⟨_,rfl,⟨a0+n,by dsimp only;omega,by omega,by simp,λx hx=>?_,by simp;omega,λl J Z he=>?_⟩,by simp;omega⟩
         · rcases Zd.1 hx with hx|hx;·exact h3 x hx
           · have:x=v:=by simpa using hx
             subst this;exact(gN (hb.drop _) hp).1
         · obtain⟨g1,g2,g3⟩:=h5 l J Z he;have hk:W.length<(aB l).length:=by omega
           rw[Z7 hk,Zo,Zi]at g3;rw[g3,iU (J _ (((dp J).2.1 _).1 (Z0 hk)))]at hp;obtain⟨rfl,rfl⟩:=Prod.mk.inj (Option.some.inj hp);dsimp only;simp only[Z1,Z6];refine⟨?_,g2,?_⟩;·rw[zx hk,←g1]
           ·rw[←Y5,g3,Zy]
     · right;rw[if_neg (by simp;omega)];unfold AP;have c2:W.length=cn:=by omega
       by_cases hW0:W.length=0
       ·rw[if_pos (by simpa using hW0)];refine⟨_,rfl,a2 λl J Z he=>?_⟩;obtain⟨g1,g2,g3⟩:=h5 l J Z he;have b0:aB l=[]:=Za (by omega);cases l with
         |nil=>simp at Z;omega|cons a r=>have:=((dp J).2.1 a).2 (by simp);rw[b0]at this;cases this
       have b1:X5.wrap (Z9.wrap ((W.length:Int)-1))=((W.length-1:Nat):Int):=by rw[ah (by omega),aU];omega
       have c1:wid (W.length-1)<=8:=py (Zs (show W.length-1<256 by omega) (by decide));have c3:many*wid (W.length-1)<=64*8:=Zg hm.2 c1;rw[if_neg (by simpa using hW0),b1,Bm (by omega),j6,EE (by omega) (by omega),ah (by omega)];have a4:∀l:List Ap,(∀v∈l,Rgt v)->l.length=many->b=kE l->W=aB l/\b.drop a0=bU (l.map λv=>(ek (aB l) v:Int)) (wid (W.length-1)):=λl J Z he=>by
        obtain⟨g1,g2,g3⟩:=h5 l J Z he;have e2:W.length=(aB l).length:=by omega
        rw[e2,Z2]at g1;rw[e2,Yp]at g3;simp only[List.flatMap_nil,X3]at g3;exact⟨g1,by rw[e2];exact g3⟩
       by_cases hsz:b.length=a0+(many*wid (W.length-1)+7)/8
       · rw[if_neg (by simp;omega)];have b2:  ∃g,am (λs:(List Ap×Int)=>vN b (many:Int) W (a0:Int) ((wid (W.length-1):Nat):Int) s.1 s.2) ([],0)=some g/\iV 3 b many g:=by
          refine dO (I:=λs:List Ap×Int=>(∀v∈s.1,Rgt v)/\s.1.length<=many/\s.2=(s.1.length:Int)/\∀l:List Ap,(∀v∈l,Rgt v)->l.length=many->b=kE l->s.1=l.take s.1.length) (μ:=λs=>many-s.1.length) (Q:=iV 3 b many) ?_ ⟨by simp,by simp,rfl,λl _ _ _=>by simp⟩;rintro⟨a1,an⟩⟨k1,k2,b6,k3⟩;dsimp only at*;subst b6;unfold vN AO;by_cases hlt2:a1.length<many
          · have a9:(a1.length+1)*wid (W.length-1)<=8*(b.drop a0).length:=by have:(a1.length+1)*wid (W.length-1)<=many*wid (W.length-1):=X7 _ hlt2;simp only[Y1];omega
            have e3:X5.wrap (W.length:Int)=(W.length:Int):=by rw[aU];omega
            rw[if_pos (decide_eq_true (by omega)),bP h1,j6,vh (hb.drop _) (by omega) (by omega) a9,j6,e3];have a3:∀l:List Ap,(∀v∈l,Rgt v)->l.length=many->b=kE l->∃h:a1.length<l.length,unp (b.drop a0) (wid (W.length-1)) a1.length=ek (aB l) l[a1.length]/\W=aB l:=λl J Z he=>by
             obtain⟨g1,g2⟩:=a4 l J Z he;have hk:a1.length<l.length:=by omega
             refine⟨hk,?_,g1⟩;have hp:=l6 (((dp J).2.1 _).2 (Z0 hk));have b7:=zf (W.length-1);have:=xK (l.map λv=>(ek (aB l) v:Int)) (wid (W.length-1)) a1.length [] (by simpa using hk) (by
              simp only[Yn];refine⟨by omega,?_⟩;have:((ek (aB l) l[a1.length]:Nat):Int)<((2^wid (W.length-1):Nat):Int):=Int.ofNat_lt.2 (by rw[g1]at b7⊢;omega);rwa[Zf]at this);rw[Y7,←g2]at this;simp only[Yn]at this;omega
            by_cases hge:W.length<=unp (b.drop a0) (wid (W.length-1)) a1.length
            ·right;rw[if_pos (decide_eq_true (by omega))];refine⟨_,rfl,a2 λl J Z he=>?_⟩;obtain⟨hk,g1,g2⟩:=a3 l J Z he;have hp:=l6 (((dp J).2.1 _).2 (Z0 hk));rw[g1,g2]at hge;omega
            · left;rw[if_neg (by simp;omega),au (by omega),j6,aD (by simp;omega),j6];refine⟨_,rfl,⟨λx hx=>?_,by simp;omega,?_,λl J Z he=>?_⟩,by simp;omega⟩
              · rcases Zd.1 hx with hx|hx;·exact k1 x hx
                · have:x=W[unp (b.drop a0) (wid (W.length-1)) a1.length]:=by simpa using hx
                  subst this;exact h3 _ (Z0 _)
              ·dsimp only;rw[aP (by omega)];simp
              · have q:=k3 l J Z he;obtain⟨hk,g1,g2⟩:=a3 l J Z he;have b3:=((dp J).2.1 _).2 (Z0 hk);have a6:W[unp (b.drop a0) (wid (W.length-1)) a1.length]'(by omega)=l[a1.length]:=by have:=xM b3;simp only[g1];subst g2;exact this
                dsimp only;simp only[Z1,Z6];rw[zx hk,←q,a6]
          · right;rw[if_neg (by simp;omega)];refine⟨_,rfl,λv hv=>(k1 v hv).ok,by omega,λl J Z he=>?_⟩;have q:=k3 l J Z (ra he Z hm.1);have:a1.length=l.length:=by omega
            rw[this,Z2]at q;exact q
         obtain⟨g,c0,b5⟩:=b2;rw[c0];exact⟨g,rfl,b5⟩
       ·rw[if_pos (by simp;omega)];refine⟨_,rfl,a2 λl J Z he=>?_⟩;obtain⟨g1,g2⟩:=a4 l J Z he;have:=congrArg Yz g2;simp only[Y1,bU,fa,Zw,Z]at this;omega
   · have a5:b=(((aB l).length:Nat):Int)::((aB l).flatMap aZ++bU (l.map λv=>(ek (aB l) v:Int)) (wid ((aB l).length-1))):=he;refine⟨by simp,?_,?_⟩;·have:=(List.cons.inj (hbc.symm.trans a5)).1;omega
     ·rw[a5];simp
theorem Ek{b:List Int}{many:Nat}{kind:Int}(hk:kind≠0/\kind≠1/\kind≠2/\kind≠3)(hb:Byt b)(hl:b.length<=1048576)(hm:1<=many/\many<=64):∃g,u4 b (many:Int)=some g/\iV kind b many g:=by
 have a3:∀l:List Ap,(∀v∈l,Rgt v)->l.length=many->enc kind l=(b,0)->il l=true/\b=be8 (iy (l.map (·.fInt))%18446744073709551616)++((ce (aQ (l.map (·.fInt))):Nat):Int)::bU (aQ (l.map (·.fInt))) (ce (aQ (l.map (·.fInt)))):=λl hr Z J=>by
  have c3:=(em J).1;have c0:kind=4:=by omega
  subst c0;refine⟨(em J).2.2.2.1 (.inr rfl),?_⟩;have:b=mo (l.map (·.fInt)):=ra J Z hm.1;rw[this];unfold mo;simp
 have a1:(∀l:List Ap,(∀v∈l,Rgt v)->l.length=many->il l=true->b=be8 (iy (l.map (·.fInt))%18446744073709551616)++((ce (aQ (l.map (·.fInt))):Nat):Int)::bU (aQ (l.map (·.fInt))) (ce (aQ (l.map (·.fInt))))->False)->iV kind b many []:=λh=>⟨by simp,by simp,λl hr Z J=>(h l hr Z (a3 l hr Z J).1 (a3 l hr Z J).2).elim⟩;have b0:∀l:List Ap,(∀v∈l,Rgt v)->il l=true->U64 (aQ (l.map (·.fInt)))/\ce (aQ (l.map (·.fInt)))<=64/\∀x∈aQ (l.map (·.fInt)),wid x.toNat<=ce (aQ (l.map (·.fInt))):=λl hr hi=>by
  have a0:=lB hi hr;have h':∀x∈l.map (·.fInt),cL x:=λx hx=>by obtain⟨v,hv,rfl⟩:=Y2.1 hx;exact(a0 v hv).2
  have hu:=nL h';exact⟨hu,kZ hu⟩
 have a6:∀l:List Ap,l.length=many->(aQ (l.map (·.fInt))).length=many:=λl Z=>by simp[aQ,Z]
 unfold u4;have jt:nD b (many:Int) true=some []:=rfl;by_cases h9:b.length<9
 ·rw[if_pos (decide_eq_true (by omega)),jt];refine⟨_,rfl,a1 λl hr Z hi J=>?_⟩;rw[J]at h9;simp[bB]at h9;omega
 have a2:8<b.length:=by omega
 have hc:=hb b[8] (Z0 a2);obtain⟨cn,b2⟩:=Z4 hc.1;have i8:idx b 8=some (cn:Int):=by have:=au (xs:=b) (i:=8) a2;rw[show((8:Nat):Int)=8 from rfl,b2]at this;exact this
 have a4:∀l:List Ap,b=be8 (iy (l.map (·.fInt))%18446744073709551616)++((ce (aQ (l.map (·.fInt))):Nat):Int)::bU (aQ (l.map (·.fInt))) (ce (aQ (l.map (·.fInt))))->cn=ce (aQ (l.map (·.fInt)))/\b.take 8=be8 (iy (l.map (·.fInt))%18446744073709551616)/\b.drop 9=bU (aQ (l.map (·.fInt))) (ce (aQ (l.map (·.fInt)))):=λl J=>by
  have e1:b.take 8=be8 (iy (l.map (·.fInt))%18446744073709551616):=by rw[J];exact Y6 (bB _)
  have e2:b.drop 8=((ce (aQ (l.map (·.fInt))):Nat):Int)::bU (aQ (l.map (·.fInt))) (ce (aQ (l.map (·.fInt)))):=by rw[J];exact Yw (bB _)
  rw[Z7 a2,b2]at e2;obtain⟨e3,e4⟩:=List.cons.inj e2;exact⟨by omega,e1,e4⟩
 rw[if_neg (by simp;omega),i8,j6];by_cases h64:64<cn
 ·rw[if_pos (decide_eq_true (by omega)),jt];refine⟨_,rfl,a1 λl hr Z hi J=>?_⟩;have:=(b0 l hr hi).2.1;have:=(a4 l J).1;omega
 have c4:many*cn<=64*64:=Zg hm.2 (by omega);rw[if_neg (by simp;omega),j6,ah (n:=(cn:Int)) (by omega),EE (by omega) (by omega),ah (by omega)];by_cases hsz:b.length=9+(many*cn+7)/8
 · have e:((b.length:Int)!=9+(((many*cn+7)/8:Nat):Int))=false:=by simp;omega
   have b3:=cx (xs:=b) (lo:=0) (hi:=8) (by omega) (by omega);rw[show((0:Nat):Int)=0 from rfl,show((8:Nat):Int)=8 from rfl,X4]at b3;have a5:=bP (xs:=b) (k:=9) (by omega);rw[show((9:Nat):Int)=9 from rfl]at a5;rw[e];unfold nD;rw[if_neg (by decide),b3,j6,mJ _ (hb.take 8) (by simp;omega),j6];refine dO (I:=λs:List Ap×Int=>(∀v∈s.1,Rgt v)/\s.1.length<=many/\s.2=(s.1.length:Int)/\∀l:List Ap,(∀v∈l,Rgt v)->l.length=many->enc kind l=(b,0)->s.1=l.take s.1.length) (μ:=λs=>many-s.1.length) (Q:=iV kind b many) ?_ ⟨by simp,by simp,rfl,λl _ _ _=>by simp⟩;rintro⟨W,an⟩⟨k1,k2,b7,k3⟩;dsimp only at*;subst b7;unfold y9 y8;by_cases hlt2:W.length<many
   · have b5:(W.length+1)*cn<=8*(b.drop 9).length:=by have:(W.length+1)*cn<=many*cn:=X7 _ hlt2;simp only[Y1];omega
     left;rw[if_pos (decide_eq_true (by omega)),a5,j6,i8,j6,ah (n:=(cn:Int)) (by omega),vh (hb.drop _) (by omega) (by omega) b5,j6,aD (by simp;omega),j6];refine⟨_,rfl,⟨λx hx=>?_,by simp;omega,?_,λl hr Z J=>?_⟩,by simp;omega⟩
     · rcases Zd.1 hx with hx|hx;·exact k1 x hx
       · have:x=gY (Z9.wrap (X5.wrap (bv (b.take 8)+((unp (b.drop 9) cn W.length:Nat):Int)))):=by simpa using hx
         subst this;exact .int _ (ik _)
     ·dsimp only;rw[aP (by omega)];simp
     · have q:=k3 l hr Z J;obtain⟨hi,b6⟩:=a3 l hr Z J;obtain⟨g1,g2,g3⟩:=a4 l b6;obtain⟨hu,c5,c1⟩:=b0 l hr hi;have a0:=lB hi hr;have b4:W.length<l.length:=by omega
       have h1:=a0 _ (Z0 b4);have b1:W.length<(aQ (l.map (·.fInt))).length:=by rw[a6 l Z];omega
       have a9:=xK (aQ (l.map (·.fInt))) cn W.length [] b1 (by
        have hx:=Z0 b1;have h3:=hu _ hx;have h4:=zf ((aQ (l.map (·.fInt)))[W.length]).toNat;have h5:=c1 _ hx;have h6:(2:Nat)^wid ((aQ (l.map (·.fInt)))[W.length]).toNat<=2^cn:=Zh (by decide) (by omega);refine⟨h3.1,?_⟩;have:((((aQ (l.map (·.fInt)))[W.length]).toNat:Nat):Int)<((2^cn:Nat):Int):=Int.ofNat_lt.2 (by omega);rw[Zf]at this;have e:((((aQ (l.map (·.fInt)))[W.length]).toNat:Nat):Int)=(aQ (l.map (·.fInt)))[W.length]:=by omega
        rw[e]at this;exact this);rw[Y7,g1,←g3,←g1]at a9;have c2:(aQ (l.map (·.fInt)))[W.length]=l[W.length].fInt-iy (l.map (·.fInt)):=by simp[aQ]
       dsimp only;simp only[Z1,Z6];rw[zx b4,←q];congr 1;have e9:Z9.wrap (X5.wrap (bv (b.take 8)+((unp (b.drop 9) cn W.length:Nat):Int)))=l[W.length].fInt:=by rw[a9,c2,g2,ur (by omega) (by omega),aU,ej];have:=h1.2;unfold cL at this;omega
       rw[e9];congr 1;exact h1.1.symm
   · right;rw[if_neg (by simp;omega)];refine⟨_,rfl,λv hv=>(k1 v hv).ok,by omega,λl hr Z J=>?_⟩;have q:=k3 l hr Z J;have:W.length=l.length:=by omega
     rw[this,Z2]at q;exact q
 · have e:((b.length:Int)!=9+(((many*cn+7)/8:Nat):Int))=true:=by simp;omega
   rw[e,jt];refine⟨_,rfl,a1 λl hr Z hi J=>?_⟩;obtain⟨g1,_,g3⟩:=a4 l J;have:=congrArg Yz g3;simp only[Y1,bU,fa,a6 l Z]at this;rw[←g1]at this;omega
open Classical in
noncomputable def dec (kind:Int) (b:List Int) (many:Int):List Ap×Int:=if kind<0\/4<kind then ([],62)else if many<0\/64<many then ([],61)else if h:∃l:List Ap,(∀v∈l,Rgt v)/\(l.length:Int)=many/\enc kind l=(b,0)then (h.choose,0)else ([],60)
theorem F1{a b:List Int}(W:a.length<=4611686018427387903):gP a b=some (decide (a=b)):=by
 unfold gP;by_cases h:a.length=b.length
 · rw[if_neg (by simp;omega)];have:=xE (f:=λs:Int=>gF a b s) (a.zip b) (λp=>p.1==p.2) false true (λi hi J=>?_) (λi hi J=>?_) ?_
   · rw[this];have e:(a.zip b).all (λp=>p.1==p.2)=decide (a=b):=by
      clear this W;induction a generalizing b with
      |nil=>cases b with
        |nil=>rfl|cons _ _=>simp at h
      |cons x a ih=>cases b with
        |nil=>simp at h|cons y b=>
          rw[List.zip_cons_cons,List.all_cons,ih (by simpa using h)];by_cases e:x=y;·simp[e]
          ·simp[e]
     rw[e];cases decide (a=b)<;>rfl
   ·simp only[List.length_zip]at hi;simp only[List.getElem_zip,beq_iff_eq]at J;unfold gF;rw[if_pos (decide_eq_true (by omega)),au (by omega),j6,au (by omega),j6,if_neg (by simpa using J),aP (by omega)]
   ·simp only[List.length_zip]at hi;simp only[List.getElem_zip,beq_eq_false_iff_ne]at J;unfold gF;rw[if_pos (decide_eq_true (by omega)),au (by omega),j6,au (by omega),j6,if_pos (by simpa using J)];rfl
   ·unfold gF qQ;rw[if_neg (by simp;omega)];rfl
 ·rw[if_pos (by simp;omega)];have:a≠b:=λe=>h (by rw[e]);simp[this]
theorem Em{kind:Int}{l:List Ap}:(enc kind l).2=0->l.all right=true/\l.length<=64:=λh=>by have:enc kind l=((enc kind l).1,0):=Prod.ext rfl h;obtain⟨_,J,W,_⟩:=em this;exact⟨W,J⟩
theorem tD (l:List Int)(w:Nat):(bU l w).length=(l.length*w+7)/8:=fa _ _ _
theorem Md{kind:Int}{l:List Ap}(h:∀v∈l,Rgt v)(hl:l.length<=64):(rW kind l).length<=100000:=by
 obtain⟨w1,w2,w3⟩:=dp h;unfold rW;split
 · obtain⟨Z,h2,_⟩:=kC (l:=l);have:=qq (bh l) (λr=>r.fMany::aZ r.fValue) 67 λx W=>by have:=(eK (h _ (Z x W).2.2)).2;simp;omega
   unfold xL;omega
 split
 ·have:=qq (Zq ((l.map (·.fInt)).length-1)) (hU (l.map (·.fInt))) 10 λx _=>mM (mn (ik _));unfold kD;simp only[Z1,bB,List.length_range,Zw]at*;omega
 split
 ·have Z:=jN (l:=aB l) λv J=>h v ((w2 v).1 J);have a1:wid ((aB l).length-1)<=64:=py (Zs (show(aB l).length-1<64 by omega) (by decide));have:=Zg hl a1;unfold kE;simp only[Z8,Z1,tD,Zw];omega
 split
 · by_cases hi:∀x∈l.map (·.fInt),cL x
   · have hu:=nL hi;have:=Zg hl (kZ hu).1;have a0:(aQ (l.map (·.fInt))).length=l.length:=by simp[aQ]
     unfold mo;simp only[Z1,bB,Z6,tD,a0];omega
   ·exfalso;apply hi;intro x W;obtain⟨v,J,rfl⟩:=Y2.1 W;exact(h v J).ok.int
 ·have:=jN h;unfold nM;omega
theorem HA (kind:Int){l:List Ap}(h:∀v∈l,VOK v):(enc kind l).1.length<=100000:=by
 unfold enc;repeat' split
 all_goals first|exact Nat.zero_le _|skip
 rename_i W J _ _;exact Md (tQ h (by simpa using J)) (by omega)
theorem Cf{kind:Int}{b:List Int}{many:Nat}{g:List Ap}{ok:Bool}(hk:0<=kind/\kind<=4)(hm:many<=64)(hg:∀v∈g,VOK v)(hx:∀l:List Ap,(∀v∈l,Rgt v)->l.length=many->enc kind l=(b,0)->g=l/\ok=true):(if (!ok)=true\/(enc kind g).2≠0\/g.length≠many\/(enc kind g).1≠b then ([],60)else (g,0))=dec kind b (many:Int):=by
 unfold dec;rw[if_neg (show¬(kind<0\/4<kind)by omega),if_neg (show¬((many:Int)<0\/64<(many:Int))by omega)];by_cases h:∃l:List Ap,(∀v∈l,Rgt v)/\(l.length:Int)=(many:Int)/\enc kind l=(b,0)
 · rw[dif_pos h];obtain⟨c1,c2,J⟩:=h.choose_spec;obtain⟨Z,e2⟩:=hx _ c1 (by omega) J;rw[←Z]at c2 J;rw[if_neg,Z];rintro (h1|h1|h1|h1);·rw[e2]at h1;cases h1
   ·rw[J]at h1;exact h1 rfl
   ·omega
   ·rw[J]at h1;exact h1 rfl
 ·rw[dif_neg h,if_pos];apply Classical.byContradiction;intro W;apply h;have n2:(enc kind g).2=0:=Classical.byContradiction λh=>W (.inr (.inl h));have n3:g.length=many:=Classical.byContradiction λh=>W (.inr (.inr (.inl h)));have n4:(enc kind g).1=b:=Classical.byContradiction λh=>W (.inr (.inr (.inr h)));exact⟨g,tQ hg (Em n2).1,by omega,Prod.ext n4 n2⟩
theorem rc{kind many:Int}{b:List Int}(h:kind<0\/4<kind):dec kind b many=([],62):=by unfold dec;rw[if_pos h]
theorem re{kind many:Int}{b:List Int}(J:¬(kind<0\/4<kind))(h:many<0\/64<many):dec kind b many=([],61):=by unfold dec;rw[if_neg J,if_pos h]
theorem JV{b:List Int}(kind many:Int)(hb:Byt b)(hl:b.length<=1048576):pL kind b many=some (dec kind b many):=by
 have a1:lP kind b many true=some ([],62):=rfl;have W:lO kind b many true=some ([],61):=rfl;unfold pL;by_cases h0:kind<0;·rw[if_pos (by simpa using h0),a1,rc (.inl h0)]
 by_cases h4:4<kind;·rw[if_neg (by simpa using h0),decide_eq_true h4,a1,rc (.inr h4)]
 have Z:¬(kind<0\/4<kind):=by omega
 rw[if_neg (by simpa using h0),decide_eq_false h4];unfold lP;rw[if_neg (by decide)];by_cases m0:many<0;·rw[if_pos (by simpa using m0),W,re Z (.inl m0)]
 by_cases m64:64<many;·rw[if_neg (by simpa using m0),decide_eq_true m64,W,re Z (.inr m64)]
 rw[if_neg (by simpa using m0),decide_eq_false m64];unfold lO;rw[if_neg (by decide)];obtain⟨n,rfl⟩:=Z4 (show 0<=many by omega);have J:∀g x,jI g x=some (if x=true then ([],60)else (g,0)):=λg x=>by cases x<;>rfl
 have key:∀(g:List Ap) (r:ai),(∀v∈g,VOK v)->g.length<=1048576->lN kind b (n:Int) g r=some (if (!r.fOk)=true\/(enc kind g).2≠0\/g.length≠n\/(enc kind g).1≠b then ([],60)else (g,0)):=by
  intro g r hg a5;unfold lN;rw[vj kind hg a5,j6];by_cases e1:(!r.fOk)=true;·rw[if_pos e1,J,if_pos rfl,if_pos (.inl e1)]
  by_cases e2:(enc kind g).2=0
  · by_cases e3:g.length=n
    · rw[if_neg e1,if_neg (by simpa using e2),if_neg (by simpa using by omega),F1 (by have:=HA kind hg;omega),j6,J];by_cases e4:(enc kind g).1=b
      · rw[if_neg (by simpa using e4),if_neg];rintro (h|h|h|h);·exact e1 h
        ·exact h e2
        ·exact h e3
        ·exact h e4
      ·rw[if_pos (by simpa using e4),if_pos (.inr (.inr (.inr e4)))]
    ·rw[if_neg e1,if_neg (by simpa using e2),if_pos (by simp;omega),J,if_pos rfl,if_pos (.inr (.inr (.inl e3)))]
  ·rw[if_neg e1,if_pos (by simpa using e2),J,if_pos rfl,if_pos (.inr (.inl e2))]
 by_cases n0:n=0
 ·subst n0;rw[if_neg (by decide),key _ _ (by simp) (by simp),Cf (by omega) (by omega) (by simp) λl _ h2 _=>⟨(Za h2).symm,rfl⟩]
 ·obtain⟨x,a2,a0,a4,a3⟩:=DX (b:=b) (many:=n) kind hb (by omega) (by omega);rw[if_pos (by simp;omega),a2,j6,key _ _ a0 a4,Cf (by omega) (by omega) a0 a3]
theorem En{b:List Int}(kind many:Int)(J:Byt b)(hl:b.length<=1048576):u5 kind b many=some (dec kind b many):=by
 have a1:qV kind b many true=some ([],62):=rfl;have a0:qU kind b many true=some ([],61):=rfl;unfold u5;by_cases h0:kind<0;·rw[if_pos (by simpa using h0),a1,rc (.inl h0)]
 by_cases h4:4<kind;·rw[if_neg (by simpa using h0),decide_eq_true h4,a1,rc (.inr h4)]
 have hk:¬(kind<0\/4<kind):=by omega
 rw[if_neg (by simpa using h0),decide_eq_false h4];unfold qV;rw[if_neg (by decide)];by_cases m0:many<0;·rw[if_pos (by simpa using m0),a0,re hk (.inl m0)]
 by_cases m64:64<many;·rw[if_neg (by simpa using m0),decide_eq_true m64,a0,re hk (.inr m64)]
 rw[if_neg (by simpa using m0),decide_eq_false m64];unfold qU;rw[if_neg (by decide)];obtain⟨n,rfl⟩:=Z4 (show 0<=many by omega);have j4:∀g x,qS g x=some (if x=true then ([],60)else (g,0)):=λg x=>by cases x<;>rfl
 have key:∀(g:List Ap),(∀v∈g,VOK v)->g.length<=1048576->gH kind b (n:Int) g=some (if (!true)=true\/(enc kind g).2≠0\/g.length≠n\/(enc kind g).1≠b then ([],60)else (g,0)):=by
  intro g hg a2;unfold gH;rw[Ei kind hg a2,j6];by_cases e2:(enc kind g).2=0
  · by_cases e3:g.length=n
    · rw[if_neg (by simpa using e2),if_neg (by simpa using by omega),j4];by_cases e4:(enc kind g).1=b
      · rw[if_neg (by simpa using e4),if_neg];rintro (h|h|h|h);·cases h
        ·exact h e2
        ·exact h e3
        ·exact h e4
      ·rw[if_pos (by simpa using e4),if_pos (.inr (.inr (.inr e4)))]
    ·rw[if_neg (by simpa using e2),if_pos (by simp;omega),j4,if_pos rfl,if_pos (.inr (.inr (.inl e3)))]
  ·rw[if_pos (by simpa using e2),j4,if_pos rfl,if_pos (.inr (.inl e2))]
 by_cases n0:n=0
 ·subst n0;rw[if_neg (by decide),key _ (by simp) (by simp),Cf (by omega) (by omega) (by simp) λl _ Z _=>⟨(Za Z).symm,rfl⟩]
 · rw[if_pos (by simp;omega)];have W:∀{o:Option (List Ap)},(∃g,o=some g/\iV kind b n g)->(o.bind λr=>gH kind b (n:Int) r)=some (dec kind b (n:Int)):=by rintro o⟨g,rfl,g1,g2,g3⟩;rw[j6,key _ g1 g2,Cf (by omega) (by omega) g1 λl h1 Z h3=>⟨g3 l h1 Z h3,rfl⟩]
   have hm:1<=n/\n<=64:=by omega
   by_cases k0:kind=0;·subst k0;rw[if_pos (by decide)];exact W (FZ J hl hm)
   by_cases k1:kind=1;·subst k1;rw[if_neg (by decide),if_pos (by decide)];exact W (G3 J hl hm)
   by_cases k2:kind=2;·subst k2;rw[if_neg (by decide),if_neg (by decide),if_pos (by decide)];exact W (Ej J hl hm)
   by_cases k3:kind=3;·subst k3;rw[if_neg (by decide),if_neg (by decide),if_neg (by decide),if_pos (by decide)];exact W (F0 J hl hm)
   ·rw[if_neg (by simpa using k0),if_neg (by simpa using k1),if_neg (by simpa using k2),if_neg (by simpa using k3)];exact W (Ek ⟨k0,k1,k2,k3⟩ J hl hm)
theorem Me{kind:Int}{l:List Ap}(h:∀v∈l,Rgt v)(hl:l.length<=64):Byt (rW kind l):=by
 obtain⟨w1,w2,w3⟩:=dp h;have Z:∀{O:Type}(xs:List O) (f:O->List Int),(∀x∈xs,Byt (f x))->Byt (xs.flatMap f):=λxs f hf c hc=>by obtain⟨x,J,hc⟩:=List.mem_flatMap.1 hc;exact hf x J c hc
 unfold rW;split
 ·obtain⟨h1,h2,_⟩:=kC (l:=l);exact Z _ _ λx J=>.cons (by have:=h1 x J;omega) (uu (h _ (h1 x J).2.2))
 split;·exact Byt.app (ze _) (Z _ _ λx _=>JQ _)
 split;·exact .cons (by omega) (.app (Z _ _ λv W=>uu (h v ((w2 v).1 W))) (B6 _ _))
 split
 ·have hi:∀x∈l.map (·.fInt),cL x:=λx J=>by obtain⟨v,W,rfl⟩:=Y2.1 J;exact(h v W).ok.int
  have:=(kZ (nL hi)).1;exact .app (.app (ze _) (.cons (by omega) .nil)) (B6 _ _)
 ·exact Z _ _ λv W=>uu (h v W)
theorem Da (kind:Int){l:List Ap}(h:∀v∈l,VOK v):Byt (enc kind l).1:=by
 unfold enc;repeat' split
 all_goals first|exact .nil|skip
 rename_i W J _ _;exact Me (tQ h (by simpa using J)) (by omega)
theorem Ak{kind:Int}{l:List Ap}{b:List Int}(h:∀v∈l,VOK v)(J:enc kind l=(b,0)):∀v∈l,Rgt v:=tQ h (em J).2.2.1
theorem Oo{kind:Int}{l J:List Ap}{b:List Int}(h:∀v∈l,Rgt v)(h':∀v∈J,Rgt v)(hl:J.length=l.length)(W:enc kind l=(b,0))(a0:enc kind J=(b,0)):J=l:=by
 by_cases h0:l.length=0;·rw[Za h0,Za (hl.trans h0)]
 have hb:Byt b:=by have:=Da kind λv Z=>(h v Z).ok;rw[W]at this;exact this
 have a1:b.length<=100000:=by have:=HA kind λv Z=>(h v Z).ok;rw[W]at this;exact this
 obtain⟨x,_,_,_,hx⟩:=DX (b:=b) (many:=l.length) kind hb (by omega) ⟨by omega,(em W).2.1⟩;rw[←(hx l h rfl W).1,←(hx J h' hl a0).1]
theorem Oq{kind:Int}{l:List Ap}{b:List Int}(h:∀v∈l,VOK v)(J:enc kind l=(b,0)):dec kind b (l.length:Int)=(l,0):=by
 have W:=Ak h J;obtain⟨k1,k2,_⟩:=em J;unfold dec;rw[if_neg (show¬(kind<0\/4<kind)by omega),if_neg (show¬((l.length:Int)<0\/64<(l.length:Int))by omega)];have Z:∃l':List Ap,(∀v∈l',Rgt v)/\(l'.length:Int)=(l.length:Int)/\enc kind l'=(b,0):=⟨l,W,rfl,J⟩;rw[dif_pos Z];obtain⟨c1,c2,c3⟩:=Z.choose_spec;rw[Oo W c1 (by omega) J c3]
theorem zm (kind:Int)(b:List Int)(many:Int):(∃l:List Ap,dec kind b many=(l,0)/\(∀v∈l,Rgt v)/\(l.length:Int)=many/\enc kind l=(b,0))\/(∃e,dec kind b many=([],e)/\e≠0):=by
 unfold dec;split;·right;exact⟨62,rfl,by decide⟩
 split;·right;exact⟨61,rfl,by decide⟩
 split
 ·rename_i h;left;exact⟨_,rfl,h.choose_spec⟩
 ·right;exact⟨60,rfl,by decide⟩
def EF (l:List Ap)(s:Int×Int)(k:Nat):Int×Int:=if (enc (k:Int) l).2=0/\(s.2<0\/((enc (k:Int) l).1.length:Int)<s.2)then ((k:Int),((enc (k:Int) l).1.length:Int))else s
def kF (l:List Ap)(n:Nat):Int×Int:=(Zq n).foldl (EF l) (0,-1)
def F2 (l:List Ap):Int:=(kF l 5).1
theorem Cg (l:List Ap)(n:Nat):kF l (n+1)=EF l (kF l n) n:=by simp[kF,Yv]
theorem IE (l:List Ap)(n:Nat):((kF l n).2<0/\(kF l n).1=0/\∀k:Nat,k<n->(enc (k:Int) l).2≠0)\/(0<=(kF l n).2/\(∃k:Nat,k<n/\(kF l n).1=(k:Int))/\(enc (kF l n).1 l).2=0/\(kF l n).2=((enc (kF l n).1 l).1.length:Int)/\∀k:Nat,k<n->(enc (k:Int) l).2=0->(kF l n).2<=((enc (k:Int) l).1.length:Int)):=by induction n with
 |zero=>left;exact⟨show((-1:Int))<0 by decide,rfl,λk Z=>by omega⟩|succ n ih=>
  rw[Cg];generalize kF l n=s at*;unfold EF;by_cases h:(enc (n:Int) l).2=0/\(s.2<0\/((enc (n:Int) l).1.length:Int)<s.2)
  ·rw[if_pos h];right;refine⟨by dsimp only;omega,⟨n,by omega,rfl⟩,h.1,rfl,λk Z J=>?_⟩;dsimp only;rcases ih with⟨W,_,i2⟩|⟨W,_,_,i4,i5⟩
   ·by_cases e:k=n;·subst e;omega
    ·exact absurd J (i2 k (by omega))
   ·by_cases e:k=n;·subst e;omega
    ·have:=i5 k (by omega) J;omega
  ·rw[if_neg h];rcases ih with⟨W,i0,i2⟩|⟨W,⟨k0,a1,a0⟩,i3,i4,i5⟩
   ·left;refine⟨W,i0,λk Z J=>?_⟩;by_cases e:k=n;·subst e;exact h ⟨J,.inl W⟩
    ·exact i2 k (by omega) J
   ·right;refine⟨W,⟨k0,by omega,a0⟩,i3,i4,λk Z J=>?_⟩;by_cases e:k=n
    ·subst e;rcases Int.lt_or_le ((enc (k:Int) l).1.length:Int) s.2 with h2|h2;·exact absurd ⟨J,.inr h2⟩ h
     ·exact h2
    ·exact i5 k (by omega) J
theorem Ot{l:List Ap}(h:∀v∈l,VOK v)(hl:l.length<=1048576):sj l=some (F2 l):=by
 unfold sj;refine aW (λi=>((kF l i).1,(kF l i).2,(i:Int))) 5 rfl (λi hi=>?_) ?_
 ·dsimp only;rw[Cg];generalize kF l i=s;unfold wu od rE EF;rw[if_pos (decide_eq_true (by omega)),vj _ h hl,j6,aP (by omega)];by_cases e:(enc (i:Int) l).2=0
  ·rw[if_pos (by simpa using e)];by_cases e2:s.2<0;·rw[if_pos (decide_eq_true e2),if_pos rfl,if_pos ⟨e,.inl e2⟩]
   ·rw[if_neg (by simpa using e2)];by_cases e3:((enc (i:Int) l).1.length:Int)<s.2;·rw[if_pos (decide_eq_true e3),if_pos ⟨e,.inr e3⟩]
    ·rw[if_neg (by simpa using e3),if_neg (λh=>by rcases h.2 with h|h<;>contradiction)]
  ·rw[if_neg (by simpa using e),if_neg (by decide),if_neg (λh=>e h.1)]
 ·rfl
theorem Ou{l:List Ap}:(enc 0 l).2≠0->∀k:Int,0<=k/\k<=4->(enc k l).2≠0:=by
 intro h k Z;unfold enc at*;rw[if_neg (show¬((0:Int)<0\/4<(0:Int))by omega)]at h;rw[if_neg (show¬(k<0\/4<k)by omega)];split;·decide
 split;·decide
 rename_i J W;rw[if_neg J,if_neg W,if_neg (λh=>by omega)]at h;exfalso;apply h;split<;>rfl
theorem XB{l:List Ap}:(enc (F2 l) l).2=(enc 0 l).2/\(enc (F2 l) l).1.length<=(enc 0 l).1.length:=by
 unfold F2;rcases IE l 5 with⟨_,h,_⟩|⟨_,⟨k,Z,W⟩,h,q2,q3⟩;·rw[h];exact⟨rfl,Zr _⟩
 ·have e:(enc 0 l).2=0:=Classical.byContradiction λJ=>Ou J (kF l 5).1 (by omega) h;have:=q3 0 (by omega) e;rw[show((0:Nat):Int)=0 from rfl]at this;exact⟨by rw[h,e],by omega⟩
def U32 (x:Int):Prop:=0<=x/\x<4294967296
theorem F3 (x:Int):U32 (IntKind.u32.wrap x):=by rw[j9];unfold U32;omega
theorem Db (x y:Int):U32 (d7 .u32 x y):=F3 _
theorem Uu (x:Int):∃n:Nat,d4 .u32 x 15=(n:Int)/\n<16:=by
 unfold d4;rw[j9,BitVec.toNat_and];have h:(Ze IntKind.u32.bits 15).toNat=15:=by decide
 rw[h];have:(Ze IntKind.u32.bits x).toNat&&&15<=15:=Nat.and_le_right;exact⟨_,by rw[Int.emod_eq_of_lt (by omega) (by omega)],by omega⟩
theorem PX{t:List Int}(h:t.length=16)(Z:∀x∈t,U32 x)(x:Int):∃(j:Nat) (y:Int),ix t (d4 .u32 x 15)=some j/\t[j]?=some y/\U32 y:=by
 obtain⟨n,W,h2⟩:=Uu x;have J:n<t.length:=by omega
 exact⟨n,t[n],by rw[W];exact ng J,Z3 J,Z _ (Z0 J)⟩
theorem JW{b t:List Int}(hl:b.length<4611686018427387904)(h:t.length=16)(J:∀x∈t,U32 x):∃n,nA b t=some n/\U32 n:=by
 unfold nA;refine dO (λs=>U32 s.1/\∃i:Nat,s.2=(i:Int)/\i<=b.length) (λs=>((b.length:Int)-s.2).toNat) U32 ?_ ⟨⟨by decide,by decide⟩,0,rfl,by omega⟩;rintro⟨x,i'⟩⟨hx,i,hi,hi'⟩;dsimp only at hi;subst hi;dsimp only;unfold qK;by_cases hlt:i<b.length
 ·left;rw[if_pos (by simpa using hlt),au hlt,j6];obtain⟨j,y,Z,W,h3⟩:=PX h J (d7 .u32 x (IntKind.u32.wrap b[i]));rw[Z,j6,W,j6];obtain⟨j',z,k1,k2,k3⟩:=PX h J (d7 .u32 y (aV .u32 (d7 .u32 x (IntKind.u32.wrap b[i])) 4));rw[k1,j6,k2,j6,aP (by omega)];exact⟨_,rfl,⟨Db _ _,i+1,rfl,by omega⟩,by dsimp only;omega⟩
 ·right;rw[if_neg (by simpa using hlt)];exact⟨_,rfl,Db _ _⟩
theorem PY{b:List Int}(hl:b.length<4611686018427387904):∃n,iQ b=some n/\U32 n:=by
 unfold iQ;refine dO (λs=>(∃i:Nat,s.1=(i:Int)/\i<=16)/\s.2.length=16/\∀x∈s.2,U32 x) (λs=>(16-s.1).toNat) U32 ?_ ⟨⟨0,rfl,by omega⟩,by simp,λx J=>by rw[Yi J];exact⟨by decide,by decide⟩⟩;rintro⟨i',t⟩⟨⟨i,hi,hi'⟩,ht,hu⟩;dsimp only at hi ht hu;subst hi;dsimp only;unfold qL;by_cases hlt:i<16
 ·left;rw[if_pos (by simpa using by omega)];have:∃r,am (λs:(Int×Int)=>nB (i:Int) t s.1 s.2) (IntKind.u32.wrap (i:Int),0)=some r/\∃v,U32 v/\r=.inl (((i+1:Nat):Int),t.set i v):=by
   refine dO (λs=>U32 s.1/\∃i:Nat,s.2=(i:Int)/\i<=4) (λs=>(4-s.2).toNat) _ ?_ ⟨F3 _,0,rfl,by omega⟩;rintro⟨x,q'⟩⟨J,q,Z,a1⟩;dsimp only at Z;subst Z;dsimp only;unfold nB;by_cases hql:q<4
   ·left;rw[if_pos (by simpa using by omega),aP (by omega)];exact⟨_,rfl,⟨Db _ _,q+1,rfl,by omega⟩,by dsimp only;omega⟩
   ·right;rw[if_neg (by simpa using by omega)];unfold ud uc;have a0:i<t.length:=by omega
    rw[ng a0,j6,Z3 a0,j6,aP (by omega)];exact⟨_,rfl,x,J,rfl⟩
  obtain⟨r,W,v,hv,rfl⟩:=this;refine⟨_,W,⟨⟨i+1,rfl,by omega⟩,by simpa using ht,λx J=>?_⟩,by dsimp only;omega⟩;rcases List.mem_or_eq_of_mem_set J with h|h;·exact hu x h
  ·rw[h];exact hv
 ·right;rw[if_neg (by simpa using by omega)];obtain⟨n,W,h2⟩:=JW hl ht hu;exact⟨n,by rw[W];rfl,h2⟩
noncomputable def fY (b:List Int):Int:=(iQ b).getD 0
theorem uB{b:List Int}(hl:b.length<4611686018427387904):iQ b=some (fY b)/\U32 (fY b):=by obtain⟨n,h,J⟩:=PY hl;unfold fY;rw[h];exact⟨rfl,J⟩
def be4 (n:Int):List Int:=[n/2^24%256,n/2^16%256,n/2^8%256,n%256]
theorem Dc (n:Int):Byt (be4 n):=by unfold be4;exact .cons (by omega) (.cons (by omega) (.cons (by omega) (.cons (by omega) .nil)))
theorem fj (n:Int):(be4 n).length=4:=rfl
theorem Ch{x:Int}{k:Nat}(h:k<=32):aV .u32 x (k:Int)=x/2^k:=by unfold aV;rw[Yb _ (Int.le_of_lt (Int.pow_pos (by decide)))];congr 2;simp[IntKind.bits];omega
theorem IF{x:Int}{k:Nat}(h:k<=64):aV .i64 x (k:Int)=x/2^k:=by unfold aV;rw[Yb _ (Int.le_of_lt (Int.pow_pos (by decide)))];congr 2;simp[IntKind.bits];omega
noncomputable def ni (b:List Int):List Int:=b++be4 (fY b)
theorem DZ{b:List Int}(hl:b.length<=1000000000000):lm b=some (ni b):=by
 unfold lm;rw[(uB (b:=b) (by omega)).1,j6,bC,bC,bC,bC];have h:=Ch (x:=fY b) (k:=24) (by omega);have e2:=Ch (x:=fY b) (k:=16) (by omega);have J:=Ch (x:=fY b) (k:=8) (by omega);rw[show((24:Nat):Int)=24 from rfl]at h;rw[show((16:Nat):Int)=16 from rfl]at e2;rw[show((8:Nat):Int)=8 from rfl]at J;rw[h,e2,J,aD (by simp;omega),j6];rfl
theorem JX{v:Ap}(h:Rgt v):sG v=some (aZ v):=by unfold sG;rw[wC (l:=[v]) (λx J=>by rw[Yc.1 J];exact h) (by simp),j6];simp only[xH,Z6,Zo,List.flatMap_nil,Y7];rw[ve,j6]
def oV:List Ap->Ap
 |[]=>fR|v::l=>l.foldl (λm x=>if ltV x m then x else m) v
def oW:List Ap->Ap
 |[]=>fR|v::l=>l.foldl (λm x=>if ltV m x then x else m) v
theorem xO (a b:Ap):0<ly a b↔ltV b a=true:=by
 unfold ly;split;·rename_i h;simp[ux h]
 ·split;·rename_i h;simp[h]
  ·rename_i h;simp at h;simp[h]
theorem zn{f:Ap->Ap->Ap}(J:∀m x,f m x=m\/f m x=x):∀(l:List Ap) (v:Ap),l.foldl f v∈v::l
 |[],v=>by simp|x::l,v=>by
  have:=zn J l (f v x);rw[Zt];rcases J v x with h|h
  ·rw[h]at this⊢;rcases Y0.1 this with h'|h';·rw[h'];simp
   ·simp[h']
  ·rw[h]at this⊢;simp[this]
theorem Bo{l:List Ap}(h:l≠[]):oV l∈l:=by cases l with
 |nil=>exact absurd rfl h|cons v l=>exact zn (λm x=>by split<;>simp) l v
theorem Bp{l:List Ap}(h:l≠[]):oW l∈l:=by cases l with
 |nil=>exact absurd rfl h|cons v l=>exact zn (λm x=>by split<;>simp) l v
theorem IG{l:List Ap}(h:l≠[])(hl:l.length<=1048576):gD l cy=some (oV l):=by cases l with
 |nil=>exact absurd rfl h|cons v r=>
 unfold gD;rw[if_neg (by simp;omega)];unfold oM;rw[ci,j6];refine aW (λi=>(((i+1:Nat):Int),(r.take i).foldl (λm x=>if ltV x m then x else m) v)) r.length (by simp) (λi hi=>?_) ?_
 ·dsimp only;unfold jX;have hi':i+1<(v::r).length:=by simp;omega
  simp only[Z8]at hl;rw[if_pos (by simpa using by omega),au hi',j6,fc,j6];rw[jq hi];unfold jW;have e:(v::r)[i+1]=r[i]:=rfl;rw[e,aP (by omega)];by_cases hc:ltV r[i] ((r.take i).foldl (λm x=>if ltV x m then x else m) v)=true;·rw[if_pos (decide_eq_true ((l5 _ _).2 hc)),j6,if_pos hc]
  ·rw[if_neg (by simpa usingλh=>hc ((l5 _ _).1 h)),if_neg hc]
 ·unfold jX oL;dsimp only;rw[if_neg (by simp),Z2];rfl
theorem IH{l:List Ap}(h:l≠[])(hl:l.length<=1048576):gE l cy=some (oW l):=by cases l with
 |nil=>exact absurd rfl h|cons v r=>
 unfold gE;rw[if_neg (by simp;omega)];unfold oO;rw[ci,j6];refine aW (λi=>(((i+1:Nat):Int),(r.take i).foldl (λm x=>if ltV m x then x else m) v)) r.length (by simp) (λi hi=>?_) ?_
 ·dsimp only;unfold jZ;have hi':i+1<(v::r).length:=by simp;omega
  simp only[Z8]at hl;rw[if_pos (by simpa using by omega),au hi',j6,fc,j6];rw[jq hi];unfold jY;have e:(v::r)[i+1]=r[i]:=rfl;rw[e,aP (by omega)];by_cases hc:ltV ((r.take i).foldl (λm x=>if ltV m x then x else m) v) r[i]=true;·rw[if_pos (decide_eq_true ((xO _ _).2 hc)),j6,if_pos hc]
  ·rw[if_neg (by simpa usingλh=>hc ((xO _ _).1 h)),if_neg hc]
 ·unfold jZ oN;dsimp only;rw[if_neg (by simp),Z2];rfl
def fT (l:List Ap):Nat:=(l.filter λv=>v.fKind==0).length
def II (kind:Int)(l:List Ap):bw:=⟨kind,(l.length:Int),oV l,oW l,(fT l:Int),0⟩
theorem xP (i:bw):∀(l:List Ap) (n:Nat),n+l.length<=1048576->dB (λ(s:bw) (x:Ap)=>fP s x) {i with fNulls:=(n:Int)} l=some ({i with fNulls:=((n+fT l:Nat):Int)},true)
 |[],n,_=>by simp[dB,fT]|v::l,n,h=>by
  simp only[Z8]at h;simp only[dB];by_cases hv:(v.fKind==0)=true
  ·have e:fP {i with fNulls:=(n:Int)} v=some ({i with fNulls:=((n+1:Nat):Int)},true):=by unfold fP;rw[if_pos hv,aP (by omega)]
   rw[e,j6,if_pos rfl,xP i l (n+1) (by omega)];simp only[fT,List.filter_cons,hv,if_true,Z8];congr 4;omega
  ·have e:fP {i with fNulls:=(n:Int)} v=some ({i with fNulls:=(n:Int)},true):=by unfold fP;rw[if_neg hv]
   rw[e,j6,if_pos rfl,xP i l n (by omega)];simp only[fT,List.filter_cons,hv,Zb,if_false]
theorem xQ (l:List Ap):fT l<=l.length:=List.length_filter_le _ _
theorem HB{l:List Ap}(kind:Int)(h:l≠[])(hl:l.length<=1048576):lK kind l=some (II kind l):=by
 unfold lK jQ;rw[IG h hl,j6,IH h hl,j6,j6];rw[show(⟨kind,(l.length:Int),oV l,oW l,0,0⟩:bw)={(⟨kind,(l.length:Int),oV l,oW l,0,0⟩:bw)with fNulls:=((0:Nat):Int)}from rfl,xP _ l 0 (by omega),j6,if_pos rfl,Nat.zero_add];rfl
theorem JY{kind:Int}{l:List Ap}(h:∀v∈l,Rgt v)(hl:l.length<=64):(rW kind l).length<=60000:=by
 obtain⟨w1,w2,w3⟩:=dp h;unfold rW;split
 ·obtain⟨Z,h2,_⟩:=kC (l:=l);have:=qq (bh l) (λr=>r.fMany::aZ r.fValue) 67 λx W=>by have:=(eK (h _ (Z x W).2.2)).2;simp;omega
  unfold xL;omega
 split
 ·have:=qq (Zq ((l.map (·.fInt)).length-1)) (hU (l.map (·.fInt))) 10 λx _=>mM (mn (ik _));unfold kD;simp only[Z1,bB,List.length_range,Zw]at*;omega
 split
 ·have Z:=jN (l:=aB l) λv J=>h v ((w2 v).1 J);have a1:wid ((aB l).length-1)<=64:=py (Zs (show(aB l).length-1<64 by omega) (by decide));have:=Zg hl a1;unfold kE;simp only[Z8,Z1,tD,Zw];omega
 split
 ·by_cases hi:∀x∈l.map (·.fInt),cL x
  ·have hu:=nL hi;have:=Zg hl (kZ hu).1;have a0:(aQ (l.map (·.fInt))).length=l.length:=by simp[aQ]
   unfold mo;simp only[Z1,bB,Z6,tD,a0];omega
  ·exfalso;apply hi;intro x W;obtain⟨v,J,rfl⟩:=Y2.1 W;exact(h v J).ok.int
 ·have:=jN h;unfold nM;omega
theorem Bq{kind:Int}{l:List Ap}{b:List Int}(h:∀v∈l,VOK v)(J:enc kind l=(b,0)):b.length<=60000:=by
 obtain⟨_,W,_,_,Z⟩:=em J;rcases Z with⟨_,rfl⟩|⟨_,rfl⟩;·simp
 ·exact JY (Ak h J) W
def be2 (n:Nat):List Int:=[((n/256:Nat):Int),((n%256:Nat):Int)]
def cU (k m z:Int)(v w:Ap)(d:List Int):List Int:=k::m::z::(aZ v++(aZ w++(be2 d.length++d)))
def mp (kind:Int)(l:List Ap):Int:=if kind=-1 then F2 l else kind
def nj (k:Int)(l:List Ap):List Int:=cU k (l.length:Int) (fT l:Int) (oV l) (oW l) (enc k l).1
noncomputable def wr (kind:Int) (l:List Ap):List Int×Int:=if l=[]then ([],70)else if (enc (mp kind l) l).2≠0 then ([],(enc (mp kind l) l).2)else (ni (nj (mp kind l) l),0)
theorem JZ{k m z:Int}{v w:Ap}{d:List Int}(Z:0<=k/\k<=4)(hm:1<=m/\m<=64)(hz:0<=z/\z<=m)(h:Rgt v)(W:Rgt w)(J:Byt d)(hl:d.length<65536):Byt (cU k m z v w d):=by unfold cU be2;refine .cons (by omega) (.cons (by omega) (.cons (by omega) (.app (uu h) (.app (uu W) (.app (.cons (by omega) (.cons (by omega) .nil)) J)))))
theorem nN{k m z:Int}{v w:Ap}{d:List Int}:(cU k m z v w d).length=5+(aZ v).length+(aZ w).length+d.length:=by unfold cU be2;simp;omega
theorem Mf{l:List Ap}(kind:Int)(h:∀v∈l,VOK v)(hl:l.length<=1048576):o8 kind l=some (wr kind l):=by
 have key:∀k,l≠[]->oh l k=some (if (enc k l).2≠0 then ([],(enc k l).2)else (ni (nj k l),0)):=by
  intro k J;unfold oh;rw[vj k h hl,j6];by_cases he:(enc k l).2=0
  ·have Z:enc k l=((enc k l).1,0):=Prod.ext rfl he;obtain⟨W,b0,_⟩:=em Z;have hR:=Ak h Z;have a0:=hR _ (Bo J);have a6:=hR _ (Bp J);have a9:=Bq h Z;have b1:=Da k h;have hn:=xQ l;have h0:0<l.length:=Y4.2 J;have l1:=(eK a0).2;have l2:=(eK a6).2;rw[if_neg (by simpa using he),if_neg (by simpa using he),HB k J hl,j6];have e8:=IF (x:=((enc k l).1.length:Int)) (k:=8) (by omega);rw[show((8:Nat):Int)=8 from rfl]at e8;simp only[II];rw[JX a0,j6,aD (by simp;omega),j6,JX a6,j6,aD (by simp;omega),j6,aD (by simp;omega),j6,aD (by simp;omega),j6];have e:([IntKind.u8.wrap k,IntKind.u8.wrap (l.length:Int),IntKind.u8.wrap (fT l:Int)]++aZ (oV l)++aZ (oW l)++[IntKind.u8.wrap (aV .i64 ((enc k l).1.length:Int) 8),IntKind.u8.wrap ((enc k l).1.length:Int)]++(enc k l).1)=nj k l:=by
    unfold nj cU be2;rw[bC,bC,bC,bC,bC,e8];have a1:k%256=k:=by omega
    have a2:(l.length:Int)%256=(l.length:Int):=by omega
    have a3:(fT l:Int)%256=(fT l:Int):=by omega
    have a4:((enc k l).1.length:Int)/2^8%256=(((enc k l).1.length/256:Nat):Int):=by omega
    have a5:((enc k l).1.length:Int)%256=(((enc k l).1.length%256:Nat):Int):=by omega
    rw[a1,a2,a3,a4,a5];simp
   have s2:(nj k l).length<=1000000000000:=by unfold nj;rw[nN];omega
   rw[e,DZ s2,j6]
  ·rw[if_pos (by simpa using he),if_pos he]
 unfold o8 wr;by_cases J:l=[];·subst J;rfl
 ·have h0:0<l.length:=Y4.2 J;rw[if_neg (by simp;omega),if_neg J];unfold mp;by_cases W:kind=-1;·rw[if_pos (by simpa using W),if_pos W,Ot h hl,j6,key _ J]
  ·rw[if_neg (by simpa using W),if_neg W,key _ J]
theorem Br{b:List Int}(W:Byt b)(hl:b.length<140737488355328):mE b=some (match bJ b with|some (v,n)=>(v,b.drop n,true)|none=>(fR,[],false)):=by
 unfold mE;have step:∀k,1<=k->k<=b.length->k<=66->ot b (k:Int)=match bJ (b.take k)with|some (v,n)=>(if n=k then some (.inr (v,b.drop k,true))else some (.inl ((k+1:Nat):Int)))|none=>some (.inl ((k+1:Nat):Int)):=by
  intro k J Z h3;have hs:=cx (xs:=b) (lo:=0) (hi:=k) (by omega) Z;rw[show((0:Nat):Int)=0 from rfl]at hs;unfold ot om;rw[if_pos (by simpa using by omega),if_pos (by simp;omega),hs,j6,aD (by simp;omega),j6,X4,List.singleton_append,vf (W.take _),j6,bP Z,aP (by omega)];have a0:(b.take k).length=k:=by simp;omega
  cases hp:bJ (b.take k)with
  |none=>rfl|some x=>
   obtain⟨v,n⟩:=x;simp only[a0];by_cases e:n=k;·rw[if_pos e,if_pos e];rfl
   ·rw[if_neg e,if_neg e];rfl
 cases hp:bJ b with
 |some x=>
  obtain⟨v,n⟩:=x;have hn:=kY W hp;refine aW (λi=>((i+1:Nat):Int)) (n-1) rfl (λi hi=>?_) ?_
  ·rw[step (i+1) (by omega) (by omega) (by omega)];cases hq:bJ (b.take (i+1))with
   |none=>rfl|some y=>obtain⟨v',n'⟩:=y;obtain⟨J,Z⟩:=tz W hq;rw[hp]at J;simp only[Option.some.injEq,Prod.mk.injEq]at J;omega
  ·have e:n-1+1=n:=by omega
   rw[e,step n (by omega) (by omega) (by omega),yk W hp (Zr _)];simp|none=>
  refine aW (λi=>((i+1:Nat):Int)) (min b.length 66) rfl (λi hi=>?_) ?_
  ·rw[step (i+1) (by omega) (by omega) (by omega)];cases hq:bJ (b.take (i+1))with
   |none=>rfl|some y=>obtain⟨v',n'⟩:=y;obtain⟨J,Z⟩:=tz W hq;rw[hp]at J;cases J
  ·have e0:om b ((min b.length 66+1:Nat):Int) false=some (.inr (fR,[],false)):=rfl;unfold ot;split
   ·have:decide (((min b.length 66+1:Nat):Int)<=66)=false:=by rename_i h;simp at h⊢;omega
    rw[this,e0]
   ·exact e0
theorem orI{a b:Nat}(Z:a<65536)(J:b<65536):bOr .i64 (a:Int) (b:Int)=((a|||b:Nat):Int):=by
 unfold bOr;have h:(Ze Z9.bits (a:Int)).toNat=a:=by show(Ze 64 (a:Int)).toNat=a;rw[Zl];omega
 have W:(Ze Z9.bits (b:Int)).toNat=b:=by show(Ze 64 (b:Int)).toNat=b;rw[Zl];omega
 rw[BitVec.toNat_or,h,W];have:a|||b<2^16:=Nat.or_lt_two_pow (by simpa using Z) (by simpa using J);have e:(2:Nat)^16=65536:=by decide
 rw[ah (by omega)]
theorem J0{x y:Int}(J:0<=x/\x<256)(h:0<=y/\y<256):bOr .i64 (en .i64 (Z9.wrap x) 8) (Z9.wrap y)=((x.toNat*256+y.toNat:Nat):Int):=by
 rw[uv J,uv h];obtain⟨a,rfl⟩:=Z4 J.1;obtain⟨b,rfl⟩:=Z4 h.1;have e:en .i64 (a:Int) 8=((2^8*a:Nat):Int):=by
  unfold en;have:(2:Int)^(min (8:Int).toNat Z9.bits)=256:=by decide
  rw[this,ah (by omega)];omega
 rw[e,orI (by omega) (by omega),←X8 (by omega)];simp only[Yr];omega
structure Blk (b:List Int)(k m z:Int)(v w:Ap)(d r:List Int):Prop where
 eq:b=cU k m z v w d++r
 hk:0<=k/\k<=4hm:1<=m/\m<=64hz:0<=z/\z<=m
 hv:Rgt v
 hw:Rgt w
 hd:d.length<65536hr:4<=r.length
def EG (k m z:Int)(v w:Ap)(d:List Int):bw:=⟨k,m,v,w,z,((cU k m z v w d).length+4:Nat)⟩
theorem Blk.parts{b:List Int}{k m z k' m' z':Int}{v w:Ap}{d r:List Int}(h:Blk (k::m::z::b) k' m' z' v w d r):k=k'/\m=m'/\z=z'/\bJ b=some (v,(aZ v).length)/\bJ (b.drop (aZ v).length)=some (w,(aZ w).length)/\(b.drop (aZ v).length).drop (aZ w).length=be2 d.length++(d++r):=by
 have:=h.eq;unfold cU at this;simp only[Zu,List.cons.injEq,Zi]at this;obtain⟨W,Z,h3,J⟩:=this;refine⟨W,Z,h3,?_,?_,?_⟩;·rw[J,iU h.hv]
 ·rw[J,Zy,iU h.hw]
 ·rw[J,Zy,Zy]
theorem Blk.one{b:List Int}{k m z k' m' z':Int}{v w v' w':Ap}{d r Z r':List Int}(h:Blk b k m z v w d r)(h':Blk b k' m' z' v' w' Z r'):k=k'/\m=m'/\z=z'/\v=v'/\w=w'/\d=Z/\r=r':=by
 have e:=h.eq;unfold cU at e;simp only[Zu]at e;rw[e]at h h';obtain⟨a1,a2,a3,a4,a5,a6⟩:=h.parts;obtain⟨b1,b2,b3,W,b5,J⟩:=h'.parts;rw[a4]at W;simp only[Option.some.injEq,Prod.mk.injEq]at W;obtain⟨rfl,_⟩:=W;rw[a5]at b5;simp only[Option.some.injEq,Prod.mk.injEq]at b5;obtain⟨rfl,_⟩:=b5;rw[a6]at J;unfold be2 at J;simp only[Zu,X3,List.cons.injEq]at J;have a0:d.length=Z.length:=by omega
 obtain⟨c1,c2⟩:=List.append_inj J.2.2 a0;exact⟨b1,b2,b3,rfl,rfl,c1,c2⟩
abbrev Ci:bw:=⟨0,0,Ap.zero,Ap.zero,0,0⟩
theorem Dd{b:List Int}(hb:Byt b)(hl:b.length<=1000000000000):(∃k m z v w d r,Blk b k m z v w d r/\jo b=some (EG k m z v w d,d,true))\/(jo b=some (Ci,[],false)/\∀k m z v w d r,¬Blk b k m z v w d r):=by
 have fi:∀{b:List Int},b.length<3->∀k m z v w d r,¬Blk b k m z v w d r:=by intro b hs k m z v w d r h;have:=h.eq;rw[this]at hs;simp[nN]at hs;omega
 have c5:∀b,gV b true=some (Ci,[],false):=λb=>rfl;match b,hb,hl with
 |[],_,_=>exact .inr ⟨rfl,fi (by simp)⟩|[_],_,_=>exact .inr ⟨rfl,fi (by simp)⟩|[_,_],_,_=>exact .inr ⟨rfl,fi (by simp)⟩|k::m::z::t,hb,hl=>
  have b0:=hb.head;have b1:=hb.tail.head;have b2:=hb.tail.tail.head;have J:Byt t:=hb.tail.tail.tail;simp only[Z8]at hl;have i0:idx (k::m::z::t) 0=some k:=ci _ _;have i1:idx (k::m::z::t) 1=some m:=lA _ _ _;have i2:idx (k::m::z::t) 2=some z:=au (xs:=k::m::z::t) (i:=2) (by simp);have e3:sub (k::m::z::t) 3 ((k::m::z::t).length:Int)=some t:=bP (xs:=k::m::z::t) (k:=3) (by simp);have b5:jo (k::m::z::t)=if 4<k\/m=0\/64<m\/m<z then some (Ci,[],false)else gV (k::m::z::t) false:=by
   unfold jo;rw[if_neg (by simp;omega),i0,j6,i1,j6,j6,i2,j6,j6];by_cases c1:4<k;·rw[if_pos (by simpa using c1),if_pos (.inl c1)];rfl
   rw[if_neg (by simpa using c1)];by_cases c2:m=0;·rw[if_pos (by simpa using c2),if_pos (.inr (.inl c2))];rfl
   rw[if_neg (by simpa using c2)];by_cases c3:64<m;·rw[if_pos (by simpa using c3),if_pos (.inr (.inr (.inl c3)))];rfl
   rw[if_neg (by simpa using c3)];by_cases c4:m<z;·rw[if_pos (.inr (.inr (.inr c4))),decide_eq_true c4];rfl
   rw[if_neg (by omega),decide_eq_false c4]
  rw[b5];by_cases c:4<k\/m=0\/64<m\/m<z
  ·rw[if_pos c];refine .inr ⟨rfl,λk' m' z' v w d r h=>?_⟩;obtain⟨rfl,rfl,rfl,_⟩:=h.parts;have:=h.hk;have:=h.hm;have:=h.hz;omega
  rw[if_neg c];unfold gV;rw[if_neg (by decide),i0,j6,i1,j6,i2,j6,e3,j6,Br J (by omega),j6];cases hp:bJ t with
  |none=>
   have hf:∃x,mE ([]:List Int)=some x:=⟨_,Br (b:=[]) .nil (by simp)⟩;obtain⟨x,hx⟩:=hf;simp only;rw[hx,j6];refine .inr ⟨rfl,λk' m' z' v w d r h=>?_⟩;have:=h.parts.2.2.2.1;rw[hp]at this;cases this|some q=>obtain⟨v,n1⟩:=q;have c0:=kY J hp;simp only;rw[Br (J.drop _) (by simp;omega),j6];cases hp2:bJ (t.drop n1)with
   |none=>refine .inr ⟨rfl,λk' m' z' v' w d r h=>?_⟩;obtain⟨_,_,_,h1,h2,_⟩:=h.parts;rw[hp]at h1;simp only[Option.some.injEq,Prod.mk.injEq]at h1;rw[←h1.2,hp2]at h2;cases h2|some q2=>
    obtain⟨w,n2⟩:=q2;have d0:=kY (J.drop _) hp2;simp only[Kc,Zb,if_false];obtain⟨b4,t1,a6,b7⟩:=gN J hp;obtain⟨b6,t2,a2,a9⟩:=gN (J.drop _) hp2;have a0:(t.drop n1).drop n2=t2:=by rw[a2,a9,Zy]
    have a3:Byt t2:=by rw[←a0];exact(J.drop _).drop _
    have b3:t.drop n1=t1:=by rw[a6,b7,Zy]
    have a1:t=aZ v++(aZ w++t2):=by rw[a6,←a2,b3]
    have Z:t2.length<2->∀k' m' z' v' w' d r,¬Blk (k::m::z::t) k' m' z' v' w' d r:=by intro h2 k' m' z' v' w' d r h;obtain⟨_,_,_,p1,p2,W⟩:=h.parts;rw[hp]at p1;simp only[Option.some.injEq,Prod.mk.injEq]at p1;rw[←p1.2,hp2]at p2;simp only[Option.some.injEq,Prod.mk.injEq]at p2;rw[←p1.2,←p2.2,a0]at W;rw[W]at h2;simp[be2]at h2;omega
    unfold pK;simp only[a0];match t2,a1,a0,a3,Z,a2 with
    |[],_,_,_,Z,_=>exact .inr ⟨by rw[if_pos (by decide)],Z (by simp)⟩|[_],_,_,_,Z,_=>exact .inr ⟨by rw[if_pos (by simp)],Z (by simp)⟩|x::y::rest,a1,a0,a3,Z,a2=>
     have bx:=a3.head;have by_:=a3.tail.head;obtain⟨n,hn⟩:∃n,n=x.toNat*256+y.toNat:=⟨_,rfl⟩;have e2:sub (x::y::rest) 2 ((x::y::rest).length:Int)=some rest:=bP (xs:=x::y::rest) (k:=2) (by simp);have c7:rest.length<=t.length:=by rw[a1];simp;omega
     rw[if_neg (by simp;omega),ci,j6,lA,j6,e2,j6,J0 bx by_,←hn,ah (by omega)];have c6:n<65536:=by omega
     by_cases hrl:rest.length<n+4
     ·rw[if_pos (by simpa using by omega)];refine .inr ⟨rfl,λk' m' z' v' w' d r h=>?_⟩;obtain⟨_,_,_,p1,p2,W⟩:=h.parts;rw[hp]at p1;simp only[Option.some.injEq,Prod.mk.injEq]at p1;rw[←p1.2,hp2]at p2;simp only[Option.some.injEq,Prod.mk.injEq]at p2;rw[←p1.2,←p2.2,a0]at W;unfold be2 at W;simp only[Zu,X3,List.cons.injEq]at W;have h4:=h.hr;have h5:rest.length=d.length+r.length:=by rw[W.2.2];simp
      omega
     ·have e4:=cx (xs:=rest) (lo:=0) (hi:=n) (by omega) (by omega);rw[show((0:Nat):Int)=0 from rfl,X4]at e4;rw[if_neg (by simpa using by omega),e4,j6];have a5:(rest.take n).length=n:=by simp;omega
      have hB:Blk (k::m::z::t) k m z v w (rest.take n) (rest.drop n):=by
       refine⟨?_,by omega,by omega,by omega,b4,b6,by omega,by simp;omega⟩;rw[a1];unfold cU be2;rw[a5];have q1:((n/256:Nat):Int)=x:=by omega
       have q2:((n%256:Nat):Int)=y:=by omega
       rw[q1,q2];simp
      refine .inl ⟨k,m,z,v,w,rest.take n,rest.drop n,hB,?_⟩;have a4:(k::m::z::t).length=3+(aZ v).length+(aZ w).length+2+rest.length:=by rw[a1];simp;omega
      rw[a4];unfold EG;rw[nN,a5,ah (show-9223372036854775808<=k/\_ by omega),ah (show-9223372036854775808<=m/\_ by omega),ah (show-9223372036854775808<=z/\_ by omega)];have q3:Z9.wrap (((3+(aZ v).length+(aZ w).length+2+rest.length:Nat):Int)-(rest.length:Int))=((5+(aZ v).length+(aZ w).length:Nat):Int):=by rw[ah (by simp only[Z8]at a4;omega)];omega
      have q4:Z9.wrap (((5+(aZ v).length+(aZ w).length:Nat):Int)+(n:Int))=((5+(aZ v).length+(aZ w).length+n:Nat):Int):=by rw[ah (by simp only[Z8]at a4;omega)];omega
      have q5:Z9.wrap (((5+(aZ v).length+(aZ w).length+n:Nat):Int)+4)=((5+(aZ v).length+(aZ w).length+n+4:Nat):Int):=by rw[ah (by simp only[Z8]at a4;omega)];omega
      rw[q3,q4,q5]
theorem Mg{b:List Int}(W:Byt b)(hl:b.length<=1000000000000){k m z:Int}{v w:Ap}{d r:List Int}(h:Blk b k m z v w d r):jo b=some (EG k m z v w d,d,true):=by
 rcases Dd W hl with⟨k',m',z',v',w',d',r',Z,J⟩|⟨_,J⟩
 ·obtain⟨rfl,rfl,rfl,rfl,rfl,rfl,_⟩:=h.one Z;exact J
 ·exact absurd h (J _ _ _ _ _ _ _)
noncomputable def vl (k m z:Int) (v w:Ap) (d r:List Int):List Ap×Int×Int:=if r.take 4=be4 (fY (cU k m z v w d))then if (dec k d m).2≠0 then ([],0,70)else if (fT (dec k d m).1:Int)=z/\oV (dec k d m).1=v/\oW (dec k d m).1=w then ((dec k d m).1,((cU k m z v w d).length+4:Nat),0)else ([],0,70)else ([],0,71)
theorem F4{b:List Int}(hb:Byt b)(hl:b.length<=1000000000000){k m z:Int}{v w:Ap}{d r:List Int}(h:Blk b k m z v w d r):iJ b=some (vl k m z v w d r):=by
 unfold iJ;rw[Mg hb hl h,j6];have W:=h.eq;have hr:=h.hr;have hd:=h.hd;have a5:Byt (cU k m z v w d):=by rw[W]at hb;exact hb.left
 have a0:Byt d:=by have:=a5;unfold cU at this;exact this.tail.tail.tail.right.right.right
 have a9:b.length=(cU k m z v w d).length+r.length:=by rw[W,Z1]
 obtain⟨n,Z⟩:∃n,n=(cU k m z v w d).length:=⟨_,rfl⟩;have t1:b.take n=cU k m z v w d:=by rw[W,Z,List.take_left]
 have t2:b.take (n+4)=cU k m z v w d++r.take 4:=by rw[W,Z,List.take_append,Zk (Nat.le_add_right _ _),Nat.add_sub_cancel_left]
 have s1:=cx (xs:=b) (lo:=0) (hi:=n) (by omega) (by omega);have s2:=cx (xs:=b) (lo:=0) (hi:=n+4) (by omega) (by omega);rw[show((0:Nat):Int)=0 from rfl,X4]at s1 s2;have hw:Z9.wrap (((n+4:Nat):Int)-4)=(n:Int):=by rw[ah (by omega)];omega
 unfold EG;simp only[←Z,Kc,Zb,if_false];rw[hw,s1,j6];unfold ji;rw[t1,aD (by simp;omega),j6,X3,j6,DZ (by omega),j6,s2,j6,t2,F1 (by unfold ni;simp[fj];omega),j6];unfold vl ni;by_cases c1:r.take 4=be4 (fY (cU k m z v w d))
 ·rw[if_pos c1,c1,decide_eq_true rfl];simp only[Kc,Zb,if_false];rw[JV _ _ a0 (by omega),j6];by_cases c2:(dec k d m).2=0
  ·rw[if_neg (by simpa using c2),if_neg (by simpa using c2)];rcases zm k d m with⟨l,e,g1,J,g3⟩|⟨e,g1,J⟩
   ·rw[e];simp only;have hm:=h.hm;have a4:l≠[]:=λe=>by rw[e]at J;simp at J;omega
    rw[HB k a4 (by omega),j6];simp only[II];by_cases a1:(fT l:Int)=z<;>by_cases a2:oV l=v<;>by_cases a3:oW l=w<;>simp[pM,a1,a2,a3,Z]
   ·rw[g1]at c2;exact absurd c2 J
  ·rw[if_pos (by simpa using c2),if_pos c2]
 ·have a6:¬(cU k m z v w d++be4 (fY (cU k m z v w d))=cU k m z v w d++r.take 4):=λh=>c1 (List.append_cancel_left h).symm;rw[if_neg c1,decide_eq_false a6];rfl
theorem G4 (k m z:Int)(v w:Ap)(d r:List Int):(∃e,vl k m z v w d r=([],0,e)/\e≠0)\/∃g:List Ap,vl k m z v w d r=(g,(((cU k m z v w d).length+4:Nat):Int),0)/\r.take 4=be4 (fY (cU k m z v w d))/\(∀v∈g,Rgt v)/\(g.length:Int)=m/\enc k g=(d,0)/\(fT g:Int)=z/\oV g=v/\oW g=w:=by
 unfold vl;by_cases c1:r.take 4=be4 (fY (cU k m z v w d))
 ·rw[if_pos c1];rcases zm k d m with⟨g,e,J,h,W⟩|⟨e,J,h⟩
  ·rw[e];simp only[ne_eq,not_true_eq_false,if_false];by_cases c3:(fT g:Int)=z/\oV g=v/\oW g=w;·rw[if_pos c3];exact .inr ⟨g,rfl,c1,J,h,W,c3⟩
   ·rw[if_neg c3];exact .inl ⟨70,rfl,by decide⟩
  ·rw[J,if_pos h];exact .inl ⟨70,rfl,by decide⟩
 ·rw[if_neg c1];exact .inl ⟨71,rfl,by decide⟩
theorem Ov{b:List Int}(W:Byt b)(hl:b.length<=1000000000000)(h:∀k m z v w d r,¬Blk b k m z v w d r):iJ b=some ([],0,70)/\BV b=some (Ci,70):=by
 rcases Dd W hl with⟨k',m',z',v',w',d',r',J,Z⟩|⟨J,_⟩;·exact absurd J (h _ _ _ _ _ _ _)
 ·unfold iJ BV;rw[J,j6,j6];exact⟨rfl,rfl⟩
theorem Cj{l:List Ap}{kind:Int}(h:∀v∈l,VOK v)(J:(wr kind l).2=0):∃k,l≠[]/\(∀v∈l,Rgt v)/\enc k l=((enc k l).1,0)/\k=mp kind l/\wr kind l=(ni (nj k l),0)/\∀t,Blk (ni (nj k l)++t) k (l.length:Int) (fT l:Int) (oV l) (oW l) (enc k l).1 (be4 (fY (nj k l))++t):=by
 unfold wr at J;by_cases hne:l=[];·rw[if_pos hne]at J;cases J
 rw[if_neg hne]at J;by_cases he:(enc (mp kind l) l).2=0
 ·have W:enc (mp kind l) l=((enc (mp kind l) l).1,0):=Prod.ext rfl he;obtain⟨hk,a1,_⟩:=em W;have Z:=Ak h W;have hn:=xQ l;have h0:0<l.length:=Y4.2 hne;have a0:=Bq h W;refine⟨mp kind l,hne,Z,W,rfl,by unfold wr;rw[if_neg hne,if_neg (by simpa using he)],λt=>⟨by unfold ni nj;simp,hk,by omega,by omega,Z _ (Bo hne),Z _ (Bp hne),by omega,by simp[fj]⟩⟩
 ·rw[if_pos (by simpa using he)]at J;exact absurd J he
theorem F5{l:List Ap}{kind:Int}(h:∀v∈l,VOK v)(W:(wr kind l).2=0):Byt (wr kind l).1/\(wr kind l).1.length<=100000:=by obtain⟨k,J,hR,he,_,W,hB⟩:=Cj h W;obtain⟨hk,a2,_⟩:=em he;have hn:=xQ l;have h0:0<l.length:=Y4.2 J;have a1:=Bq h he;have Z:=hR _ (Bo J);have a0:=hR _ (Bp J);have l1:=(eK Z).2;have l2:=(eK a0).2;rw[W];unfold ni;refine⟨.app (JZ hk ⟨by omega,by omega⟩ ⟨by omega,by omega⟩ Z a0 (Da k h) (by omega)) (Dc _),?_⟩;simp only[Z1,fj];unfold nj;rw[nN];omega
theorem Ow{l:List Ap}{kind:Int}(h:∀v∈l,VOK v)(J:(wr kind l).2=0){t:List Int}(ht:Byt t)(hl:t.length<=900000000000):iJ ((wr kind l).1++t)=some (l,((wr kind l).1.length:Int),0):=by
 obtain⟨W,Z⟩:=F5 h J;obtain⟨k,a0,hR,he,_,J,hB⟩:=Cj h J;rw[J]at W Z⊢;simp only at W Z⊢;rw[F4 (W.app ht) (by simp only[Z1];omega) (hB t)];have hd:=Oq h he;unfold vl;rw[hd,if_pos (by rw[Y6 (fj _)];rfl),if_neg (by simp),if_pos ⟨rfl,rfl,rfl⟩];have:(ni (nj k l)).length=(nj k l).length+4:=by unfold ni;simp[fj]
 rw[this];rfl
open Option renaming bind_some→j6,getD_some→Yd
open List renaming take_succ_eq_append_getElem→zx,getElem_mem→Z0,length_append→Z1,take_length→Z2,getElem?_eq_getElem→Z3,replicate→Z5,length_singleton→Z6,drop_eq_getElem_cons→Z7,length_cons→Z8,eq_nil_of_length_eq_zero→Za,getD_eq_getElem?_getD→Zc,mem_append→Zd,append_assoc→Zi,take_of_length_le→Zk,mem_of_mem_take→Zm,flatMap_cons→Zo,take_append_drop→Zp,range→Zq,foldl_cons→Zt,cons_append→Zu,length_take→Zv,length_map→Zw,drop_left→Zy,pairwise_cons→Zz,nil_append→X3,drop_zero→X4,pairwise_append→X9,mem_cons→Y0,length_drop→Y1,mem_map→Y2,length_pos_iff→Y4,drop_drop→Y5,take_left'→Y6,append_nil→Y7,ext_getElem→Y9,mem_singleton→Yc,getElem?_append_left→Ye,mem_of_getLast?→Yf,pairwise_iff_getElem→Yg,getElem?_eq_some_iff→Yh,eq_of_mem_replicate→Yi,flatMap_append→Yl,getElem_map→Yn,drop_length→Yp,getElem?_drop→Ys,mem_replicate→Yt,range_succ→Yv,drop_left'→Yw,length→Yz
open Nat renaming mul_le_mul→Zg,pow_le_pow_right→Zh,le_refl→Zr,lt_of_lt_of_le→Zs,div_div_eq_div_mul→Zx,eq_of_testBit_eq→X6,mul_le_mul_right→X7,two_pow_add_eq_or_of_lt→X8,and_one_is_mod→Y8,div_le_self→Ya,pow_succ→Yj,testBit_eq_decide_div_mod_eq→Yk,lt_or_ge→Ym,strongRecOn→Yo,testBit_xor→Yq,div_lt_iff_lt_mul→Yu,add_mul→Yx,pow_pos→Yy
open Bool renaming false_eq_true→Zb,not_true→Kc
open Int renaming eq_ofNat_of_zero_le→Z4,natCast_pow→Zf,tmod_eq_emod_of_nonneg→Zj,tdiv_eq_ediv_of_nonneg→Zn,natCast_nonneg→Y3,fdiv_eq_ediv_of_nonneg→Yb,toNat_natCast→Yr
open BitVec renaming ofInt→Ze,toNat_ofInt→Zl
open IntKind renaming i64→Z9,u64→X5
theorem J1{b:List Int}(hb:Byt b)(hl:b.length<=1000000000000){k m z:Int}{v w:Ap}{d r:List Int}(h:Blk b k m z v w d r):rK b=some (⟨k,m,v,w,z,(((cU k m z v w d).length+4:Nat):Int)⟩,((5+(aZ v).length+(aZ w).length:Nat):Int),0):=by
 obtain⟨t,ht⟩:∃t,b=k::m::z::t:=⟨_,by rw[h.eq];unfold cU;simp only[Zu];rfl⟩;subst ht;obtain⟨_,_,_,p1,p2,Z⟩:=h.parts;obtain⟨J,a1⟩:∃J,J=(aZ v).length:=⟨_,rfl⟩;obtain⟨W,a0⟩:∃W,W=(aZ w).length:=⟨_,rfl⟩;rw[←a1]at p1 p2 Z;rw[←a0]at p2 Z;have hk:=h.hk;have hm:=h.hm;have hz:=h.hz;have hd:=h.hd;have hr:=h.hr;have b1:=eK h.hv;have b2:=eK h.hw;have bt:Byt t:=hb.tail.tail.tail;simp only[Z8]at hl;have a4:t.length=J+W+2+d.length+r.length:=by have:=congrArg Yz h.eq;simp only[Z1,nN,Z8]at this;omega
 have i0:idx (k::m::z::t) 0=some k:=ci _ _;have i1:idx (k::m::z::t) 1=some m:=lA _ _ _;have i2:idx (k::m::z::t) 2=some z:=au (xs:=k::m::z::t) (i:=2) (by simp);have e3:sub (k::m::z::t) 3 ((k::m::z::t).length:Int)=some t:=bP (xs:=k::m::z::t) (k:=3) (by simp);have e4:sub (k::m::z::t) ((3+J:Nat):Int) ((k::m::z::t).length:Int)=some (t.drop J):=by rw[bP (by simp;omega),Nat.add_comm];rfl
 have w1:Z9.wrap (3+(J:Int))=((3+J:Nat):Int):=by rw[ah (by omega)];omega
 have w2:Z9.wrap (((3+J:Nat):Int)+(W:Int))=((3+J+W:Nat):Int):=by rw[ah (by omega)];omega
 have w3:Z9.wrap (((3+J+W:Nat):Int)+2)=((3+J+W+2:Nat):Int):=by rw[ah (by omega)];omega
 have e5:sub (k::m::z::t) ((3+J+W:Nat):Int) ((3+J+W+2:Nat):Int)=some (be2 d.length):=by
  rw[cx (by omega) (by simp;omega),List.drop_take,show 3+J+W+2-(3+J+W)=2 by omega];have:(k::m::z::t).drop (3+J+W)=(t.drop J).drop W:=by rw[Y5,show 3+J+W=(J+W)+3 by omega];rfl
  rw[this,Z];rfl
 have a2:Byt (be2 d.length):=.cons (by omega) (.cons (by omega) .nil);have a3:bv (be2 d.length)=(d.length:Int):=by unfold be2 bv;simp only[Zt,List.foldl_nil];omega
 have w4:Z9.wrap (d.length:Int)=(d.length:Int):=by rw[ah (by omega)]
 have w5:Z9.wrap (((3+J+W+2:Nat):Int)+(d.length:Int))=((3+J+W+2+d.length:Nat):Int):=by rw[ah (by omega)];omega
 have w6:Z9.wrap (((3+J+W+2+d.length:Nat):Int)+4)=((3+J+W+2+d.length+4:Nat):Int):=by rw[ah (by omega)];omega
 unfold rK;rw[if_neg (by simp;omega),i0,j6,if_neg (by simpa using by omega),i1,j6,if_neg (by simpa using by omega),j6,if_neg (by simpa using by omega),i2,j6,j6,decide_eq_false (by omega)];unfold kr;rw[if_neg (by decide),i0,j6,i1,j6,i2,j6,e3,j6,qg bt,p1,j6];simp only;rw[if_neg (by simp;omega),w1,e4,j6,qg (bt.drop _),p2,j6];simp only;rw[if_neg (by simp;omega),w2,w3,decide_eq_false (by simp;omega)];unfold tn;simp only;rw[if_neg (by decide),w1,w2,w3,e5,j6,mJ _ a2 (by unfold be2;simp),a3,j6,w4,w5,w6,if_neg (by simp;omega),ah (show-9223372036854775808<=k/\_ by omega),ah (show-9223372036854775808<=m/\_ by omega),ah (show-9223372036854775808<=z/\_ by omega),nN,←a1,←a0];have q1:3+J+W+2+d.length+4=5+J+W+d.length+4:=by omega
 have q2:3+J+W+2=5+J+W:=by omega
 rw[q1,q2]
def Seg (x:List Int×List Ap):Prop:=∃kind,(∀v∈x.2,VOK v)/\wr kind x.2=(x.1,0)
theorem Seg.byt{x:List Int×List Ap}(h:Seg x):Byt x.1/\x.1.length<=100000/\0<x.1.length/\x.2.length<=64:=by
 obtain⟨kind,J,hw⟩:=h;have Z:(wr kind x.2).2=0:=by rw[hw]
 obtain⟨h3,h4⟩:=F5 J Z;obtain⟨k,_,_,he,_,W,_⟩:=Cj J Z;rw[hw]at h3 h4 W;refine⟨h3,h4,?_,(em he).2.1⟩;have:x.1=ni (nj k x.2):=congrArg Prod.fst W;rw[this];unfold ni;simp[fj]
end Go.Proofs.YthbonoagbeilkaaGreat.Hay
/-The checksum,bit by bit and by half bytes (plain numbers).-/
namespace Go.Proofs.YthbonoagbeilkaaGreat.Hay
open Option renaming bind_some→j6,getD_some→Yd
open List renaming take_succ_eq_append_getElem→zx,getElem_mem→Z0,length_append→Z1,take_length→Z2,getElem?_eq_getElem→Z3,replicate→Z5,length_singleton→Z6,drop_eq_getElem_cons→Z7,length_cons→Z8,eq_nil_of_length_eq_zero→Za,getD_eq_getElem?_getD→Zc,mem_append→Zd,append_assoc→Zi,take_of_length_le→Zk,mem_of_mem_take→Zm,flatMap_cons→Zo,take_append_drop→Zp,range→Zq,foldl_cons→Zt,cons_append→Zu,length_take→Zv,length_map→Zw,drop_left→Zy,pairwise_cons→Zz,nil_append→X3,drop_zero→X4,pairwise_append→X9,mem_cons→Y0,length_drop→Y1,mem_map→Y2,length_pos_iff→Y4,drop_drop→Y5,take_left'→Y6,append_nil→Y7,ext_getElem→Y9,mem_singleton→Yc,getElem?_append_left→Ye,mem_of_getLast?→Yf,pairwise_iff_getElem→Yg,getElem?_eq_some_iff→Yh,eq_of_mem_replicate→Yi,flatMap_append→Yl,getElem_map→Yn,drop_length→Yp,getElem?_drop→Ys,mem_replicate→Yt,range_succ→Yv,drop_left'→Yw,length→Yz
open Nat renaming mul_le_mul→Zg,pow_le_pow_right→Zh,le_refl→Zr,lt_of_lt_of_le→Zs,div_div_eq_div_mul→Zx,eq_of_testBit_eq→X6,mul_le_mul_right→X7,two_pow_add_eq_or_of_lt→X8,and_one_is_mod→Y8,div_le_self→Ya,pow_succ→Yj,testBit_eq_decide_div_mod_eq→Yk,lt_or_ge→Ym,strongRecOn→Yo,testBit_xor→Yq,div_lt_iff_lt_mul→Yu,add_mul→Yx,pow_pos→Yy
open Bool renaming false_eq_true→Zb,not_true→Kc
open Int renaming eq_ofNat_of_zero_le→Z4,natCast_pow→Zf,tmod_eq_emod_of_nonneg→Zj,tdiv_eq_ediv_of_nonneg→Zn,natCast_nonneg→Y3,fdiv_eq_ediv_of_nonneg→Yb,toNat_natCast→Yr
open BitVec renaming ofInt→Ze,toNat_ofInt→Zl
open IntKind renaming i64→Z9,u64→X5
def Ck:Nat:=3988292384
def ia (x:Nat):Nat:=(x/2)^^^(if x.testBit 0 then Ck else 0)
theorem Mh (a b:Nat):(a^^^b)/2=a/2^^^b/2:=by apply X6;intro i;rw[Yq,←Nat.testBit_succ,←Nat.testBit_succ,←Nat.testBit_succ,Yq]
theorem vm (a b:Nat):ia (a^^^b)=ia a^^^ia b:=by unfold ia;rw[Mh,Yq];apply X6;intro i;cases a.testBit 0<;>cases b.testBit 0<;>simp[Yq]<;>cases (a/2).testBit i<;>cases (b/2).testBit i<;>simp
theorem tE (x:Nat):ia (2*x)=x:=by unfold ia;simp
def im (x:Nat):Nat:=ia (ia (ia (ia x)))
theorem zo (x:Nat):im x=im (x%16)^^^(x/16):=by
 have h:x=(2*(2*(2*(2*(x/16)))))^^^(x%16):=by
  have e2:2*(2*(2*(2*(x/16))))=2^4*(x/2^4):=by have e:(2:Nat)^4=16:=rfl;rw[e];omega
  rw[e2,show x%16=x%2^4 from rfl];apply X6;intro i;rw[Yq,Nat.testBit_two_pow_mul,Nat.testBit_div_two_pow,Nat.testBit_mod_two_pow];by_cases hi:i<4
  ·have:¬4<=i:=by omega
   simp[hi,this]
  ·have W:4<=i:=by omega
   have J:i-4+4=i:=by omega
   simp[hi,W,J]
 conv=>lhs;rw[h]
 unfold im;rw[vm,vm,vm,vm,tE,tE,tE,tE,Nat.xor_comm]
def zp (x:Nat):Nat:=im (im x)
theorem M5{a b:Nat}(Z:a<4294967296)(W:b<4294967296):d4 .u32 (a:Int) (b:Int)=((a&&&b:Nat):Int):=by
 unfold d4;rw[j9];have h:(Ze IntKind.u32.bits (a:Int)).toNat=a:=by show(Ze 32 (a:Int)).toNat=a;rw[Zl];omega
 have J:(Ze IntKind.u32.bits (b:Int)).toNat=b:=by show(Ze 32 (b:Int)).toNat=b;rw[Zl];omega
 rw[BitVec.toNat_and,h,J];have:a&&&b<=a:=Nat.and_le_left;omega
theorem vn{a b:Nat}(Z:a<4294967296)(J:b<4294967296):d7 .u32 (a:Int) (b:Int)=((a^^^b:Nat):Int):=by
 unfold d7;rw[j9];have h:(Ze IntKind.u32.bits (a:Int)).toNat=a:=by show(Ze 32 (a:Int)).toNat=a;rw[Zl];omega
 have W:(Ze IntKind.u32.bits (b:Int)).toNat=b:=by show(Ze 32 (b:Int)).toNat=b;rw[Zl];omega
 rw[BitVec.toNat_xor,h,W];have:a^^^b<2^32:=Nat.xor_lt_two_pow (by simpa using Z) (by simpa using J);have e:(2:Nat)^32=4294967296:=by decide
 omega
theorem Cl{a b:Nat}(J:a<4294967296)(h:b<4294967296):a^^^b<4294967296:=by have:a^^^b<2^32:=Nat.xor_lt_two_pow (by simpa using J) (by simpa using h);simpa using this
theorem rY{x:Nat}(h:x<4294967296):ia x<4294967296:=by unfold ia;exact Cl (by omega) (by split<;>decide)
theorem qr{x:Nat}(h:x<4294967296):im x<4294967296:=rY (rY (rY (rY h)))
theorem Mi (x:Nat):x&&&1=(x.testBit 0).toNat:=by rw[Y8,Nat.testBit_zero];rcases Nat.mod_two_eq_zero_or_one x with h|h<;>simp[h]
theorem G5{x:Nat}(Z:x<4294967296):d7 .u32 (aV .u32 (x:Int) 1) (IntKind.u32.wrap (3988292384*d4 .u32 (x:Int) 1))=((ia x:Nat):Int):=by
 have h:=Ch (x:=(x:Int)) (k:=1) (by omega);rw[show((1:Nat):Int)=1 from rfl]at h;have e2:=M5 (a:=x) (b:=1) Z (by omega);rw[show((1:Nat):Int)=1 from rfl]at e2;rw[h,e2,Mi,j9];have W:(x:Int)/2^1=((x/2:Nat):Int):=by omega
 have J:3988292384*(((x.testBit 0).toNat:Nat):Int)%4294967296=((if x.testBit 0 then Ck else 0:Nat):Int):=by cases x.testBit 0<;>simp[Ck]
 rw[W,J,vn (by omega) (by split<;>decide)];rfl
def sZ (n:Nat):List Int:=(Zq 16).map λj=>if j<n then ((im j:Nat):Int)else 0
theorem uC (n:Nat):(sZ n).length=16:=by simp[sZ]
theorem Al{n j:Nat}(h:j<16):(sZ n)[j]?=some (if j<n then ((im j:Nat):Int)else 0):=by unfold sZ;rw[List.getElem?_map,List.getElem?_range h];rfl
theorem Mj{n:Nat}(h:n<16):(sZ n).set n ((im n:Nat):Int)=sZ (n+1):=by
 apply List.ext_getElem?;intro j;rw[List.getElem?_set];by_cases hj:j<16
 ·rw[Al hj,Al hj];by_cases e:n=j;·subst e;rw[if_pos rfl,if_pos (by rw[uC];exact h),if_pos (by omega)]
  ·rw[if_neg e];by_cases J:j<n;·rw[if_pos J,if_pos (by omega)]
   ·rw[if_neg J,if_neg (by omega)]
 ·have J:(sZ n)[j]?=none:=List.getElem?_eq_none (by rw[uC];omega);have W:(sZ (n+1))[j]?=none:=List.getElem?_eq_none (by rw[uC];omega);rw[J,W,if_neg (by omega)]
def nk (l:List Int):Nat:=l.foldl (λc x=>zp (c^^^x.toNat)) 4294967295
def F6 (l:List Int):Nat:=4294967295^^^nk l
theorem xR{l:List Int}(h:Byt l):nk l<4294967296:=by
 unfold nk;have:∀(l:List Int) (c:Nat),Byt l->c<4294967296->l.foldl (λc x=>zp (c^^^x.toNat)) c<4294967296:=by
  intro l;induction l with
  |nil=>intro c _ h;exact h|cons x l ih=>intro c J W;have:=J.head;exact ih _ J.tail (qr (qr (Cl W (by omega))))
 exact this l _ h (by decide)
theorem J3{n:Nat}(h:n<4294967296):d4 .u32 (n:Int) 15=((n%16:Nat):Int):=by have:=M5 (a:=n) (b:=15) h (by omega);rw[show((15:Nat):Int)=15 from rfl]at this;rw[this,show(15:Nat)=2^4-1 from rfl,Nat.and_two_pow_sub_one_eq_mod]
theorem PZ{n:Nat}:aV .u32 (n:Int) 4=((n/16:Nat):Int):=by have:=Ch (x:=(n:Int)) (k:=4) (by omega);rw[show((4:Nat):Int)=4 from rfl]at this;rw[this];omega
theorem J4 (n:Nat)(h:n<4294967296):ix (sZ 16) (d4 .u32 (n:Int) 15)=some (n%16)/\(sZ 16)[n%16]?=some ((im (n%16):Nat):Int):=by rw[J3 h];refine⟨ng (by rw[uC];omega),?_⟩;rw[Al (by omega),if_pos (by omega)]
theorem F7{b:List Int}(J:Byt b)(hl:b.length<4611686018427387904):iQ b=some ((F6 b:Nat):Int):=by
 have a1:nA b (sZ 16)=some ((F6 b:Nat):Int):=by
  unfold nA;refine aW (λi=>(((nk (b.take i):Nat):Int),(i:Int))) b.length rfl (λi hi=>?_) ?_
  ·dsimp only;unfold qK;have hc:=xR (J.take i);have hx:=J _ (Z0 hi);obtain⟨x,a0⟩:=Z4 hx.1;have Z:IntKind.u32.wrap b[i]=(x:Int):=by rw[j9];omega
   obtain⟨c,h⟩:∃c,c=nk (b.take i)^^^x:=⟨_,rfl⟩;have W:c<4294967296:=by rw[h];exact Cl hc (by omega)
   have a3:nk (b.take (i+1))=zp c:=by rw[zx hi];unfold nk at h⊢;rw[List.foldl_append,h];simp[a0]
   obtain⟨t1,t2⟩:=J4 c W;have h4:=qr (x:=c%16) (by omega);have e1:d7 .u32 ((im (c%16):Nat):Int) ((c/16:Nat):Int)=((im c:Nat):Int):=by rw[vn h4 (by omega),←zo]
   obtain⟨u1,u2⟩:=J4 (im c) (qr W);have h5:=qr (x:=im c%16) (by omega);have e2:d7 .u32 ((im (im c%16):Nat):Int) ((im c/16:Nat):Int)=((zp c:Nat):Int):=by rw[vn h5 (by have:=qr W;omega),←zo];rfl
   rw[if_pos (by simpa using hi),au hi,j6,Z,vn hc (by omega),←h,t1,j6,t2,j6,PZ,e1,u1,j6,u2,j6,PZ,e2,aP (by omega),a3]
  ·dsimp only;unfold qK yR;rw[if_neg (by simp),Z2];have e:CJ .u32 ((nk b:Nat):Int)=((F6 b:Nat):Int):=by have:=vn (a:=4294967295) (b:=nk b) (by omega) (xR J);unfold F6;rw[←this];rfl
   rw[e];rfl
 unfold iQ;refine aW (λi=>((i:Int),sZ i)) 16 (by decide) (λi hi=>?_) ?_
 ·dsimp only;unfold qL;rw[if_pos (by simpa using by omega)];have Z:IntKind.u32.wrap (i:Int)=((i:Nat):Int):=by rw[j9];omega
  rw[Z];refine aW (λq=>(((Nat.repeat ia q i:Nat):Int),(q:Int))) 4 rfl (λq hq=>?_) ?_
  ·dsimp only;unfold nB;have a2:∀q,Nat.repeat ia q i<4294967296:=by
    intro q;induction q with
    |zero=>show i<_;omega|succ q ih=>exact rY ih
   rw[if_pos (by simpa using by omega),G5 (a2 q),aP (by omega)];rfl
  ·dsimp only;unfold nB ud uc;rw[if_neg (by decide),ng (by rw[uC];exact hi),j6,Al hi,j6,aP (by omega)];have:Nat.repeat ia 4 i=im i:=rfl;rw[this,Mj hi];rfl
 ·dsimp only;unfold qL;rw[if_neg (by decide),a1];rfl
abbrev M6:bY:=⟨0,0,Ap.zero,Ap.zero,0,0⟩
theorem Mk{b:List Int}(hb:Byt b)(hl:b.length<=100000000000)(a2:∀k m z v w d r,¬Blk b k m z v w d r):rK b=some (M6,0,70):=by match b,hb,hl,a2 with
 |[],_,_,_=>rfl|[_],_,_,_=>rfl|[_,_],_,_,_=>rfl|k::m::z::t,hb,hl,a2=>
  have b0:=hb.head;have b1:=hb.tail.head;have b2:=hb.tail.tail.head;have W:Byt t:=hb.tail.tail.tail;simp only[Z8]at hl;have i0:idx (k::m::z::t) 0=some k:=ci _ _;have i1:idx (k::m::z::t) 1=some m:=lA _ _ _;have i2:idx (k::m::z::t) 2=some z:=au (xs:=k::m::z::t) (i:=2) (by simp);have e3:sub (k::m::z::t) 3 ((k::m::z::t).length:Int)=some t:=bP (xs:=k::m::z::t) (k:=3) (by simp);have b6:rK (k::m::z::t)=if 4<k\/m=0\/64<m\/m<z then some (M6,0,70)else kr (k::m::z::t) false:=by
   unfold rK;rw[if_neg (by simp;omega),i0,j6,i1,j6,j6,i2,j6,j6];by_cases c1:4<k;·rw[if_pos (by simpa using c1),if_pos (.inl c1)];rfl
   rw[if_neg (by simpa using c1)];by_cases c2:m=0;·rw[if_pos (by simpa using c2),if_pos (.inr (.inl c2))];rfl
   rw[if_neg (by simpa using c2)];by_cases c3:64<m;·rw[if_pos (by simpa using c3),if_pos (.inr (.inr (.inl c3)))];rfl
   rw[if_neg (by simpa using c3)];by_cases c4:m<z;·rw[if_pos (.inr (.inr (.inr c4))),decide_eq_true c4];rfl
   rw[if_neg (by omega),decide_eq_false c4]
  rw[b6];by_cases c:4<k\/m=0\/64<m\/m<z;·rw[if_pos c]
  rw[if_neg c];unfold kr;rw[if_neg (by decide),i0,j6,i1,j6,i2,j6,e3,j6,qg W];cases hp:bJ t with
  |none=>rfl|some q=>
   obtain⟨v,h⟩:=q;have c6:=kY W hp;have w1:Z9.wrap (3+(h:Int))=((3+h:Nat):Int):=by rw[ah (by omega)];omega
   have e4:sub (k::m::z::t) ((3+h:Nat):Int) ((k::m::z::t).length:Int)=some (t.drop h):=by rw[bP (by simp;omega),Nat.add_comm];rfl
   simp only[j6];rw[if_neg (by simp;omega),w1,e4,j6,qg (W.drop _)];cases hp2:bJ (t.drop h)with
   |none=>rfl|some q2=>
    obtain⟨w,J⟩:=q2;have c7:=kY (W.drop _) hp2;have a4:(t.drop h).length=t.length-h:=Y1;have w2:Z9.wrap (((3+h:Nat):Int)+(J:Int))=((3+h+J:Nat):Int):=by rw[ah (by omega)];omega
    have w3:Z9.wrap (((3+h+J:Nat):Int)+2)=((3+h+J+2:Nat):Int):=by rw[ah (by omega)];omega
    simp only[j6];rw[if_neg (by simp;omega),w2,w3];by_cases hs:(k::m::z::t).length<3+h+J+2;·rw[decide_eq_true (by omega)];rfl
    rw[decide_eq_false (by omega)];unfold tn;simp only;rw[if_neg (by decide),w1,w2,w3];obtain⟨b4,t1,a6,b7⟩:=gN W hp;obtain⟨c0,t2,a5,a9⟩:=gN (W.drop _) hp2;have a0:(t.drop h).drop J=t2:=by rw[a5,a9,Zy]
    have a1:Byt t2:=by rw[←a0];exact(W.drop _).drop _
    have b3:t.drop h=t1:=by rw[a6,b7,Zy]
    have a3:t=aZ v++(aZ w++t2):=by rw[a6,←a5,b3]
    have Z:t2.length=t.length-h-J:=by rw[←a0];simp;omega
    simp only[Z8]at hs;match t2,a3,a0,a1,Z with
    |[],_,_,_,Z=>simp at Z;omega|[_],_,_,_,Z=>simp at Z;omega|x::y::rest,a3,a0,a1,Z=>
     have bx:=a1.head;have by_:=a1.tail.head;obtain⟨n,hn⟩:∃n,n=x.toNat*256+y.toNat:=⟨_,rfl⟩;have e5:sub (k::m::z::t) ((3+h+J:Nat):Int) ((3+h+J+2:Nat):Int)=some [x,y]:=by
      rw[cx (by omega) (by simp;omega),List.drop_take,show 3+h+J+2-(3+h+J)=2 by omega];have:(k::m::z::t).drop (3+h+J)=(t.drop h).drop J:=by rw[Y5,show 3+h+J=(h+J)+3 by omega];rfl
      rw[this,a0];rfl
     have b5:bv [x,y]=(n:Int):=by unfold bv;simp only[Zt,List.foldl_nil];omega
     have c5:Byt [x,y]:=.cons bx (.cons by_ .nil);simp only[Z8]at Z;have w4:Z9.wrap (n:Int)=(n:Int):=by rw[ah (by omega)]
     have w5:Z9.wrap (((3+h+J+2:Nat):Int)+(n:Int))=((3+h+J+2+n:Nat):Int):=by rw[ah (by omega)];omega
     have w6:Z9.wrap (((3+h+J+2+n:Nat):Int)+4)=((3+h+J+2+n+4:Nat):Int):=by rw[ah (by omega)];omega
     rw[e5,j6,mJ _ c5 (by simp),b5,j6,w4,w5,w6];by_cases hrl:rest.length<n+4;·rw[if_pos (by simp;omega)]
     ·exfalso;have a4:(rest.take n).length=n:=by simp;omega
      refine a2 k m z v w (rest.take n) (rest.drop n) ⟨?_,by omega,by omega,by omega,b4,c0,by omega,by simp;omega⟩;rw[a3];unfold cU be2;rw[a4];have q1:((n/256:Nat):Int)=x:=by omega
      have q2:((n%256:Nat):Int)=y:=by omega
      rw[q1,q2];simp
theorem Ox{b:List Int}(h:Byt b)(hl:b.length<4611686018427387904):fY b=((F6 b:Nat):Int):=by unfold fY;rw[F7 h hl];rfl
theorem De{b:List Int}(J:Byt b)(hl:b.length<4611686018427387904):ww b=some (fY b):=by
 rw[Ox J hl];unfold ww;refine aW (λi=>(((nk (b.take i):Nat):Int),(i:Int))) b.length rfl (λi hi=>?_) ?_
 ·dsimp only;unfold y5;have Z:=xR (J.take i);have hx:=J _ (Z0 hi);obtain⟨x,a2⟩:=Z4 hx.1;have e0:IntKind.u32.wrap b[i]=(x:Int):=by rw[j9];omega
  obtain⟨c,W⟩:∃c,c=nk (b.take i)^^^x:=⟨_,rfl⟩;have a1:c<4294967296:=by rw[W];exact Cl Z (by omega)
  have a4:nk (b.take (i+1))=zp c:=by rw[zx hi];unfold nk at W⊢;rw[List.foldl_append,W];simp[a2]
  rw[if_pos (by simpa using hi),au hi,j6,e0,vn Z (by omega),←W];refine aW (λq=>(((Nat.repeat ia q c:Nat):Int),(q:Int))) 8 rfl (λq hq=>?_) ?_
  ·dsimp only;have a3:∀q,Nat.repeat ia q c<4294967296:=by
    intro q;induction q with
    |zero=>exact a1|succ q ih=>exact rY ih
   have a0:=a3 q;obtain⟨y,hy⟩:∃y,y=Nat.repeat ia q c:=⟨_,rfl⟩;have hs:Nat.repeat ia (q+1) c=ia y:=by rw[hy];rfl
   rw[←hy]at a0⊢;unfold yZ yY;have e1:((y:Int)).tmod 2=((y%2:Nat):Int):=by rw[Zj (by omega)];omega
   have e2:((y:Int)).tdiv 2=((y/2:Nat):Int):=by rw[Zn (by omega)];omega
   have e3:IntKind.u32.wrap ((y/2:Nat):Int)=((y/2:Nat):Int):=by rw[j9];omega
   rw[if_pos (by simpa using by omega),e1,e2,e3,aP (by omega),hs];unfold ia;rw[Nat.testBit_zero];rcases Nat.mod_two_eq_zero_or_one y with h|h;·rw[h,Nat.xor_comm];simp
   ·rw[h];have e4:d7 .u32 ((y/2:Nat):Int) 3988292384=((y/2^^^Ck:Nat):Int):=vn (a:=y/2) (b:=Ck) (by omega) (by decide);rw[e4];rfl
  ·dsimp only;unfold yZ DN;rw[if_neg (by decide),aP (by omega),a4];rfl
 ·dsimp only;unfold y5 DM;rw[if_neg (by simp),Z2];have e:=vn (a:=nk b) (b:=4294967295) (xR J) (by omega);rw[show((4294967295:Nat):Int)=4294967295 from rfl]at e;rw[e,Nat.xor_comm];rfl
def J5 (kind:Int)(l:List Ap):bY:=⟨kind,(l.length:Int),oV l,oW l,(fT l:Int),0⟩
theorem IJ{l:List Ap}{i:Nat}(h:i<l.length):fT (l.take (i+1))=fT (l.take i)+if (l[i].fKind==0)=true then 1 else 0:=by
 unfold fT;rw[zx h,List.filter_append,Z1];congr 1;by_cases hv:(l[i].fKind==0)=true;·rw[if_pos hv];simp at hv;simp[hv]
 ·rw[if_neg hv];simp at hv;simp[hv]
theorem Ml{l:List Ap}(kind:Int)(h:l≠[])(hl:l.length<=1048576):xt kind l=some (J5 kind l):=by cases hlr:l with
 |nil=>exact absurd hlr h|cons v r=>
 rw[←hlr];have i0:idx l 0=some v:=by rw[hlr];exact ci _ _
 unfold xt;rw[i0,j6,j6];refine aW (λi=>((i:Int),(⟨kind,(l.length:Int),(l.take i).foldl (λm x=>if ltV x m then x else m) v,(l.take i).foldl (λm x=>if ltV m x then x else m) v,(fT (l.take i):Int),0⟩:bY))) l.length rfl (λi hi=>?_) ?_
 ·dsimp only;obtain⟨a,ha⟩:∃a,a=(l.take i).foldl (λm x=>if ltV x m then x else m) v:=⟨_,rfl⟩;obtain⟨b,hb⟩:∃b,b=(l.take i).foldl (λm x=>if ltV m x then x else m) v:=⟨_,rfl⟩;have hn:=xQ (l.take i);simp only[Zv]at hn;rw[jq hi,jq hi,IJ hi,←ha,←hb];have J:∀x y,sm l (i:Int) ⟨kind,(l.length:Int),x,y,(fT (l.take i):Int),0⟩=some (.inl (((i+1:Nat):Int),⟨kind,(l.length:Int),x,y,((fT (l.take i)+if (l[i].fKind==0)=true then 1 else 0:Nat):Int),0⟩)):=by
   intro x y;unfold sm vK;rw[au hi,j6,aP (by omega)];by_cases hv:(l[i].fKind==0)=true
   ·rw[if_pos hv,if_pos hv];dsimp only;rw[aP (by omega)]
   ·rw[if_neg hv,if_neg hv];rfl
  have W:∀x,sn l (i:Int) ⟨kind,(l.length:Int),x,b,(fT (l.take i):Int),0⟩=some (.inl (((i+1:Nat):Int),⟨kind,(l.length:Int),x,if ltV b l[i]then l[i]else b,((fT (l.take i)+if (l[i].fKind==0)=true then 1 else 0:Nat):Int),0⟩)):=by
   intro x;unfold sn;rw[au hi,j6,rS,j6];by_cases hc:ltV b l[i]=true;·rw[if_pos (decide_eq_true ((xO _ _).2 hc)),j6,if_pos hc];exact J _ _
   ·rw[if_neg (by simpa usingλh=>hc ((xO _ _).1 h)),if_neg hc];exact J _ _
  unfold vL;rw[if_pos (by simpa using hi),au hi,j6,rS,j6];by_cases hc:ltV l[i] a=true;·rw[if_pos (decide_eq_true ((l5 _ _).2 hc)),j6,if_pos hc];exact W _
  ·rw[if_neg (by simpa usingλh=>hc ((l5 _ _).1 h)),if_neg hc];exact W _
 ·dsimp only;unfold vL AL;rw[if_neg (by simp),Z2];have Z:l.foldl (λm x=>if ltV x m then x else m) v=oV l:=by
   rw[hlr];simp only[oV,Zt];have:ltV v v=false:=by cases hvv:ltV v v with
    |false=>rfl|true=>have:=ux hvv;rw[hvv]at this;cases this
   rw[this];rfl
  have e2:l.foldl (λm x=>if ltV m x then x else m) v=oW l:=by
   rw[hlr];simp only[oW,Zt];have:ltV v v=false:=by cases hvv:ltV v v with
    |false=>rfl|true=>have:=ux hvv;rw[hvv]at this;cases this
   rw[this];rfl
  rw[Z,e2];rfl
theorem Mm{l:List Int}(h:Byt l)(hl:l.length=4):be4 (bv l)=l:=by match l,hl with
 |[a,b,c,d],_=>
  have ha:=h.head;have W:=h.tail.head;have Z:=h.tail.tail.head;have J:=h.tail.tail.tail.head;unfold be4 bv;simp only[Zt,List.foldl_nil];congr 1;·omega
  congr 1;·omega
  congr 1;·omega
  congr 1;omega
theorem F8{n:Int}(h:U32 n):bv (be4 n)=n:=by unfold U32 at h;unfold be4 bv;simp only[Zt,List.foldl_nil];omega
theorem J6{b:List Int}(Z:Byt b)(hl:b.length<=1000000000){k m z:Int}{v w:Ap}{d r:List Int}(h:Blk b k m z v w d r):rM b=some (vl k m z v w d r):=by
 unfold rM;rw[J1 Z (by omega) h,j6];have J:=h.eq;have hr:=h.hr;have hd:=h.hd;have a4:Byt (cU k m z v w d):=by rw[J]at Z;exact Z.left
 have a5:Byt r:=by rw[J]at Z;exact Z.right
 have a9:Byt d:=by have:=a4;unfold cU at this;exact this.tail.tail.tail.right.right.right
 have b3:b.length=(cU k m z v w d).length+r.length:=by rw[J,Z1]
 obtain⟨n,hn⟩:∃n,n=(cU k m z v w d).length:=⟨_,rfl⟩;have b0:=nN (k:=k) (m:=m) (z:=z) (v:=v) (w:=w) (d:=d);have t1:b.take n=cU k m z v w d:=by rw[J,hn,List.take_left]
 have t2:(b.take (n+4)).drop n=r.take 4:=by rw[J,hn,List.take_append,Zk (Nat.le_add_right _ _),Nat.add_sub_cancel_left,Zy]
 have t3:(b.take n).drop (5+(aZ v).length+(aZ w).length)=d:=by
  rw[t1];have:cU k m z v w d=([k,m,z]++aZ v++aZ w++be2 d.length)++d:=by unfold cU;simp
  rw[this,Yw (by simp[be2];omega)]
 have s1:=cx (xs:=b) (lo:=n) (hi:=n+4) (by omega) (by omega);have s2:=cx (xs:=b) (lo:=0) (hi:=n) (by omega) (by omega);have s3:=cx (xs:=b) (lo:=5+(aZ v).length+(aZ w).length) (hi:=n) (by omega) (by omega);rw[show((0:Nat):Int)=0 from rfl,X4,t1]at s2;rw[t2]at s1;rw[t3]at s3;have hw:Z9.wrap (((n+4:Nat):Int)-4)=(n:Int):=by rw[ah (by omega)];omega
 rw[←hn]at b0⊢;simp only;have hu:=(uB (b:=cU k m z v w d) (by omega)).2;have a6:=hu;unfold U32 at a6;have b2:(r.take 4).length=4:=by rw[Zv];omega
 rw[if_neg (by simp),hw,s1,j6,mJ _ (a5.take 4) (by omega),j6,s2,j6,De a4 (by omega),j6,aU,Int.emod_eq_of_lt a6.1 (by omega)];unfold vl;by_cases c1:r.take 4=be4 (fY (cU k m z v w d))
 ·have a0:bv (r.take 4)=fY (cU k m z v w d):=by rw[c1,F8 hu]
  rw[if_pos c1,if_neg (by simp[a0]),s3,j6,En _ _ a9 (by omega),j6];by_cases c2:(dec k d m).2=0
  ·rw[if_neg (by simpa using c2),if_neg (by simpa using c2)];rcases zm k d m with⟨l,e,g1,W,g3⟩|⟨e,g1,W⟩
   ·rw[e];simp only;have hm:=h.hm;have b1:l≠[]:=λe=>by rw[e]at W;simp at W;omega
    rw[Ml k b1 (by omega),j6];simp only[J5];by_cases a1:(fT l:Int)=z<;>by_cases a2:oV l=v<;>by_cases a3:oW l=w<;>simp[a1,a2,a3,W,←hn]
   ·rw[g1]at c2;exact absurd c2 W
  ·rw[if_pos (by simpa using c2),if_pos c2]
 ·have a0:¬bv (r.take 4)=fY (cU k m z v w d):=λe=>c1 (by rw[←e,Mm (a5.take 4) b2]);rw[if_neg c1,if_pos (by simpa using a0)]
theorem Mn{b:List Int}(J:Byt b)(hl:b.length<=1000000000)(h:∀k m z v w d r,¬Blk b k m z v w d r):rM b=some ([],0,70):=by
 unfold rM;rw[Mk J (by omega) h,j6];rfl
set_option linter.unusedVariables false
set_option linter.unusedSimpArgs false
section
variable{O:Type}
theorem P0{xs:List O}{i:Nat}(h:i<xs.length):ix xs (i:Int)=some i:=by unfold ix;rw[if_pos (by omega)];simp
theorem xS{xs A B:List O}{x:O}{i:Int}(e:xs=A++x::B)(hi:i=(A.length:Int)):ix xs i=some A.length:=by subst e hi;unfold ix;rw[if_pos (by simp;omega)];simp
theorem rf{xs A B:List O}{x:O}(e:xs=A++x::B):xs[A.length]?=some x:=by subst e;simp
theorem Cm{xs A B:List O}{x:O}(y:O)(e:xs=A++x::B):xs.set A.length y=A++y::B:=by subst e;simp
theorem M7{β:Type}{xs A B:List O}{x:O}{i:Int}{k:Nat->O->Option β}(e:xs=A++x::B)(hi:i=(A.length:Int)):((ix xs i).bind λj=>(xs[j]?).bind λx=>k j x)=k A.length x:=by rw[xS e hi,j6,rf e,j6]
def swp (xs:List O)(i j:Int):Option (List O):=(ix xs i).bind λa=>(xs[a]?).bind λx=>(ix xs j).bind λb=>(xs[b]?).bind λy=>(ix xs j).bind λc=>(xs[c]?).bind λ_=>(ix (xs.set c x) i).bind λd=>((xs.set c x)[d]?).bind λ_=>some ((xs.set c x).set d y)
theorem J7{A B C xs:List O}{x y:O}{i j:Int}(e:xs=A++x::(B++y::C))(hi:i=(A.length:Int))(J:j=(A.length:Int)+1+B.length):swp xs i j=some (A++y::(B++x::C)):=by
 have e2:xs=(A++x::B)++y::C:=by rw[e];simp
 have J:j=((A++x::B).length:Int):=by rw[J];simp;omega
 unfold swp;rw[xS e hi,j6,rf e,j6,xS e2 J,j6,rf e2,j6,j6,rf e2,j6];have W:=Cm x e2;rw[W];have h:(A++x::B)++x::C=A++x::(B++x::C):=by simp
 rw[xS h hi,j6,rf h,j6,Cm y h]
theorem J8{A B C xs:List O}{x y:O}{i j:Int}(e:xs=A++x::(B++y::C))(hi:i=(A.length:Int))(h:j=(A.length:Int)+1+B.length):swp xs j i=some (A++y::(B++x::C)):=by
 have e2:xs=(A++x::B)++y::C:=by rw[e];simp
 have h:j=((A++x::B).length:Int):=by rw[h];simp;omega
 unfold swp;rw[xS e2 h,j6,rf e2,j6,xS e hi,j6,rf e,j6,j6,rf e,j6];have W:=Cm y e;rw[W];have J:A++y::(B++y::C)=(A++y::B)++y::C:=by simp
 have Z:j=((A++y::B).length:Int):=by rw[h];simp
 have e5:(A++x::B).length=(A++y::B).length:=by simp
 rw[xS J Z,j6,rf J,j6,Cm x J];simp
theorem HC{n:Nat}{S:List O}(h:S.length=n+1):∃S' s,S=S'++[s]/\S'.length=n:=by
 have J:S≠[]:=by intro e;rw[e]at h;cases h
 refine⟨S.dropLast,S.getLast J,(List.dropLast_concat_getLast J).symm,by simp[h]⟩
theorem Stb.perm{lt:O->O->Bool}(h:Swo lt){l J:List O}(W:Stb lt l J):J.Perm l:=by classical rw[List.perm_iff_count];intro a;rw[←List.count_filter (p:=eqv lt a) (lG h a),W.flt a,List.count_filter (lG h a)]
theorem Stb.len{lt:O->O->Bool}(h:Swo lt){l J:List O}(W:Stb lt l J):J.length=l.length:=(W.perm h).length_eq
theorem Stb.app{lt:O->O->Bool}{l h m m':List O}(J:Stb lt l h)(W:Stb lt (h++m) m'):Stb lt (l++m) m':=W.trans λa=>by simp[J.flt]
end
def Cmp{O:Type}(lt:O->O->Bool)(p:O->O->Option Int):Prop:=∀x y,∃c,p x y=some c/\decide (c<0)=lt x y
section
variable{lt:aa->aa->Bool}{p:aa->aa->Option Int}
theorem P1 (h:Swo lt) (hp:Cmp lt p) (L R:List aa) (v:aa) (a x6:Int) (ha:a=(L.length:Int)) (hx:-9223372036854775808<=x6+1/\x6+1<=9223372036854775807):∀(n:Nat) (S1 J:List aa) (j:Int) (xs:List aa),S1.length=n->j=(L.length:Int)+S1.length->xs=L++S1++v::(J++R)->Srt lt (S1++J)->(∀s∈J,lt v s=true)->j<4611686018427387904->∃T,am (λs:(Int×List aa)=>bE a p x6 s.1 s.2) (j,xs)=some (.inl (x6+1,L++T++R))/\Stb lt (S1++J++[v]) T:=by
 intro n;induction n with
 |zero=>
   intro S1 J j xs hn hj a0 Z hv hb;obtain rfl:=Za hn;refine⟨v::J,?_,?_⟩
   ·apply aR;simp only[bE];rw[if_neg (by simp;simp at hj;omega)];simp only[bD,eI,ah hx];simp[a0]
   ·simpa using Stb.ins h (S1:=[]) Z hv (by simp)|succ n ih=>
   intro S1 J j xs hn hj a0 Z hv hb;obtain⟨W,s,rfl,a4⟩:=HC hn;rw[Z1,Z6]at hj;have e1:xs=(L++W)++s::([]++v::(J++R)):=by rw[a0];simp
   have e2:xs=(L++(W++[s]))++v::(J++R):=a0;have a1:j-1=((L++W).length:Int):=by rw[Z1];omega
   have a5:j=((L++(W++[s])).length:Int):=by simp;omega
   have hw:Z9.wrap (j-1)=j-1:=ah (by omega);obtain⟨c,hc,hd⟩:=hp v s;have a2:bE a p x6 j xs=bD x6 j xs (lt v s):=by simp only[bE];rw[if_pos (by simp;omega),M7 e2 a5,hw,M7 e1 a1,hc,j6,hd]
   cases hl:lt v s with
   |true=>
     have a3:bE a p x6 j xs=some (.inl (j-1,(L++W)++v::([]++s::(J++R)))):=by
      have h1:(swp xs (j-1) j)=_:=J7 e1 a1 (by rw[←a1];simp);have h2:bD x6 j xs true=(swp xs (j-1) j).bind λr=>some (.inl (j-1,r)):=by simp only[bD,swp,Option.bind_assoc,j6,hw,if_true]
      rw[a2,hl,h2,h1,j6]
     obtain⟨T,h1,h2⟩:=ih W (s::J) (j-1) _ a4 (by omega) rfl (by simpa using Z) (by
      intro x hx;rcases Y0.1 hx with rfl|hx;·exact hl
      ·exact hv x hx) (by omega);refine⟨T,?_,by simpa using h2⟩;rw[bI a3];simpa using h1|false=>
     refine⟨W++[s]++v::J,?_,?_⟩
     ·apply aR;show bE a p x6 j xs=_;rw[a2,hl];simp only[bD,eI,ah hx];simp[a0]
     ·refine Stb.ins h Z hv (Ll h ?_ hl);unfold Srt at Z⊢;rw[X9]at Z;exact Z.1
theorem Oy (h:Swo lt)(hp:Cmp lt p)(L R:List aa)(a b:Int)(ha:a=(L.length:Int))(hb:b<4611686018427387904):∀(Y J S:List aa) (j:Int) (xs:List aa),Stb lt J S->j=(L.length:Int)+S.length->b=(L.length:Int)+S.length+Y.length->xs=L++S++(Y++R)->∃T,am (λs:(Int×List aa)=>bS a b p s.1 s.2) (j,xs)=some (L++T++R)/\Stb lt (J++Y) T:=by
 intro Y;induction Y with
 |nil=>intro J S j xs W hj a0 a1;refine⟨S,?_,by simpa using W⟩;apply aR;simp only[bS];rw[if_neg (by simp;simp at a0;omega)];simp[a1]|cons v Y ih=>
   intro J S j xs W hj a0 a1;rw[Z8]at a0;obtain⟨T,h1,Z⟩:=P1 h hp L (Y++R) v a j ha (by omega) S.length S [] j xs rfl hj (by rw[a1];simp) (by simpa using W.srt) (by simp) (by omega);have a2:bS a b p j xs=some (.inl (j+1,L++T++(Y++R))):=by simp only[bS];rw[if_pos (by simp;omega)];exact h1
   rw[Y7]at Z;have a3:=Z.len h;rw[Z1,Z6]at a3;obtain⟨T',h3,h4⟩:=ih (J++[v]) T (j+1) _ (W.app Z) (by omega) (by omega) rfl;refine⟨T',?_,by simpa using h4⟩;rw[bI a2,h3]
theorem J9 (h:Swo lt)(Z:Cmp lt p)(L X R:List aa){a b:Int}{xs:List aa}(ha:a=(L.length:Int))(J:b=(L.length:Int)+X.length)(hn:b<4611686018427387904)(W:xs=L++X++R):∃T,cP xs a b p=some (L++T++R)/\Stb lt X T:=by unfold cP;rw[ah (by omega)];cases X with
 |nil=>refine⟨[],?_,⟨List.Pairwise.nil,λ_=>rfl⟩⟩;apply aR;simp only[bS];rw[if_neg (by simp;simp at J;omega)];simp[W]|cons v X=>rw[Z8]at J;obtain⟨T,h1,h2⟩:=Oy h Z L R a b ha hn X [v] [v] (a+1) xs ⟨by simp[Srt],λ_=>rfl⟩ (by simp;omega) (by simp;omega) (by rw[W];simp);exact⟨T,h1,by simpa using h2⟩
end
set_option linter.unusedVariables false
set_option linter.unusedSimpArgs false
section
variable{lt:aa->aa->Bool}{p:aa->aa->Option Int}
theorem Mo (p1 p2 p3:Int):∀(J W A h B Z C:List aa) (i:Int) (xs:List aa),W.length=J.length->h.length=Z.length->i=(h.length:Int)->p1=(A.length:Int)->p2=(A.length:Int)+h.length+J.length+B.length->p3=i+J.length->xs=A++h++J++B++Z++W++C->p2+p3<4611686018427387904->am (λs:(Int×List aa)=>cf p1 p2 p3 s.1 s.2) (i,xs)=some (A++(h++W)++B++(Z++J)++C):=by
 intro J;induction J with
 |nil=>intro W A h B Z C i xs h1 h2 h3 h4 h5 h6 a0 hb;obtain rfl:=Za (h1.trans rfl);apply aR;simp only[cf];rw[if_neg (by simp;simp at h6;omega)];simp[a0]|cons u J ih=>intro W A h B Z C i xs h1 h2 h3 h4 h5 h6 a0 hb;cases W with
  |nil=>cases h1|cons v W=>
   rw[Z8,Z8]at h1;rw[Z8]at h5 h6;have e1:xs=(A++h)++u::((J++B++Z)++v::(W++C)):=by rw[a0];simp
   have hi:p1+i=((A++h).length:Int):=by rw[Z1];omega
   have hj:p2+i=((A++h).length:Int)+1+(J++B++Z).length:=by simp only[Z1];omega
   have a1:cf p1 p2 p3 i xs=some (.inl (i+1,(A++h)++v::((J++B++Z)++u::(W++C)))):=by
    have h1:=J8 e1 hi hj;have h2:cf p1 p2 p3 i xs=(swp xs (p2+i) (p1+i)).bind λr=>some (.inl (i+1,r)):=by simp only[cf,swp,Option.bind_assoc,j6];rw[if_pos (by simp;omega),ah (by omega),ah (by omega),ah (by omega)]
    rw[h2,h1,j6]
   rw[bI a1,ih W A (h++[v]) B (Z++[u]) C (i+1) _ (by omega) (by simp;omega) (by simp;omega) h4 (by simp;omega) (by omega) (by simp) hb];simp
theorem F9{A U B V C xs:List aa}{p1 p2 h:Int}(Z:V.length=U.length)(W:p1=(A.length:Int))(h3:p2=(A.length:Int)+U.length+B.length)(h4:h=(U.length:Int))(a0:xs=A++U++B++V++C)(J:p2+h<4611686018427387904):cD xs p1 p2 h p=some (A++V++B++U++C):=by unfold cD;have:=Mo p1 p2 h U V A [] B [] C 0 xs Z rfl rfl W (by simp;omega) (by omega) (by simpa using a0) J;simpa using this
theorem Mp (m:Int):∀(n:Nat) (X Y A C:List aa) (i j:Int) (xs:List aa),X.length+Y.length=n->0<X.length->0<Y.length->i=(X.length:Int)->j=(Y.length:Int)->m=(A.length:Int)+X.length->xs=A++X++Y++C->m+j<2305843009213693952->i<2305843009213693952->am (λs:(Int×Int×List aa)=>bZ m p s.1 s.2.1 s.2.2) (i,j,xs)=some (A++Y++X++C):=by
 intro n;induction n using Yo with|_ n ih=>
  intro X Y A C i j xs hn hX Z hi W hm J hb a2;by_cases hij:i=j
  ·apply aR;simp only[bZ];rw[if_neg (by simp[hij])];simp only[jS];rw[ah (by omega),F9 (A:=A) (U:=X) (B:=[]) (V:=Y) (C:=C) (by omega) (by omega) (by simp;omega) hi (by simp[J]) (by omega)];simp
  ·by_cases hlt:j<i
   ·have a0:X=X.take Y.length++X.drop Y.length:=(Zp _ _).symm;have h:bZ m p i j xs=some (.inl (i-j,j,(A++Y)++X.drop Y.length++X.take Y.length++C)):=by
     simp only[bZ];rw[if_pos (by simp[hij]),if_pos (by simp[hlt]),ah (by omega),F9 (A:=A) (U:=X.take Y.length) (B:=X.drop Y.length) (V:=Y) (C:=C) (by simp;omega) (by omega) (by simp;omega) (by simp;omega) (by rw[J];simp) (by omega),j6,ah (by omega)]
    rw[bI h,ih (n-Y.length) (by omega) (X.drop Y.length) (X.take Y.length) (A++Y) C (i-j) j _ (by simp;omega) (by simp;omega) (by simp;omega) (by simp;omega) (by simp;omega) (by simp;omega) rfl (by omega) (by omega)];simp
   ·have a1:Y=Y.take (Y.length-X.length)++Y.drop (Y.length-X.length):=(Zp _ _).symm;have h:bZ m p i j xs=some (.inl (i,j-i,A++Y.drop (Y.length-X.length)++Y.take (Y.length-X.length)++(X++C))):=by
     simp only[bZ];rw[if_pos (by simp[hij]),if_neg (by simp;omega),ah (n:=m-i) (by omega),ah (n:=m+j) (by omega),ah (n:=m+j-i) (by omega),F9 (A:=A) (U:=X) (B:=Y.take (Y.length-X.length)) (V:=Y.drop (Y.length-X.length)) (C:=C) (by simp;omega) (by omega) (by simp;omega) (by omega) (by rw[J];simp) (by omega),j6,ah (by omega)];simp
    rw[bI h,ih (n-X.length) (by omega) (Y.drop (Y.length-X.length)) (Y.take (Y.length-X.length)) A (X++C) i (j-i) _ (by simp;omega) (by simp;omega) (by simp;omega) (by simp;omega) (by simp;omega) (by simp;omega) rfl (by omega) (by omega)];simp
theorem P2{A X Y C xs:List aa}{a m b:Int}(J:0<X.length)(h:0<Y.length)(ha:a=(A.length:Int))(hm:m=a+X.length)(Z:b=m+Y.length)(W:xs=A++X++Y++C)(hn:b<2305843009213693952):da xs a m b p=some (A++Y++X++C):=by unfold da;rw[ah (by omega),ah (by omega)];exact Mp m _ X Y A C _ _ xs rfl J h (by omega) (by omega) (by omega) W (by omega) (by omega)
theorem Mq (e:Int)(he:e<4611686018427387904)(x:aa)(Q:List aa):∀(h pre:List aa) (k:Int) (xs:List aa),k=(pre.length:Int)->e-1=k+h.length->xs=pre++x::(h++Q)->am (λs:(Int×List aa)=>cj e s.1 s.2) (k,xs)=some (pre++h++x::Q):=by
 intro h;induction h with
 |nil=>intro pre k xs Z W J;apply aR;simp only[cj];rw[ah (by omega),if_neg (by simp;simp at W;omega)];simp[jy,J]|cons b h ih=>
  intro pre k xs Z W J;rw[Z8]at W;have e1:xs=pre++x::([]++b::(h++Q)):=by rw[J];simp
  have a0:cj e k xs=some (.inl (k+1,pre++b::([]++x::(h++Q)))):=by
   have h2:=J8 e1 Z (j:=k+1) (by simp;omega);have h3:cj e k xs=(swp xs (k+1) k).bind λr=>some (.inl (k+1,r)):=by simp only[cj,swp,Option.bind_assoc,j6];rw[ah (n:=e-1) (by omega),if_pos (by simp;omega),ah (by omega)]
   rw[h3,h2,j6]
  rw[bI a0,ih (pre++[b]) (k+1) _ (by simp;omega) (by omega) (by simp)];simp
theorem Mr (e:Int)(y:aa)(pre:List aa)(he:e=(pre.length:Int)):∀(n:Nat) (h Q:List aa) (k:Int) (xs:List aa),h.length=n->k=e+h.length->xs=pre++h++y::Q->k<4611686018427387904->am (λs:(Int×List aa)=>cl e s.1 s.2) (k,xs)=some (pre++y::(h++Q)):=by
 intro n;induction n with
 |zero=>intro h Q k xs W J a0 hb;obtain rfl:=Za W;apply aR;simp only[cl];rw[if_neg (by simp;simp at J;omega)];simp[jz,a0]|succ n ih=>
  intro h Q k xs W J a0 hb;obtain⟨Z,s,rfl,a2⟩:=HC W;rw[Z1,Z6]at J;have e1:xs=(pre++Z)++s::([]++y::Q):=by rw[a0];simp
  have a1:cl e k xs=some (.inl (k-1,(pre++Z)++y::([]++s::Q))):=by
   have h2:=J7 e1 (i:=k-1) (j:=k) (by simp;omega) (by simp;omega);have h3:cl e k xs=(swp xs (k-1) k).bind λr=>some (.inl (k-1,r)):=by simp only[cl,swp,Option.bind_assoc,j6];rw[if_pos (by simp;omega),ah (by omega)]
   rw[h3,h2,j6]
  rw[bI a1,ih Z (s::Q) (k-1) _ a2 (by omega) (by simp) (by omega)];simp
end
theorem Am{β:Type}{F:Int×Int->Option ((Int×Int)⊕β)}(g:Nat->Bool)(J W:Nat)(K:Nat->Option β)(a2:∀lo hi:Nat,J<=lo->lo<hi->hi<=W->F (lo,hi)=some (.inl (if g ((lo+hi)/2)then (((lo+hi)/2+1:Nat),hi)else (lo,((lo+hi)/2:Nat)))))(a1:∀s:Nat,J<=s->s<=W->F (s,s)=(K s).map Sum.inr) (h:J<=W):∃s:Nat,J<=s/\s<=W/\(s=J\/g (s-1)=true)/\(s=W\/g s=false)/\am F ((J:Int),(W:Int))=K s:=by
 have key:∀(n lo hi:Nat),hi-lo=n->J<=lo->lo<=hi->hi<=W->(lo=J\/g (lo-1)=true)->(hi=W\/g hi=false)->∃s:Nat,J<=s/\s<=W/\(s=J\/g (s-1)=true)/\(s=W\/g s=false)/\am F ((lo:Int),(hi:Int))=K s:=by
  intro n;induction n using Yo with|_ n ih=>
   intro lo hi hn h1 h2 Z h4 h5;by_cases hlt:lo<hi
   ·have a0:=a2 lo hi h1 hlt Z;cases hg:g ((lo+hi)/2)with
    |true=>rw[hg,if_pos rfl]at a0;rw[bI a0];exact ih (hi-((lo+hi)/2+1)) (by omega) _ _ rfl (by omega) (by omega) Z (Or.inr (by simpa using hg)) h5|false=>rw[hg,if_neg (by simp)]at a0;rw[bI a0];exact ih ((lo+hi)/2-lo) (by omega) _ _ rfl h1 (by omega) (by omega) h4 (Or.inr hg)
   ·obtain rfl:lo=hi:=by omega
    refine⟨lo,h1,Z,h4,h5,?_⟩;rw[nt,a1 lo h1 Z];cases K lo<;>rfl
 exact key _ J W rfl (Zr _) h (Zr _) (Or.inl rfl) (Or.inl rfl)
theorem wE{x:Int}(h:0<=x/\x<9223372036854775808):Z9.wrap (aV .u64 (X5.wrap (Z9.wrap x)) 1)=x/2:=by
 rw[ah (n:=x) (by omega),aU,Int.emod_eq_of_lt (by omega) (by omega)];have:aV .u64 x ((1:Nat):Int)=x/2^1:=sw (by decide);rw[show(1:Int)=((1:Nat):Int)from rfl,this,ah (by omega)];rfl
section
variable{O:Type}
theorem wF{β:Type}{xs:List O}{x:O}{i:Int}{h:Nat}{k:Nat->O->Option β}(e:xs[h]?=some x)(hi:i=(h:Int)):((ix xs i).bind λj=>(xs[j]?).bind λx=>k j x)=k h x:=by obtain⟨hl,J⟩:=Yh.1 e;rw[hi,P0 hl,j6,e,j6]
theorem xsA{L A B R:List O}{k:Nat}(h:k<A.length):(L++A++B++R)[L.length+k]?=A[k]?:=by rw[Zi,Zi,List.getElem?_append_right (by omega),show L.length+k-L.length=k by omega,Ye h]
theorem xsB{L A B R:List O}{k:Nat}(h:k<B.length):(L++A++B++R)[L.length+A.length+k]?=B[k]?:=by rw[Zi,List.getElem?_append_right (by simp),show L.length+A.length+k-(L++A).length=k by simp,Ye h]
theorem D0{A:List O}{k:Nat}(h:k<A.length){x:O}(e:A[k]?=some x):∃A',A.take (k+1)=A'++[x]:=by obtain⟨hl,J⟩:=Yh.1 e;exact⟨A.take k,by rw[List.take_add_one,e];rfl⟩
theorem Cn{A:List O}{k:Nat}{x:O}(e:A[k]?=some x):∃A',A.drop k=x::A':=by obtain⟨hl,h⟩:=Yh.1 e;exact⟨A.drop (k+1),by rw[Z7 hl,h]⟩
theorem P3{lt:O->O->Bool}(h:Swo lt){A1 A2 B1 B2:List O}(hA:Srt lt (A1++A2))(hB:Srt lt (B1++B2))(h1:B1=[]\/A2=[]\/∃Z b a A',B1=Z++[b]/\A2=a::A'/\lt b a=true)(h2:A1=[]\/B2=[]\/∃A' a b Z,A1=A'++[a]/\B2=b::Z/\lt b a=false):(∀b∈B1,∀a∈A2,lt b a=true)/\(∀a∈A1,∀b∈B2,lt b a=false):=by
 unfold Srt at hA hB;rw[X9]at hA hB;constructor
 ·rcases h1 with rfl|rfl|⟨Z,bl,af,A',rfl,rfl,hl⟩;·simp
  ·simp
  ·intro b J a W;cases hba:lt b a with
   |true=>rfl|false=>
    exfalso;have a0:lt bl b=false:=by
     rcases Zd.1 J with J|J;·exact(X9.1 hB.1).2.2 b J bl (by simp)
     ·simp at J;subst J;exact h.irr _
    have a1:lt a af=false:=by
     rcases Y0.1 W with rfl|W;·exact h.irr _
     ·exact(Zz.1 hA.2.1).1 a W
    have:=h.inc bl a af (h.inc bl b a a0 hba) a1;rw[hl]at this;cases this
 ·rcases h2 with rfl|rfl|⟨A',al,bf,Z,rfl,rfl,hl⟩;·simp
  ·simp
  ·intro a W b J;have a0:lt b bf=false:=by
    rcases Y0.1 J with rfl|J;·exact h.irr _
    ·exact(Zz.1 hB.2.1).1 b J
   have a1:lt al a=false:=by
    rcases Zd.1 W with W|W;·exact(X9.1 hA.1).2.2 a W al (by simp)
    ·simp at W;subst W;exact h.irr _
   exact h.inc b bf a a0 (h.inc bf al a hl a1)
theorem Srt.take{lt:O->O->Bool}{A:List O}(h:Srt lt A)(k:Nat):Srt lt (A.take k):=List.Pairwise.sublist (List.take_sublist k A) h
theorem Srt.drop{lt:O->O->Bool}{A:List O}(h:Srt lt A)(k:Nat):Srt lt (A.drop k):=List.Pairwise.sublist (List.drop_sublist k A) h
end
set_option linter.unusedVariables false
set_option linter.unusedSimpArgs false
section
variable{lt:aa->aa->Bool}{p:aa->aa->Option Int}
def IK (lt:aa->aa->Bool)(p:aa->aa->Option Int)(h:List aa->Int->Int->Int->(aa->aa->Option Int)->Option (List aa))(N:Nat):Prop:=∀(L A B R:List aa) (a m b:Int) (xs:List aa),0<A.length->0<B.length->a=(L.length:Int)->m=(L.length:Int)+A.length->b=(L.length:Int)+A.length+B.length->xs=L++A++B++R->A.length+B.length<=N->xs.length<1152921504606846976->Srt lt A->Srt lt B->∃T,h xs a m b p=some (L++T++R)/\Stb lt (A++B) T
def gx (lt:aa->aa->Bool)(xs:List aa)(i j:Nat):Bool:=match xs[i]?,xs[j]?with
 |some x,some y=>lt x y|_,_=>false
theorem Co{xs:List aa}{i j:Nat}{x y:aa}(h:xs[i]?=some x)(J:xs[j]?=some y):gx lt xs i j=lt x y:=by simp[gx,h,J]
theorem zq (h:Swo lt){L A B R xs:List aa}(a2:xs=L++A++B++R)(hA:Srt lt A)(hB:Srt lt B)(k1 k2:Nat)(h1:k1<=A.length)(h2:k2<=B.length)(c1:k2=0\/k1=A.length\/(0<k2/\k1<A.length/\gx lt xs (L.length+A.length+(k2-1)) (L.length+k1)=true))(c2:k1=0\/k2=B.length\/(0<k1/\k2<B.length/\gx lt xs (L.length+A.length+k2) (L.length+(k1-1))=false)):(∀b∈B.take k2,∀a∈A.drop k1,lt b a=true)/\(∀a∈A.take k1,∀b∈B.drop k2,lt b a=false):=by
 have J:Srt lt (A.take k1++A.drop k1):=by rw[Zp];exact hA
 have W:Srt lt (B.take k2++B.drop k2):=by rw[Zp];exact hB
 refine P3 h J W ?_ ?_
 · rcases c1 with rfl|rfl|⟨hk,a0,hg⟩;·simp
   ·simp
   ·right;right;have eb:B[k2-1]?=some B[k2-1]:=Z3 (by omega);have Z:A[k1]?=some A[k1]:=Z3 a0;obtain⟨B',W⟩:=D0 (by omega) eb;obtain⟨A',J⟩:=Cn Z;rw[show k2-1+1=k2 by omega]at W;refine⟨B',_,_,A',W,J,?_⟩;rw[←hg,a2,Co ((xsB (by omega)).trans eb) ?_];exact(xsA a0).trans Z
 · rcases c2 with rfl|rfl|⟨hk,a1,hg⟩;·simp
   ·simp
   ·right;right;have Z:A[k1-1]?=some A[k1-1]:=Z3 (by omega);have eb:B[k2]?=some B[k2]:=Z3 a1;obtain⟨A',J⟩:=D0 (by omega) Z;obtain⟨B',W⟩:=Cn eb;rw[show k1-1+1=k1 by omega]at J;refine⟨A',_,_,B',J,W,?_⟩;rw[←hg,a2,Co ((xsB a1).trans eb) ?_];exact(xsA (by omega)).trans Z
theorem Oz (h:Swo lt) (hp:Cmp lt p){L B R xs:List aa}{x:aa}{a m b:Int}(b0:0<B.length) (ha:a=(L.length:Int)) (hm:m=(L.length:Int)+1) (hb:b=(L.length:Int)+1+B.length)(J:xs=L++[x]++B++R) (hn:xs.length<1152921504606846976) (Z:Srt lt B):∃T,am (λs:(Int×Int)=>cZ xs a p s.1 s.2) (m,b)=some (L++T++R)/\Stb lt ([x]++B) T:=by
 have a9:xs.length=L.length+1+B.length+R.length:=by rw[J];simp;omega
 have ex:xs[L.length]?=some x:=by rw[J];simp
 have a4:m=((L.length+1:Nat):Int):=by omega
 have a2:b=((L.length+1+B.length:Nat):Int):=by omega
 obtain⟨s,h1,h2,W,h4,h5⟩:=Am (F:=λs:(Int×Int)=>cZ xs a p s.1 s.2) (λc=>gx lt xs c L.length) (L.length+1) (L.length+1+B.length) (λs=>fH xs a (s:Int)) (λlo hi h1 h2 W=>by
  have hc:(lo+hi)/2<xs.length:=by omega
  have ec:xs[(lo+hi)/2]?=some xs[(lo+hi)/2]:=Z3 hc;obtain⟨c,a5,a0⟩:=hp xs[(lo+hi)/2] x;simp only[cZ];rw[if_pos (by simp;omega),wE (by omega),wF ec (by omega),wF ex ha,a5,j6,a0,Co ec ex,ah (by omega)];split<;>rfl) (λs h1 h2=>by
  simp only[cZ];rw[if_neg (by simp)]) (by omega);obtain⟨k,rfl⟩:∃k,s=L.length+1+k:=⟨s-(L.length+1),by omega⟩;have a6   :=zq h (A:=[x]) J (by simp[Srt]) Z 0 k (by simp) (by omega)
  (by rcases W with W|W;·left;omega
      · by_cases hk:k=0;·left;exact hk
        ·right;right;refine⟨by omega,by simp,?_⟩;rw[←W];congr 1;simp;omega) (Or.inl rfl);have a1:    ∀b∈B.drop k,lt b x=false:=by
  have:=zq h (A:=[x]) J (by simp[Srt]) Z 1 k (by simp) (by omega) (Or.inr (Or.inl rfl))
   (by rcases h4 with h4|h4;·right;left;omega
       · by_cases hk:k=B.length;·right;left;exact hk
         ·right;right;refine⟨by omega,by omega,?_⟩;rw[←h4];congr 1);intro b hb;exact this.2 x (by simp) b hb
 refine⟨B.take k++x::B.drop k,?_,?_⟩
 ·rw[a4,a2,h5];unfold fH;rw[Mq _ (by omega) x (B.drop k++R) (B.take k) L a xs ha (by simp;omega) (by rw[J,←Zi (B.take k),Zp];simp)];simp
 · have a3:Srt lt (B.take k++B.drop k):=by rw[Zp];exact Z
   have:=Stb.cat h (A1:=[]) (A2:=[x]) (B1:=B.take k) (B2:=B.drop k) (R1:=B.take k) (R2:=x::B.drop k) (Stb.refl (Z.take k)) (Stb.refl (by
    unfold Srt;rw[List.singleton_append,Zz];exact⟨a1,Z.drop k⟩)) (by simp[Srt]) a3 (λb hb a ha=>a6.1 b hb a ha) (by simp);simpa using this
theorem Ms (h:Swo lt) (hp:Cmp lt p){L A R xs:List aa}{y:aa}{a m:Int}(a9:0<A.length) (J:a=(L.length:Int)) (hm:m=(L.length:Int)+A.length)(Z:xs=L++A++[y]++R) (hn:xs.length<1152921504606846976) (W:Srt lt A):∃T,am (λs:(Int×Int)=>c8 xs m p s.1 s.2) (a,m)=some (L++T++R)/\Stb lt (A++[y]) T:=by
 have a6:xs.length=L.length+A.length+1+R.length:=by rw[Z];simp;omega
 have ey:xs[L.length+A.length]?=some y:=by rw[Z];simp
 have a0:m=((L.length+A.length:Nat):Int):=by omega
 obtain⟨s,h1,h2,h3,h4,h5⟩:=Am (F:=λs:(Int×Int)=>c8 xs m p s.1 s.2) (λc=>!gx lt xs (L.length+A.length) c) L.length (L.length+A.length) (λs=>fI xs m (s:Int)) (λlo hi h1 h2 h3=>by
  have hc:(lo+hi)/2<xs.length:=by omega
  have ec:xs[(lo+hi)/2]?=some xs[(lo+hi)/2]:=Z3 hc;obtain⟨c,a5,a2⟩:=hp y xs[(lo+hi)/2];simp only[c8];rw[if_pos (by simp;omega),wE (by omega),wF ey a0,wF ec (by omega),a5,j6,a2,Co ey ec,ah (by omega)];split<;>rfl) (λs h1 h2=>by
  simp only[c8];rw[if_neg (by simp)]) (by omega);obtain⟨k,rfl⟩:∃k,s=L.length+k:=⟨s-L.length,by omega⟩;have hk:k<=A.length:=by omega
 have a3:    ∀a∈A.drop k,lt y a=true:=by
  have:=zq h Z W (by simp[Srt]:Srt lt [y]) k 1 hk (by simp)
   (by rcases h4 with h4|h4;·right;left;omega
       · by_cases hk':k=A.length;·right;left;exact hk'
         ·right;right;refine⟨by omega,by omega,?_⟩;simpa using h4) (Or.inr (Or.inl rfl));intro a J;exact this.1 y (by simp) a J
 have a4:    ∀a∈A.take k,lt y a=false:=by
  have:=zq h Z W (by simp[Srt]:Srt lt [y]) k 0 hk (by simp) (Or.inl rfl)
   (by rcases h3 with h3|h3;·left;omega
       · by_cases hk':k=0;·left;exact hk'
         ·right;right;refine⟨by omega,by simp,?_⟩;rw[show L.length+(k-1)=L.length+k-1 by omega];simpa using h3);intro a J;exact this.2 a J y (by simp)
 refine⟨A.take k++y::A.drop k,?_,?_⟩
 ·rw[J,a0];rw[←a0,←J]at h5⊢;rw[h5];unfold fI;rw[Mr _ y (L++A.take k) (by simp;omega) _ (A.drop k) R m xs rfl (by simp;omega) (by rw[Z];simp) (by omega)];simp
 · have a1:Srt lt (A.take k++A.drop k):=by rw[Zp];exact W
   have:=Stb.cat h (A1:=A.take k) (A2:=A.drop k) (B1:=[y]) (B2:=[]) (R1:=A.take k++[y]) (R2:=A.drop k) (Stb.refl (by
    unfold Srt;rw[X9];refine⟨W.take k,by simp,λa J b hb=>?_⟩;rw[Yc]at hb;subst hb;exact a4 a J)) (by simpa using Stb.refl (W.drop k)) a1 (by simp[Srt]) (λb hb a J=>by
     rw[Yc]at hb;subst hb;exact a3 a J) (by simp);simpa using this
theorem Uv{J:List aa->Int->Int->Int->(aa->aa->Option Int)->Option (List aa)}{xs:List aa}{a m b s mid e:Int}(a0:mid=(a+b)/2) (he:e=mid+m-s) (h0:0<=a) (h1:0<=m) (h2:0<=b) (h3:0<=s) (ha:a<1152921504606846976) (hb:b<1152921504606846976) (hm:m<1152921504606846976) (hs:s<1152921504606846976):dX xs a m b p J s=(if s<m/\m<e then da xs s m e p else some xs).bind λr=>(if a<s/\s<mid then J r a s mid p else some r).bind λh=>(if mid<e/\e<b then J h mid e b p else some h):=by
 have W:Z9.wrap (aV .u64 (X5.wrap (Z9.wrap (a+b))) 1)=mid:=by rw[wE (by omega),a0]
 have hN:Z9.wrap (mid+m)=mid+m:=ah (by omega);have Z:Z9.wrap (mid+m-s)=e:=by rw[ah (by omega),he]
 have a1:∀h,dP a m b p J s h=(if mid<e/\e<b then J h mid e b p else some h):=by
  intro h;simp only[dP,fo,W,hN,Z];by_cases c1:mid<e<;>by_cases c2:e<b<;>simp[c1,c2]
 have h9:∀r,dW a m b p J s r=(if a<s/\s<mid then J r a s mid p else some r).bind λh=>(if mid<e/\e<b then J h mid e b p else some h):=by
  intro r;simp only[dW,fJ,W,a1];by_cases c1:a<s<;>by_cases c2:s<mid<;>simp[c1,c2]
 simp only[dX,fM,W,hN,Z,h9];by_cases c1:s<m<;>by_cases c2:m<e<;>simp[c1,c2]
end
end Go.Proofs.YthbonoagbeilkaaGreat.Hay
