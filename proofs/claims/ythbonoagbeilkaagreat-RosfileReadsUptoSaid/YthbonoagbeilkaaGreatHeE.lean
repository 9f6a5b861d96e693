import Derived.Test.YthbonoagbeilkaaGreatHcT
import Derived.Test.YthbonoagbeilkaaGreatExZb
import Derived.Test.YthbonoagbeilkaaGreatProg
import Derived.Shelf.SlLaysF0
set_option linter.unusedVariables false
set_option linter.unusedSimpArgs false
namespace Go.Proofs.YthbonoagbeilkaaGreat.Hay
noncomputable section
open Option renaming bind_some→j6,map_some→Zr,all_some→Zs,getD_some→Yn
open List renaming getElem?_eq_getElem→zx,length_append→Z0,getElem_mem→Z1,take_of_length_le→Z2,drop_eq_getElem_cons→Z3,range→Z4,drop_of_length_le→Z5,all_eq_true→Z7,take_append_drop→Z8,append_assoc→Zb,map_append→Zc,getElem_of_mem→Zd,getElem?_append_right→Ze,take_length→Zf,pairwise_iff_getElem→Zh,mem_range→Zi,mem_of_mem_drop→Zl,nil_append→Zo,getElem_map→Zp,cons_append→Zt,length_cons→Zu,mem_of_mem_take→Zv,append_nil→Zx,contains_eq_mem→Zy,getElem?_append_left→Zz,getElem_append_right→X3,getElem?_take_of_lt→X4,length_drop→X5,eq_nil_of_length_eq_zero→X6,take_append_of_le_length→X8,range_eq_range'→X9,mem_of_getElem?→Y0,drop_take→Y1,length_take→Y3,flatten_append→Y4,map_congr_left→Y5,drop_zero→Y8,mem_map→Y9,length_eq_one_iff→Ya,getElem_cons_zero→Yb,getElem_cons_succ→Yc,range'_succ→Yd,map_cons→Yf,getElem?_eq_none→Yg,range_succ→Yi,mem_append→Yj,drop_left'→Yk,take_left'→Yl,drop_left→Ym,replicate→Yp,mem_cons→Yr,map_take→Ys
open Nat renaming le_refl→Zw,strongRecOn→Y2,min_eq_left→Ye
open Bool renaming and_eq_true→Za,not_eq_true'→Zg,eq_false_or_eq_true→Zj,or_eq_false_iff→Zk,eq_iff_iff→Zm,and_eq_false_iff→Zq,true_and→X7,not_eq_false'→Y6,or_eq_true→Yh,false_and→Yo,false_or→Yq
open Int renaming eq_ofNat_of_zero_le→Z6,emod_eq_of_lt→Z9,toNat_natCast→Y7
open BitVec renaming ofInt→Yt
open IntKind renaming i64→Zn,u8→Yu,u64→Yv
section
variable{lt:aa->aa->Bool}{p:aa->aa->Option Int}
theorem Uw (h:Swo lt) (hp:Cmp lt p){a2:List aa->Int->Int->Int->(aa->aa->Option Int)->Option (List aa)}{N:Nat}(b3:IK lt p a2 N):IK lt p (d9 a2) (N+1):=by
 intro L A B R a m b xs d2 c5 ha hm hb a4 hN hn hA hB;have e4:xs.length=L.length+A.length+B.length+R.length:=by rw[a4];simp;omega
 simp only[d9];by_cases hA1:A.length=1
 ·rw[ah (n:=m-a) (by omega),if_pos (by simp;omega)];obtain⟨x,rfl⟩:=Ya.1 hA1;exact Oz h hp c5 ha (by simpa using hm) (by simpa using hb) a4 hn hB
 rw[ah (n:=m-a) (by omega),if_neg (by simp;omega)];by_cases hB1:B.length=1
 ·rw[ah (n:=b-m) (by omega),if_pos (by simp;omega)];obtain⟨y,rfl⟩:=Ya.1 hB1;exact Ms h hp d2 ha hm a4 hn hA
 rw[ah (n:=b-m) (by omega),if_neg (by simp;omega)];have hM:Zn.wrap (aV .u64 (Yv.wrap (Zn.wrap (a+b))) 1)=(a+b)/2:=wE (by omega);have b1:Zn.wrap ((a+b)/2+m)=(a+b)/2+m:=ah (by omega);obtain⟨aN,e7⟩:∃n:Nat,n=L.length:=⟨_,rfl⟩;obtain⟨J,e0⟩:∃n:Nat,n=L.length+A.length:=⟨_,rfl⟩;obtain⟨bN,e5⟩:∃n:Nat,n=L.length+A.length+B.length:=⟨_,rfl⟩;have c3:a=(aN:Int):=by omega
 have c4:m=(J:Int):=by omega
 have e3:b=(bN:Int):=by omega
 obtain⟨mid,e8⟩:∃n:Nat,n=(aN+bN)/2:=⟨_,rfl⟩;have b2:(a+b)/2=(mid:Int):=by omega
 rw[b2]at hM b1;have key:∀a0 a1:Nat,aN<=a0->a0<=a1->a1<=J->a1<=mid->(a0=aN\/a0+bN=mid+J)->(a1=J\/a1=mid)->mid+J<=a0+bN->∃T,dZ xs a m b p a2 (a0:Int) (a1:Int)=some (L++T++R)/\Stb lt (A++B) T:=by
  intro a0 a1 q1 q2 q3 q4 q5 q6 q7;obtain⟨s,h1,h2,h3,h4,h5⟩:=Am (F:=λs:(Int×Int)=>dY xs a m b p a2 s.1 s.2) (λc=>!gx lt xs (mid+J-1-c) c) a0 a1 (λs=>dX xs a m b p a2 (s:Int)) (λlo hi g1 g2 g3=>by
   have hc:(lo+hi)/2<xs.length:=by omega
   have hd:mid+J-1-(lo+hi)/2<xs.length:=by omega
   have ec:xs[(lo+hi)/2]?=some xs[(lo+hi)/2]:=zx hc;have ed:xs[mid+J-1-(lo+hi)/2]?=some xs[mid+J-1-(lo+hi)/2]:=zx hd;obtain⟨c,c7,b6⟩:=hp xs[mid+J-1-(lo+hi)/2] xs[(lo+hi)/2];simp only[dY];rw[if_pos (by simp;omega),hM,wE (by omega),b1,ah (n:=(mid:Int)+m-1) (by omega),ah (n:=(mid:Int)+m-1-((lo:Int)+hi)/2) (by omega),wF ed (by omega),wF ec (by omega),c7,j6,b6,Co ed ec,ah (by omega)];split<;>rfl) (λs g1 g2=>by
   simp only[dY];rw[if_neg (by simp)]) q2;unfold dZ;rw[h5,Uv (mid:=(mid:Int)) (e:=((mid+J-s:Nat):Int)) b2.symm (by omega) (by omega) (by omega) (by omega) (by omega) (by omega) (by omega) (by omega) (by omega)];obtain⟨k1,b7⟩:∃k,s=L.length+k:=⟨s-L.length,by omega⟩;obtain⟨k2,e6⟩:∃k,mid+J-s=L.length+A.length+k:=⟨mid+J-s-(L.length+A.length),by omega⟩;have d0:k1<=A.length:=by omega
  have c0:k2<=B.length:=by omega
  obtain⟨c1,c2⟩:=zq h a4 hA hB k1 k2 d0 c0
   (by rcases h4 with h4|h4
       · rcases q6 with q6|q6;·right;left;omega
         ·left;omega
       · by_cases W:k2=0;·left;exact W
         by_cases e2:k1=A.length;·right;left;exact e2
         right;right;refine⟨by omega,by omega,?_⟩;rw[show L.length+A.length+(k2-1)=mid+J-1-s by omega,←b7];simpa using h4)
   (by rcases h3 with h3|h3
       · rcases q5 with q5|q5;·left;omega
         ·right;left;omega
       · by_cases W:k1=0;·left;exact W
         by_cases e2:k2=B.length;·right;left;exact e2
         right;right;refine⟨by omega,by omega,?_⟩;rw[show L.length+A.length+k2=mid+J-1-(s-1)by omega,show L.length+(k1-1)=s-1 by omega];simpa using h3);have eA:A.take k1++A.drop k1=A:=Z8 _ _;have eB:B.take k2++B.drop k2=B:=Z8 _ _;have a6:(A.take k1).length=k1:=by simp;omega
  have a3:(A.drop k1).length=A.length-k1:=by simp
  have a5:(B.take k2).length=k2:=by simp;omega
  have b0:(B.drop k2).length=B.length-k2:=by simp
  have b4:xs=L++A.take k1++A.drop k1++B.take k2++(B.drop k2++R):=by
   rw[a4];conv=>lhs;rw[←eA,←eB]
   simp only[Zb]
  have d1:(if (s:Int)<m/\m<((mid+J-s:Nat):Int)then da xs s m ((mid+J-s:Nat):Int) p else some xs)=some (L++A.take k1++B.take k2++(A.drop k1++B.drop k2++R)):=by
   split
   ·rename_i hc;rw[P2 (A:=L++A.take k1) (X:=A.drop k1) (Y:=B.take k2) (C:=B.drop k2++R) (by rw[a3];omega) (by rw[a5];omega) (by rw[Z0,a6];omega) (by rw[a3];omega) (by rw[a5];omega) b4 (by omega)];simp
   · rename_i hc;rw[b4];by_cases W:k1=A.length
     ·have:A.drop k1=[]:=Z5 (by omega);rw[this];simp only[Zb,Zo,Zx]
     · have e2:k2=0:=by omega
       have:B.take k2=[]:=by rw[e2];rfl
       rw[this];simp only[Zb,Zo,Zx]
  rw[d1,j6];have c6:∃Z,(if a<(s:Int)/\(s:Int)<(mid:Int)then a2 (L++A.take k1++B.take k2++(A.drop k1++B.drop k2++R)) a s mid p else some (L++A.take k1++B.take k2++(A.drop k1++B.drop k2++R)))=some (L++Z++(A.drop k1++B.drop k2++R))/\Stb lt (A.take k1++B.take k2) Z:=by
   split
   ·rename_i hc;exact b3 L (A.take k1) (B.take k2) _ a s mid _ (by omega) (by omega) ha (by rw[a6];omega) (by rw[a6,a5];omega) rfl (by omega) (by simp only[Z0,a6,a5,a3,b0];omega) (hA.take _) (hB.take _)
   · rename_i hc;refine⟨A.take k1++B.take k2,by simp,Stb.refl ?_⟩;by_cases W:k1=0;·rw[W];simpa using hB.take k2
     · have e2:k2=0:=by omega
       rw[e2];simpa using hA.take k1
  obtain⟨Z,W,s1⟩:=c6;rw[W,j6];have a9:Z.length=k1+k2:=by rw[s1.len h,Z0,a6,a5]
  have b5:∃T2,(if (mid:Int)<((mid+J-s:Nat):Int)/\((mid+J-s:Nat):Int)<b then a2 (L++Z++(A.drop k1++B.drop k2++R)) mid ((mid+J-s:Nat):Int) b p else some (L++Z++(A.drop k1++B.drop k2++R)))=some (L++Z++T2++R)/\Stb lt (A.drop k1++B.drop k2) T2:=by
   split
   ·rename_i hc;exact b3 (L++Z) (A.drop k1) (B.drop k2) R mid _ b _ (by omega) (by omega) (by rw[Z0,a9];omega) (by rw[Z0,a9,a3];omega) (by rw[Z0,a9,a3,b0];omega) (by simp) (by omega) (by simp only[Z0,a3,b0,a9];omega) (hA.drop _) (hB.drop _)
   · rename_i hc;refine⟨A.drop k1++B.drop k2,by simp,Stb.refl ?_⟩;by_cases W:k1=A.length;·rw[W];simpa using hB.drop k2
     · have e2:k2=B.length:=by omega
       rw[e2];simpa using hA.drop k1
  obtain⟨T2,e2,s2⟩:=b5;rw[e2];refine⟨Z++T2,by simp,?_⟩;have:=Stb.cat h s1 s2 (by rw[eA];exact hA) (by rw[eB];exact hB) c1 c2;rw[eA,eB]at this;exact this
 rw[hM];by_cases hmm:mid<J
 ·rw[if_pos (by simp;omega),b1,ah (by omega)];have:=key (mid+J-bN) mid (by omega) (by omega) (by omega) (by omega) (Or.inr (by omega)) (Or.inr rfl) (by omega);rw[show((mid+J-bN:Nat):Int)=(mid:Int)+m-b by omega]at this;exact this
 ·rw[if_neg (by simp;omega)];have:=key aN J (by omega) (by omega) (by omega) (by omega) (Or.inl rfl) (Or.inl rfl) (by omega);rw[←c3,←c4]at this;exact this
theorem Ux (h:Swo lt)(J:Cmp lt p):∀n,IK lt p (dh n) n:=by
 intro n;induction n with
 |zero=>intro L A B R a m b xs hA W _ _ _ _ Z;omega|succ n ih=>exact Uw h J ih
theorem Ka (h:Swo lt)(W:Cmp lt p){L A B R xs:List aa}{a m b:Int}(a1:0<A.length)(a0:0<B.length)(ha:a=(L.length:Int))(hm:m=(L.length:Int)+A.length)(Z:b=(L.length:Int)+A.length+B.length)(J:xs=L++A++B++R) (hn:xs.length<1152921504606846976) (hA:Srt lt A) (hB:Srt lt B):∃T,dD xs a m b p=some (L++T++R)/\Stb lt (A++B) T:=by unfold dD;exact Ux h W _ L A B R a m b xs a1 a0 ha hm Z J (by rw[J];simp;omega) hn hA hB
end
inductive Bls{O:Type}(lt:O->O->Bool)(k:Nat):List O->List O->Prop|last{l l':List O}(h:l.length<=k) (s:Stb lt l l'):Bls lt k l l'|more{l l' t t':List O}(h:l.length=k) (s:Stb lt l l') (ht:Bls lt k t t'):Bls lt k (l++t) (l'++t')
section
variable{O:Type}{lt:O->O->Bool}
theorem Stb.nil:Stb lt ([]:List O) []:=⟨List.Pairwise.nil,λ_=>rfl⟩
theorem Bls.len (h:Swo lt){k:Nat}{l J:List O}(W:Bls lt k l J):J.length=l.length:=by induction W with
 |last _ s=>exact s.len h|more _ s _ ih=>rw[Z0,Z0,s.len h,ih]
theorem Bls.done (h:Swo lt){k:Nat}(Z:0<k){l J:List O}(W:Bls lt k l J)(hl:l.length<=k):Stb lt l J:=by cases W with
 |last _ s=>exact s|@more l J t t' h1 s ht=>rw[Z0]at hl;have:t=[]:=X6 (by omega);subst this;have:t'=[]:=X6 (by rw[ht.len h];rfl);subst this;simpa using s
theorem Bls.split (h:Swo lt){k:Nat}{l J:List O}(Z:Bls lt k l J)(hl:k<=l.length):∃l1 l2 l1' l2',l=l1++l2/\J=l1'++l2'/\l1.length=k/\Stb lt l1 l1'/\Bls lt k l2 l2':=by cases Z with
 |last W s=>exact⟨l,[],J,[],by simp,by simp,by omega,s,.last (by simp) Stb.nil⟩|@more l J t t' W s ht=>exact⟨l,t,J,t',rfl,rfl,W,s,ht⟩
end
section
variable{lt:aa->aa->Bool}{p:aa->aa->Option Int}
theorem Uy (h:Swo lt)(hp:Cmp lt p)(n:Int)(hn:n<1152921504606846976):∀(k:Nat) (X D:List aa) (a:Int) (xs:List aa),X.length=k->a=(D.length:Int)->n=(D.length:Int)+X.length->xs=D++X->∃W,Bls lt 20 X W/\am (λs:(Int×Int×List aa)=>b8 n p s.1 s.2.1 s.2.2) (a,a+20,xs)=am (λs:(Int×List aa)=>bA n p s.1 s.2) (20,D++W):=by
 intro k;induction k using Y2 with|_ k ih=>
  intro X D a xs hk ha hN a0;by_cases hX:20<=X.length
  ·have e:X=X.take 20++X.drop 20:=(Z8 _ _).symm;obtain⟨T,Z,J⟩:=J9 h hp D (X.take 20) (X.drop 20) (a:=a) (b:=a+20) (xs:=xs) ha (by simp;omega) (by omega) (by rw[a0];simp);have a2:=J.len h;rw[Y3]at a2;have a1:b8 n p a (a+20) xs=some (.inl (a+20,a+20+20,(D++T)++X.drop 20)):=by simp only[b8];rw[if_pos (by simp;omega),Z,j6,ah (by omega)]
   obtain⟨W,h3,h4⟩:=ih (X.length-20) (by omega) (X.drop 20) (D++T) (a+20) _ (by simp) (by rw[Z0];omega) (by rw[Z0,X5];omega) rfl;refine⟨T++W,?_,?_⟩
   ·have:=Bls.more (by rw[Y3];omega) J h3;rw[←e]at this;exact this
   ·rw[bI a1,h4,Zb]
  ·obtain⟨T,Z,J⟩:=J9 h hp D X [] (a:=a) (b:=n) (xs:=xs) ha hN (by omega) (by rw[a0];simp);refine⟨T,.last (by omega) J,?_⟩;rw[nt];have:b8 n p a (a+20) xs=(am (λs:(Int×List aa)=>bA n p s.1 s.2) (20,D++T)).map Sum.inr:=by simp only[b8,jT];rw[if_neg (by simp;omega),Z,j6,Zx]
   simp only[this];cases am (λs:(Int×List aa)=>bA n p s.1 s.2) (20,D++T)<;>rfl
theorem Uz (h:Swo lt)(hp:Cmp lt p)(n:Int)(hn:n<288230376151711744)(J:Nat)(h0:0<J)(b7:(J:Int)<n):∀(k:Nat) (X0 X D:List aa) (a b:Int) (xs:List aa),X.length=k->a=(D.length:Int)->b=a+2*J->n=(D.length:Int)+X.length->xs=D++X->Bls lt J X0 X->∃X',Bls lt (2*J) X0 X'/\am (λs:(Int×Int×List aa)=>cE n p J s.1 s.2.1 s.2.2) (a,b,xs)=some (.inl (((2*J:Nat):Int),D++X')):=by
 intro k;induction k using Y2 with|_ k ih=>
  intro X0 X D a b xs hk ha hb hN a4 a5;have hl:=a5.len h;have b1:xs.length<1152921504606846976:=by rw[a4,Z0];omega
  by_cases hX:2*J<=X.length
  ·obtain⟨l1,l2,Z,a1,e1,a0,a6,W,a2⟩:=a5.split h (by omega);have b4:=a2.len h;have q1:Z.length=J:=by rw[W.len h,a6]
   have q2:X.length=Z.length+a1.length:=by rw[a0,Z0]
   obtain⟨l3,l4,a9,a3,e2,b0,b5,s3,b6⟩:=a2.split h (by omega);have q3:a9.length=J:=by rw[s3.len h,b5]
   have q4:a1.length=a9.length+a3.length:=by rw[b0,Z0]
   obtain⟨T,h1,h2⟩:=Ka h hp (L:=D) (A:=Z) (B:=a9) (R:=a3) (a:=a) (m:=a+J) (b:=b) (xs:=xs) (by omega) (by omega) ha (by omega) (by omega) (by rw[a4,a0,b0];simp) b1 W.srt s3.srt;have b2:=h2.len h;rw[Z0]at b2;have b3:cE n p J a b xs=some (.inl (b,b+2*J,(D++T)++a3)):=by simp only[cE];rw[if_pos (by simp;omega),ah (n:=a+J) (by omega),h1,j6,ah (n:=2*(J:Int)) (by omega),ah (by omega)]
   obtain⟨X',h3,h4⟩:=ih a3.length (by omega) l4 a3 (D++T) b (b+2*J) _ rfl (by rw[Z0];omega) rfl (by rw[Z0];omega) rfl b6;refine⟨T++X',?_,?_⟩
   ·rw[e1,e2,←Zb];exact Bls.more (by rw[Z0];omega) (h2.trans λc=>by simp[W.flt,s3.flt]) h3
   ·rw[bI b3,h4,Zb]
  ·by_cases hX2:J<X.length
   ·obtain⟨l1,l2,Z,a1,e1,a0,a6,W,a2⟩:=a5.split h (by omega);have b4:=a2.len h;have q1:Z.length=J:=by rw[W.len h,a6]
    have q2:X.length=Z.length+a1.length:=by rw[a0,Z0]
    have s2:=a2.done h h0 (by omega);obtain⟨T,h1,h2⟩:=Ka h hp (L:=D) (A:=Z) (B:=a1) (R:=[]) (a:=a) (m:=a+J) (b:=n) (xs:=xs) (by omega) (by omega) ha (by omega) (by omega) (by rw[a4,a0];simp) b1 W.srt s2.srt;refine⟨T,.last (by omega) ?_,?_⟩
    ·rw[e1];exact h2.trans λc=>by simp[W.flt,s2.flt]
    ·apply aR;simp only[cE,gv,eC];rw[if_neg (by simp;omega),ah (n:=a+J) (by omega),if_pos (by simp;omega),h1,j6,ah (by omega)];simp[Int.mul_comm]
   ·refine⟨X,.last (by omega) (a5.done h h0 (by omega)),?_⟩;apply aR;simp only[cE,gv,eC];rw[if_neg (by simp;omega),ah (n:=a+J) (by omega),if_neg (by simp;omega),ah (by omega),a4];simp[Int.mul_comm]
theorem UA (h:Swo lt)(hp:Cmp lt p)(n:Int)(hn:n<288230376151711744)(W:List aa)(a2:n=(W.length:Int)):∀(k J:Nat) (X:List aa),(W.length-J)=k->0<J->Bls lt J W X->∃Z,am (λs:(Int×List aa)=>bA n p s.1 s.2) ((J:Int),X)=some Z/\Stb lt W Z:=by
 intro k;induction k using Y2 with|_ k ih=>
  intro J X hk h0 a0;have hl:=a0.len h;by_cases hb:(J:Int)<n
  ·obtain⟨Z,h1,h2⟩:=Uz h hp n hn J h0 hb X.length W X [] 0 (2*J) X rfl rfl (by simp) (by simp;omega) (by simp) a0;have a1:bA n p J X=some (.inl (((2*J:Nat):Int),Z)):=by simp only[bA];rw[if_pos (by simp;omega),ah (by omega),h2,Zo]
   obtain⟨X2,h3,h4⟩:=ih (W.length-2*J) (by omega) (2*J) Z rfl (by omega) h1;exact⟨X2,by rw[bI a1];exact h3,h4⟩
  ·refine⟨X,?_,a0.done h h0 (by omega)⟩;apply aR;simp only[bA];rw[if_neg (by simp;omega)];rfl
theorem Kb (h:Swo lt)(Z:Cmp lt p)(X:List aa)(hn:X.length<288230376151711744):∃X',dL X p=some X'/\Stb lt X X':=by
 obtain⟨X1,h1,J⟩:=Uy h Z (X.length:Int) (by omega) X.length X [] 0 X rfl rfl (by simp) rfl;obtain⟨X2,W,h4⟩:=UA h Z (X.length:Int) (by omega) X rfl _ 20 X1 rfl (by omega) h1;refine⟨X2,?_,h4⟩;unfold dL iu;have J:am (λs:(Int×Int×List aa)=>b8 (X.length:Int) p s.1 s.2.1 s.2.2) (0,20,X)=_:=J;rw[J,Zo];have W:am (λs:(Int×List aa)=>bA (X.length:Int) p s.1 s.2) (20,X1)=_:=W;rw[W];rfl
end
theorem fd{σ β:Type}{f:σ->Option (σ⊕β)}{s:σ}{b:Option β}(S:Nat->σ)(n:Nat)(W:s=S 0)(step:∀i,i<n->f (S i)=some (.inl (S (i+1))))(J:f (S n)=b.map Sum.inr):am f s=b:=by
 have key:∀i,i<=n->am f s=am f (S i):=by
  intro i;induction i with
  |zero=>intro _;rw[W]|succ i ih=>intro h;rw[ih (by omega),bI (step i (by omega))]
 rw[key n (Zw n),nt,J];cases b<;>rfl
section
variable{O β:Type}
theorem Swo.comap{lt:O->O->Bool}(h:Swo lt)(f:β->O):Swo λa b=>lt (f a) (f b):=⟨λa=>h.irr _,λa b c=>h.tr _ _ _,λa b c=>h.inc _ _ _⟩
def oX (h J:O->O->Bool)(a b:O):Bool:=h a b||(!h b a&&J a b)
theorem Swo.lex{Z l2:O->O->Bool}(W:Swo Z)(h2:Swo l2):Swo (oX Z l2):=by
 refine⟨λa=>by simp[oX,W.irr,h2.irr],λa b c h J=>?_,λa b c h J=>?_⟩
 ·simp only[oX,Yh,Za,Zg]at*;rcases h with h|⟨a1,h⟩<;>rcases J with J|⟨a0,J⟩;·exact Or.inl (W.tr _ _ _ h J)
  ·left;cases hac:Z a c with
   |true=>rfl|false=>rw[W.inc a c b hac a0]at h;cases h
  ·left;cases hac:Z a c with
   |true=>rfl|false=>rw[W.inc b a c a1 hac]at J;cases J
  ·exact Or.inr ⟨W.inc c b a a0 a1,h2.tr _ _ _ h J⟩
 ·simp only[oX,Zk,Zq,Y6]at*;refine⟨W.inc _ _ _ h.1 J.1,?_⟩;rcases h.2 with h3|h3
  ·left;cases hca:Z c a with
   |true=>rfl|false=>rw[W.inc b c a J.1 hca]at h3;cases h3
  ·rcases J.2 with h4|h4
   ·left;cases hca:Z c a with
    |true=>rfl|false=>rw[W.inc c a b hca h.1]at h4;cases h4
   ·right;exact h2.inc _ _ _ h3 h4
def lexL (lt:O->O->Bool):List O->List O->Bool
 |_,[]=>false|[],_::_=>true|a::x,b::y=>lt a b||(!lt b a&&lexL lt x y)
theorem Swo.lexL{lt:O->O->Bool}(h:Swo lt):Swo (lexL lt):=by
 refine⟨?_,?_,?_⟩
 ·intro a;induction a with
  |nil=>rfl|cons a x ih=>simp[Hay.lexL,h.irr,ih]
 ·intro a;induction a with
  |nil=>intro b c W J;cases c with
   |nil=>cases b<;>simp[Hay.lexL]at J|cons c z=>rfl
  |cons a x ih=>intro b c W J;cases b with
   |nil=>simp[Hay.lexL]at W|cons b y=>cases c with
    |nil=>simp[Hay.lexL]at J|cons c z=>
     simp only[Hay.lexL,Yh,Za,Zg]at*;rcases W with W|⟨Z,W⟩<;>rcases J with J|⟨a0,J⟩;·exact Or.inl (h.tr _ _ _ W J)
     ·left;cases hac:lt a c with
      |true=>rfl|false=>rw[h.inc a c b hac a0]at W;cases W
     ·left;cases hac:lt a c with
      |true=>rfl|false=>rw[h.inc b a c Z hac]at J;cases J
     ·exact Or.inr ⟨h.inc c b a a0 Z,ih _ _ W J⟩
 ·intro a;induction a with
  |nil=>intro b c W J;cases b with
   |nil=>exact J|cons b y=>simp[Hay.lexL]at W
  |cons a x ih=>intro b c W J;cases c with
   |nil=>rfl|cons c z=>cases b with
    |nil=>simp[Hay.lexL]at J|cons b y=>
     simp only[Hay.lexL,Zk,Zq,Y6]at*;refine⟨h.inc _ _ _ W.1 J.1,?_⟩;rcases W.2 with h3|h3
     ·left;cases hca:lt c a with
      |true=>rfl|false=>rw[h.inc b c a J.1 hca]at h3;cases h3
     ·rcases J.2 with h4|h4
      ·left;cases hca:lt c a with
       |true=>rfl|false=>rw[h.inc c a b hca W.1]at h4;cases h4
      ·right;exact ih _ _ h3 h4
theorem XC:Swo λa b:Int=>decide (a<b):=⟨λa=>by simp,λa b c h J=>by simp at*;omega,λa b c h J=>by simp at*;omega⟩
theorem Ao:∀s u:List Int,ltB s u=lexL (λa b:Int=>decide (a<b)) s u
 |s,[]=>by cases s<;>rfl|[],_::_=>rfl|a::x,b::y=>by
  simp only[ltB,lexL,Ao x y];by_cases h1:a<b;·simp[h1]
  ·by_cases h2:b<a
   ·have:a≠b:=by omega
    simp[h1,h2,this]
   ·have:a=b:=by omega
    simp[this]
theorem XD:Swo ltB:=by have h:=XC.lexL;exact⟨λa=>by rw[Ao];exact h.irr a,λa b c=>by simp only[Ao];exact h.tr a b c,λa b c=>by simp only[Ao];exact h.inc a b c⟩
def sgn (lt:O->O->Bool)(a b:O):Int:=if lt a b then-1 else if lt b a then 1 else 0
theorem Cp{lt:O->O->Bool}{a b:O}:decide (sgn lt a b<0)=lt a b:=by
 unfold sgn;cases lt a b;·cases lt b a<;>simp
 ·simp
theorem xT{h J:O->O->Bool}(W:Swo h){a b:O}:sgn (oX h J) a b=if sgn h a b≠0 then sgn h a b else sgn J a b:=by
 unfold sgn oX;cases e1:h a b
 ·cases e2:h b a;·simp
  ·simp
 ·simp
theorem Ga{lt:O->O->Bool}(h:Swo lt){a b:O}{x y:List O}:sgn (lexL lt) (a::x) (b::y)=if sgn lt a b≠0 then sgn lt a b else sgn (lexL lt) x y:=by
 by_cases e1:lt a b=true;·simp[sgn,lexL,e1]
 ·by_cases e2:lt b a=true;·simp[sgn,lexL,e1,e2]
  ·simp[sgn,lexL,e1,e2]
end
def vk2 (v:Ap):Int:=if v.fKind=1 then (if v.fBool then 1 else 0)else if v.fKind=2 then v.fInt else 0
def vk3 (v:Ap):List Int:=if v.fKind=3 then v.fText else[]
def vlt:Ap->Ap->Bool:=oX (λa b=>decide (a.fKind<b.fKind)) (oX (λa b=>decide (vk2 a<vk2 b)) (λa b=>ltB (vk3 a) (vk3 b)))
theorem HD:Swo vlt:=(XC.comap λv:Ap=>v.fKind).lex ((XC.comap vk2).lex (XD.comap vk3))
theorem Gb (a b:Ap):rF a b=some (vlt a b):=by
 unfold rF vlt oX;by_cases hk:a.fKind=b.fKind
 ·rw[if_neg (by simp[hk])];by_cases h1:b.fKind=1
  ·simp only[lM,vk2,vk3,hk,h1];cases ha:a.fBool<;>cases hb:b.fBool<;>simp[ltB]
  ·by_cases h2:b.fKind=2
   ·simp only[lM,vk2,vk3,hk,h2];simp[ltB]
   ·by_cases h3:b.fKind=3
    ·simp only[lM,qO,vk2,vk3,hk,h3];simp
    ·simp only[lM,qO,vk2,vk3,hk];simp[h1,h2,h3,ltB]
 ·rw[if_pos (by simp[hk])];by_cases hl:a.fKind<b.fKind;·simp[hl]
  ·have:b.fKind<a.fKind:=by omega
   simp[hl,this]
theorem Eo (a b:Ap):jn a b=some (sgn vlt a b):=by unfold jn sgn;rw[Gb,Gb,j6,j6];cases vlt a b<;>cases vlt b a<;>rfl
theorem M8 (a b:Int):iZ a b=some (sgn (λa b:Int=>decide (a<b)) a b):=by
 simp only[iZ,mc,sgn,j6,bne_self_eq_false];by_cases h1:a<b<;>by_cases h2:b<a<;>simp[h1,h2]
theorem OA (a b:Int):jh a b=some (sgn (λa b:Int=>decide (a<b)) a b):=by
 simp only[jh,kp,sgn,j6,bne_self_eq_false];by_cases h1:a<b<;>by_cases h2:b<a<;>simp[h1,h2]
theorem UB (a b:Int):kt a b=some (sgn (λa b:Int=>decide (a<b)) a b):=by
 simp only[kt,lQ,sgn,j6,bne_self_eq_false];by_cases h1:a<b<;>by_cases h2:b<a<;>simp[h1,h2]
theorem UC (a b:Int):ku a b=some (sgn (λa b:Int=>decide (a<b)) a b):=by
 simp only[ku,lR,sgn,j6,bne_self_eq_false];by_cases h1:a<b<;>by_cases h2:b<a<;>simp[h1,h2]
theorem Ep (a b:Ap):cy a b=some (sgn vlt a b):=by
 unfold cy vlt;rw[xT (XC.comap λv:Ap=>v.fKind),xT (XC.comap vk2)];by_cases hk:a.fKind=b.fKind
 ·rw[if_neg (by simp[hk])];have e0:sgn (λa b:Ap=>decide (a.fKind<b.fKind)) a b=0:=by simp[sgn,hk]
  rw[e0];simp only[ne_eq,not_true_eq_false,if_false];by_cases h1:b.fKind=1
  ·simp only[fV,vk2,vk3,hk,h1,sgn];cases ha:a.fBool<;>cases hb:b.fBool<;>simp[ltB]
  ·by_cases h2:b.fKind=2
   ·have ka:a.fKind=2:=hk.trans h2;have W:vk2 a=a.fInt:=by simp[vk2,ka]
    have h:vk2 b=b.fInt:=by simp[vk2,h2]
    have Z:vk3 a=[]:=by simp[vk3,ka]
    have J:vk3 b=[]:=by simp[vk3,h2]
    rw[if_neg (by simp[ka]),fV,if_neg (by simp),if_pos (by simp[ka]),OA];simp only[sgn,W,h,Z,J,ltB];by_cases q1:a.fInt<b.fInt<;>by_cases q2:b.fInt<a.fInt<;>simp[q1,q2]
   ·by_cases h3:b.fKind=3
    ·have ka:a.fKind=3:=hk.trans h3;have W:vk2 a=0:=by simp[vk2,ka]
     have h:vk2 b=0:=by simp[vk2,h3]
     have Z:vk3 a=a.fText:=by simp[vk3,ka]
     have J:vk3 b=b.fText:=by simp[vk3,h3]
     rw[if_neg (by simp[ka]),fV,if_neg (by simp),if_neg (by simp[ka]),if_pos (by simp[ka]),mX,eR,j6,j6,vt];simp only[sgn,W,h,Z,J];simp
    ·have ka:a.fKind≠1/\a.fKind≠2/\a.fKind≠3:=by rw[hk];exact⟨h1,h2,h3⟩
     have W:vk2 a=0:=by simp[vk2,ka]
     have h:vk2 b=0:=by simp[vk2,h1,h2]
     have Z:vk3 a=[]:=by simp[vk3,ka]
     have J:vk3 b=[]:=by simp[vk3,h3]
     rw[if_neg (by simp[ka]),fV,if_neg (by simp),if_neg (by simp[ka]),if_neg (by simp[ka])];simp only[sgn,W,h,Z,J,ltB];simp
 ·rw[if_pos (by simp[hk]),M8,j6];have:sgn (λa b:Ap=>decide (a.fKind<b.fKind)) a b≠0:=by
   unfold sgn;by_cases hl:a.fKind<b.fKind;·simp[hl]
   ·have:b.fKind<a.fKind:=by omega
    simp[hl,this]
  rw[if_pos this];rfl
def rlt:List Ap->List Ap->Bool:=lexL vlt
theorem XE:Swo rlt:=HD.lexL
theorem xU{s t:List Ap}(hs:s.length<4611686018427387904)(ht:t.length<4611686018427387904):oy s t=some (sgn rlt s t):=by
 unfold oy;refine nI (λi=>∃k:Nat,i=(k:Int)/\k<=s.length/\k<=t.length/\sgn rlt (s.drop k) (t.drop k)=sgn rlt s t) (λi=>s.length-i.toNat) ?_ ⟨0,rfl,by simp,by simp,by simp⟩;rintro i⟨k,rfl,h1,h2,h⟩;simp only[yh];by_cases hk:k<s.length/\k<t.length
 ·obtain⟨J,W⟩:=hk;rw[if_pos (by split<;>simp<;>omega),au J,j6,au W,j6,Ep,j6];rw[Z3 J,Z3 W,rlt,Ga HD]at h;by_cases hc:sgn vlt s[k] t[k]=0
  ·left;rw[if_neg (by simp[hc])];refine⟨_,rfl,⟨k+1,by rw[ah (by omega)];rfl,by omega,by omega,?_⟩,?_⟩;·rw[if_neg (by simp[hc])]at h;exact h
   ·rw[ah (by omega)];omega
  ·right;rw[if_pos (by simp[hc])];rw[if_pos hc]at h;rw[h];rfl
 ·right;rw[if_neg (by split<;>simp<;>omega),yg,M8,j6,←h];have key:∀(x y:List Ap),(x=[]\/y=[])->sgn rlt x y=sgn (λa b:Int=>decide (a<b)) (x.length:Int) (y.length:Int):=by
   intro x y a0;rcases a0 with rfl|rfl;·cases y<;>simp[sgn,rlt,lexL]<;>omega
   ·cases x<;>simp[sgn,rlt,lexL]<;>omega
  rw[key]
  ·have Z:((s.length:Int)<t.length)↔(((s.length-k:Nat):Int)<((t.length-k:Nat):Int)):=by omega
   have e2:((t.length:Int)<s.length)↔(((t.length-k:Nat):Int)<((s.length-k:Nat):Int)):=by omega
   simp only[sgn,X5,decide_eq_true_eq,Z,e2,Zr]
  ·by_cases q:k<s.length;·right;exact Z5 (by omega)
   ·left;exact Z5 (by omega)
theorem Cq{s t:List Ap}(Z:s.length<4611686018427387904)(ht:t.length<4611686018427387904):tO s t=some (sgn rlt s t):=by
 unfold tO;refine nI (λi=>∃k:Nat,i=(k:Int)/\k<=s.length/\k<=t.length/\sgn rlt (s.drop k) (t.drop k)=sgn rlt s t) (λi=>s.length-i.toNat) ?_ ⟨0,rfl,by simp,by simp,by simp⟩;rintro i⟨k,rfl,W,J,h⟩;simp only[B4];by_cases hk1:k<s.length
 ·rw[if_pos (by simp;omega)];by_cases hk2:k<t.length
  ·rw[if_neg (by simp;omega),au hk1,j6,au hk2,j6,Eo,j6];rw[Z3 hk1,Z3 hk2,rlt,Ga HD]at h;by_cases hc:sgn vlt s[k] t[k]=0
   ·left;rw[if_neg (by simp[hc])];refine⟨_,rfl,⟨k+1,by rw[ah (by omega)];rfl,by omega,by omega,?_⟩,?_⟩;·rw[if_neg (by simp[hc])]at h;exact h
    ·rw[ah (by omega)];omega
   ·right;rw[if_pos (by simp[hc])];rw[if_pos hc]at h;rw[h];rfl
  ·right;have:k=t.length:=by omega
   rw[if_pos (by simp;omega),←h,this,List.drop_length,Z3 (by omega)];simp[sgn,rlt,lexL]
 ·right;rw[if_neg (by simp;omega),←h,Z5 (by omega:s.length<=k),B3];by_cases hk2:k<t.length
  ·rw[if_pos (by simp;omega),Z3 hk2];simp[sgn,rlt,lexL]
  ·rw[if_neg (by simp;omega),Z5 (by omega:t.length<=k)];simp[sgn,rlt,lexL]
def dx (cs:List Int)(row:List Ap):List Ap:=cs.map λc=>if 0<=c/\c<(row.length:Int)then row.getD c.toNat Ap.zero else Ap.zero
theorem nO (cs:List Int)(row:List Ap):(dx cs row).length=cs.length:=by simp[dx]
theorem Cr{O:Type}{xs:List O}{i:Int}(d:O)(h:0<=i/\i<(xs.length:Int)):idx xs i=some (xs.getD i.toNat d):=by
 obtain⟨n,rfl⟩:=Z6 h.1;have J:n<xs.length:=by omega
 rw[au J];simp[J]
theorem Gc{f:List Ap×Int->Option ((List Ap×Int)⊕List Ap)}{cs:List Int}{row:List Ap}{g:Int->Ap}(step:∀(i:Nat) (l:List Ap) (h:i<cs.length),l.length=i->f (l,(i:Int))=some (.inl (l++[g cs[i]],((i+1:Nat):Int)))) (J:∀l,f (l,(cs.length:Int))=some (.inr l)):am f ([],0)=some (cs.map g):=by
 refine fd (λi=>((cs.take i).map g,(i:Int))) cs.length (by simp) (λi hi=>?_) ?_
 ·show f ((cs.take i).map g,(i:Int))=_;have e:(cs.take (i+1)).map g=(cs.take i).map g++[g cs[i]]:=by rw[List.take_add_one,zx hi,Zc];rfl
  rw[step i _ hi (by simp;omega),e]
 ·show f ((cs.take cs.length).map g,(cs.length:Int))=_;rw[J,Zf];rfl
theorem Cs{cs:List Int}{row:List Ap}(J:cs.length<=3518437208883):kQ cs row=some (dx cs row):=by
 unfold kQ dx;refine Gc (row:=row) (λi l hi hl=>?_) (λl=>?_)
 ·simp only[rN];rw[if_pos (by simpa using hi),au hi,j6,lI,j6];have h:∀x,ov l (i:Int) x=some (.inl (l++[x],((i+1:Nat):Int))):=by
   intro x;unfold ov;rw[aD (by simp;omega),j6,ah (by omega)];rfl
  by_cases h0:0<=cs[i]
  ·rw[if_pos (by simp[h0])];unfold ox;by_cases h1:cs[i]<(row.length:Int);·rw[if_pos (by simp[h1]),Cr Ap.zero ⟨h0,h1⟩,j6,h,if_pos ⟨h0,h1⟩]
   ·rw[if_neg (by simp;omega),h,if_neg (by omega)];rfl
  ·rw[if_neg (by simp;omega)];unfold ox;rw[if_neg (by simp),h,if_neg (by omega)];rfl
 ·simp only[rN];rw[if_neg (by simp)];rfl
theorem zr{cs:List Int}{row:List Ap}(J:cs.length<=3518437208883):qW cs row=some (dx cs row):=by
 unfold qW dx;refine Gc (row:=row) (λi l hi hl=>?_) (λl=>?_)
 ·simp only[za];rw[if_pos (by simpa using hi),au hi,j6];have h:∀x,u6 l (i:Int) x=some (.inl (l++[x],((i+1:Nat):Int))):=by
   intro x;unfold u6;rw[aD (by simp;omega),j6,ah (by omega)];rfl
  by_cases h0:0<=cs[i]
  ·rw[if_pos (by simp[h0]),j6];unfold u7;by_cases h1:cs[i]<(row.length:Int);·rw[if_pos (by simp[h1]),au hi,j6,Cr Ap.zero ⟨h0,h1⟩,j6,h,if_pos ⟨h0,h1⟩]
   ·rw[if_neg (by simp;omega),h,if_neg (by omega)];rfl
  ·rw[if_neg (by simp;omega)];unfold u7;rw[if_neg (by simp),h,if_neg (by omega)];rfl
 ·simp only[za];rw[if_neg (by simp)];rfl
def ilt:aO->aO->Bool:=oX (λa b=>decide (a.fEpoch<b.fEpoch)) (λa b=>decide (a.fNumber<b.fNumber))
theorem XF:Swo ilt:=(XC.comap λv:aO=>v.fEpoch).lex (XC.comap λv:aO=>v.fNumber)
def qlt (cs:List Int):aa->aa->Bool:=oX (λa b=>rlt (dx cs a.fRow) (dx cs b.fRow)) (λa b=>ilt a.fId b.fId)
theorem i7 (cs:List Int):Swo (qlt cs):=(XE.comap λv:aa=>dx cs v.fRow).lex (XF.comap λv:aa=>v.fId)
theorem D1 (a b:Int):oz [a,b]=some (if a≠0 then a else b):=by
 unfold oz;have J:idx [a,b] 0=some a:=rfl;have h:idx [a,b] 1=some b:=rfl;by_cases ha:a=0
 ·have Z:gW [a,b] 0=some (.inl 1):=by simp only[gW];rw[if_pos (by simp),J,j6,if_neg (by simp[ha])];rfl
  rw[bI Z];by_cases hb:b=0
  ·have W:gW [a,b] 1=some (.inl 2):=by simp only[gW];rw[if_pos (by simp),h,j6,if_neg (by simp[hb])];rfl
   rw[bI W];apply aR;simp only[gW];rw[if_neg (by simp),ha,hb];rfl
  ·apply aR;simp only[gW];rw[if_pos (by simp),h,j6,if_pos (by simp[hb]),if_neg (by simp[ha])];rfl
 ·apply aR;simp only[gW];rw[if_pos (by simp),J,j6,if_pos (by simp[ha]),if_pos ha];rfl
theorem Mt (a b:aO):mg a b=some (sgn ilt a b):=by
 unfold mg ilt;rw[UB,j6,UC,j6,D1,j6,xT (XC.comap λv:aO=>v.fEpoch)];rfl
theorem IL{cs:List Int}(h:cs.length<=3518437208883)(a b:aa):eV a b cs=some (sgn (qlt cs) a b):=by
 unfold eV qlt;rw[Cs h,j6,Cs h,j6,xU (by rw[nO];omega) (by rw[nO];omega),j6,Mt,j6,D1,j6,xT (XE.comap λv:aa=>dx cs v.fRow)];rfl
theorem IM{cs:List Int}(h:cs.length<=3518437208883):Cmp (qlt cs) (λa b=>eV a b cs):=λa b=>⟨_,IL h a b,Cp⟩
theorem Gd (a b:aO):u9 a b=some (ilt a b):=by
 unfold u9 ilt oX;by_cases h:a.fEpoch=b.fEpoch;·rw[if_neg (by simp[h])];simp[h]
 ·rw[if_pos (by simp[h])];by_cases hl:a.fEpoch<b.fEpoch;·simp[hl]
  ·have:b.fEpoch<a.fEpoch:=by omega
   simp[hl,this]
theorem D2{cs:List Int}(h:cs.length<=3518437208883)(a b:aa):va cs a b=some (qlt cs a b):=by
 unfold va qlt oX;rw[zr h,j6,zr h,j6,Cq (by rw[nO];omega) (by rw[nO];omega),j6,Gd];unfold sgn;cases e1:rlt (dx cs a.fRow) (dx cs b.fRow)
 ·cases e2:rlt (dx cs b.fRow) (dx cs a.fRow);·simp[e1,e2]
  ·simp[e1,e2]
 ·simp[e1]
def Rok (l:List aa):Prop:=∀v∈l,v.fRow.length<=1048576
theorem own_eq{v:aa}(h:v.fRow.length<=1048576):kP v=some v:=by unfold kP d5;rw[aD (by simp;omega)];simp
theorem gj{O:Type}{xs:List O}{i:Nat}(h:i<xs.length):xs.take (i+1)=xs.take i++[xs[i]]:=by rw[List.take_add_one,zx h];rfl
theorem zu{cs:List Int}{xs:List aa}(Z:cs.length<=1048576)(hx:xs.length<=1048576)(W:Rok xs):∃T,iv cs xs=some T/\Stb (qlt cs) xs T:=by
 obtain⟨T,J,h⟩:=Kb (i7 cs) (IM (cs:=cs) (by omega)) xs (by omega);refine⟨T,?_,h⟩;unfold iv;refine(fd (λi=>((i:Int),xs.take i)) xs.length (by simp) (λi hi=>?_) (b:=jj cs xs) ?_).trans ?_
 ·simp only[jk];rw[if_pos (by simpa using hi),au hi,j6,own_eq (W _ (Z1 hi)),j6,aD (by simp;omega),j6,gj hi,ah (by omega)];rfl
 ·simp only[jk];rw[if_neg (by simp),Zf]
 ·unfold jj;rw[J];rfl
theorem Rok.flat{W:List (List aa)}(h:∀l∈W,Rok l):Rok W.flatten:=by intro v J;obtain⟨l,hl,J⟩:=List.mem_flatten.1 J;exact h l hl v J
theorem zw{r:List Ap}(h:r.length<=1048576):ou r r=some true:=by
 unfold ou;rw[if_neg (by simp)];refine fd (λi=>(i:Int)) r.length rfl (λi hi=>?_) ?_
 ·simp only[sU];rw[if_pos (by simpa using hi),au hi,j6,j6,if_neg (by simp),ah (by omega)];rfl
 ·simp only[sU];rw[if_neg (by simp)];rfl
theorem s9{xs:List aa}(h:xs.length<=1048576)(W:Rok xs):kx xs xs=some true:=by
 unfold kx;rw[if_neg (by simp)];refine fd (λi=>(i:Int)) xs.length rfl (λi hi=>?_) ?_
 ·have J:oB xs[i] xs[i]=some true:=by unfold oB;rw[zw (W _ (Z1 hi)),j6,if_pos rfl,if_pos (by simp)];simp[k9]
  simp only[nF];rw[if_pos (by simpa using hi),au hi,j6,j6,J,j6,if_neg (by simp),ah (by omega)];rfl
 ·simp only[nF];rw[if_neg (by simp)];rfl
theorem mq{σ β:Type}{f:σ->Option (σ⊕β)}{s:σ}(S:Nat->σ)(n:Nat)(h:Nat->Bool)(J:β)(K:Option β)(Z:s=S 0)(step:∀i,i<n->h i=true->f (S i)=some (.inl (S (i+1))))(out:∀i,i<n->h i=false->f (S i)=some (.inr J))(W:f (S n)=K.map Sum.inr):am f s=if (Z4 n).all h then K else some J:=by
 have key:∀k i:Nat,i+k=n->am f (S i)=if (List.range' i k).all h then K else some J:=by
  intro k;induction k with
  |zero=>
   intro i hi;obtain rfl:i=n:=by omega
   rw[nt,W];cases K<;>rfl|succ k ih=>intro i hi;rw[Yd,List.all_cons];cases hg:h i with
   |true=>rw[bI (step i (by omega) hg),ih (i+1) (by omega),X7]|false=>rw[aR (out i (by omega) hg)];simp
 rw[Z,key n 0 (by omega),X9]
structure nq (v:aa):Prop where
 ep:0<=v.fId.fEpoch/\v.fId.fEpoch<18446744073709551616nu:0<=v.fId.fNumber/\v.fId.fNumber<4294967296de:0<=v.fDeleted/\v.fDeleted<18446744073709551616row:∀x∈v.fRow,VOK x
 len:v.fRow.length<=1048576
theorem Ke{xs:List Int}{n:Int}(h:xs.length<=1048576):∃i,lS xs n=some i/\decide (0<=i)=xs.contains n:=by
 unfold lS;have key:∀k i:Nat,i+k=xs.length->∃r,am (λs:Int=>ie xs n s) (i:Int)=some r/\decide (0<=r)=(xs.drop i).contains n:=by
  intro k;induction k with
  |zero=>intro i hi;refine⟨-1,?_,by rw[Z5 (by omega)];rfl⟩;apply aR;simp only[ie];rw[if_neg (by simp;omega)];rfl|succ k ih=>
   intro i hi;have J:i<xs.length:=by omega
   rw[Z3 J];by_cases he:n=xs[i]
   ·refine⟨(i:Int),?_,by rw[List.contains_cons,he,beq_self_eq_true,Bool.true_or];simp⟩;apply aR;simp only[ie];rw[if_pos (by simpa using J),au J,j6,if_pos (by simp[he])];rfl
   ·obtain⟨r,W,Z⟩:=ih (i+1) (by omega);refine⟨r,?_,?_⟩
    ·rw[bI (s':=((i+1:Nat):Int))];·exact W
     ·simp only[ie];rw[if_pos (by simpa using J),au J,j6,if_neg (by simp[he]),ah (by omega)];rfl
    ·have e1:(n==xs[i])=false:=by simpa using he
     rw[Z,List.contains_cons,e1,Yq]
 obtain⟨r,W,Z⟩:=key xs.length 0 (by omega);exact⟨r,W,by simpa using Z⟩
theorem Ge{xs:List Int}{n:Int}(h:xs.length<=1048576):ig xs n=some (xs.contains n):=by obtain⟨i,J,W⟩:=Ke (n:=n) h;unfold ig;rw[J,j6,W]
def rZ (cols:Int)(v:aa):Bool:=v.fRow.all right&&(decide ((v.fRow.length:Int)=cols)&&(decide (1<=v.fId.fEpoch)&&(decide (v.fId.fEpoch<=9223372036854775807)&&!(decide (v.fDeleted≠0)&&(decide (v.fDeleted<=v.fId.fEpoch)||decide (9223372036854775807<v.fDeleted))))))
theorem Kf{cols:Int}{v:aa}(h:v.fRow.length<=1048576):mh cols v=some (rZ cols v):=by
 unfold mh;have Z:∀x,jK cols v x=some (decide ((v.fRow.length:Int)=cols)&&(decide (1<=v.fId.fEpoch)&&(decide (v.fId.fEpoch<=9223372036854775807)&&!x))):=by
  intro x;unfold jK jJ;by_cases h1:(v.fRow.length:Int)=cols<;>by_cases h2:1<=v.fId.fEpoch<;>by_cases h3:v.fId.fEpoch<=9223372036854775807<;>simp[h1,h2,h3]
 have W:lT cols v=some (decide ((v.fRow.length:Int)=cols)&&(decide (1<=v.fId.fEpoch)&&(decide (v.fId.fEpoch<=9223372036854775807)&&!(decide (v.fDeleted≠0)&&(decide (v.fDeleted<=v.fId.fEpoch)||decide (9223372036854775807<v.fDeleted)))))):=by
  unfold lT;simp only[Z];by_cases h1:v.fDeleted=0<;>by_cases h2:v.fDeleted<=v.fId.fEpoch<;>simp[h1,h2]
 refine(mq (λi=>(i:Int)) v.fRow.length (λi=>match v.fRow[i]?with|some x=>right x|none=>true) false (lT cols v) rfl (λi hi J=>?_) (λi hi J=>?_) ?_).trans ?_
 ·simp only[zx hi]at J;simp only[lU];rw[if_pos (by simpa using hi),au hi,j6,jC,j6,J,if_neg (by simp),ah (by omega)];rfl
 ·simp only[zx hi]at J;simp only[lU];rw[if_pos (by simpa using hi),au hi,j6,jC,j6,J,if_pos (by simp)];rfl
 ·simp only[lU];rw[if_neg (by simp)]
 ·have e:(Z4 v.fRow.length).all (λi=>match v.fRow[i]?with|some x=>right x|none=>true)=v.fRow.all right:=by
   rw[Zm];simp only[Z7,Zi];constructor
   ·intro h x hx;obtain⟨i,hi,rfl⟩:=Zd hx;have:=h i hi;rwa[zx hi]at this
   ·intro h i hi;rw[zx hi];exact h _ (Z1 hi)
  rw[e,W];unfold rZ;cases v.fRow.all right<;>simp
def tF (cols:Int)(srt:List Int)(i:Nat):Bool:=match srt[i]?with
 |some n=>decide (0<=n)&&(decide (n<cols)&&!(srt.take i).contains n)|none=>true
def sA (cols:Int)(l:List aa)(i:Nat):Bool:=match l[i]?with
 |some v=>rZ cols v&&!((l.take i).map (·.fId)).contains v.fId|none=>true
def tG (cols:Int)(srt:List Int):Bool:=(Z4 srt.length).all (tF cols srt)
def rg (cols:Int)(l:List aa):Bool:=(Z4 l.length).all (sA cols l)
def nP (cols:Int)(srt:List Int)(l:List aa):Int:=if cols<1\/8<cols then 1 else if tG cols srt then (if 4096<l.length then 81 else if rg cols l then 0 else 81)else 1
def oJ (l:List aa)(i:Nat):List aO:=((l.take i).map (·.fId)).reverse
theorem Mu{l:List aO}{x:aO}(h:l.length<=1048576):decide (1<jV (x::l) x)=l.contains x:=by
 unfold jV;have J:(x::l).count x=l.count x+1:=by simp
 have W:l.count x<=l.length:=List.count_le_length;rw[J,ah (by omega)];by_cases hm:x∈l
 ·have:0<l.count x:=List.count_pos_iff.2 hm;simp[hm];omega
 ·have:l.count x=0:=List.count_eq_zero.2 hm;simp[hm,this]
theorem Gf{cols:Int}{l:List aa}(hl:l.length<=4096)(Z:∀v∈l,nq v):am (λs:(Int×List aO)=>dE cols l s.1 s.2) (0,([]:List aO))=if rg cols l then some 0 else some 81:=by
 have J:∀(i:Nat) (hi:i<l.length)b,f9 (i:Int) (oJ l i) l[i] b=if b then some (.inr 81)else some (.inl (((i+1:Nat):Int),oJ l (i+1))):=by
  intro i hi b;unfold f9;cases b
  ·rw[if_neg (by simp),if_neg (by simp),ah (by omega)];have:oJ l (i+1)=l[i].fId::oJ l i:=by unfold oJ;rw[gj hi,Zc,List.reverse_append];rfl
   rw[this];rfl
  ·rw[if_pos rfl,if_pos rfl];rfl
 have W:∀(i:Nat) (hi:i<l.length),dE cols l (i:Int) (oJ l i)=if sA cols l i then some (.inl (((i+1:Nat):Int),oJ l (i+1)))else some (.inr 81):=by
  intro i hi;have a0:=(Z _ (Z1 hi)).len;simp only[dE];rw[if_pos (by simpa using hi),au hi,j6,Kf a0,j6,J i hi,J i hi,Mu (by simp[oJ];omega)];unfold sA;rw[zx hi];dsimp only;have hc:(oJ l i).contains l[i].fId=((l.take i).map (·.fId)).contains l[i].fId:=by unfold oJ;rw[Zm];simp
  rw[hc];rcases Zj (((l.take i).map (·.fId)).contains l[i].fId)with hq|hq<;>rcases Zj (rZ cols l[i])with hz|hz<;>simp only[hq,hz]<;>rfl
 refine mq (λi=>((i:Int),oJ l i)) l.length (sA cols l) 81 (some 0) rfl (λi hi h=>?_) (λi hi h=>?_) ?_
 ·show dE cols l (i:Int) (oJ l i)=_;rw[W i hi,h];rfl
 ·show dE cols l (i:Int) (oJ l i)=_;rw[W i hi,h];rfl
 ·simp only[dE];rw[if_neg (by simp)];rfl
theorem rh{cols:Int}{srt:List Int}{l:List aa}(hs:srt.length<=1048576)(hv:∀v∈l,nq v):ft cols srt l=some (nP cols srt l):=by
 have h2:eW cols l=some (if 4096<l.length then 81 else if rg cols l then 0 else 81):=by
  unfold eW;by_cases h:4096<l.length;·rw[if_pos (by simp;omega),if_pos h]
  ·rw[if_neg (by simp;omega),if_neg h,Gf (by omega) hv];cases rg cols l<;>rfl
 have hj:∀i:Nat,i<srt.length->∀b,eX (i:Int) b=if b then some (.inr 1)else some (.inl ((i+1:Nat):Int)):=by
  intro i hi b;unfold eX;cases b;·rw[if_neg (by simp),if_neg (by simp),ah (by omega)];rfl
  ·rfl
 have h1:∀b,gc cols srt l b=if b then some 1 else if tG cols srt then eW cols l else some 1:=by
  intro b;unfold gc;cases b
  ·rw[if_neg (by simp),if_neg (by simp)];have hb:∀(i:Nat) (hi:i<srt.length),ga cols srt l (i:Int)=if tF cols srt i then some (.inl ((i+1:Nat):Int))else some (.inr 1):=by
    intro i hi;simp only[ga];rw[if_pos (by simpa using hi),au hi,j6];have a0:sub srt 0 (i:Int)=some (srt.take i):=by have:=cx (xs:=srt) (lo:=0) (hi:=i) (by omega) (by omega);simpa using this
    rw[a0,j6,Ge (by simp;omega),j6];simp only[hj i hi];unfold tF;rw[zx hi];dsimp only;by_cases q1:srt[i]<0
    ·have Z:¬0<=srt[i]:=by omega
     simp[q1,Z]
    ·by_cases q2:cols<=srt[i]
     ·have J:¬srt[i]<cols:=by omega
      simp[q1,q2,J]
     ·have J:srt[i]<cols:=by omega
      have Z:0<=srt[i]:=by omega
      rw[if_neg (by simp[q1]),if_neg (by simp[q2])];rcases Zj ((srt.take i).contains srt[i])with hq|hq<;>simp only[hq,decide_eq_true J,decide_eq_true Z]<;>rfl
   refine mq (λi=>(i:Int)) srt.length (tF cols srt) 1 (eW cols l) rfl (λi hi W=>?_) (λi hi W=>?_) ?_;·rw[hb i hi,W];rfl
   ·rw[hb i hi,W];rfl
   ·simp only[ga];rw[if_neg (by simp)]
  ·rfl
 unfold ft nP;simp only[h1,h2];by_cases q1:cols<1;·simp[q1]
 ·by_cases q2:8<cols;·simp[q1,q2]
  ·simp only[q1,q2,decide_false,Bool.false_eq_true,if_false,or_self];cases tG cols srt<;>simp
theorem Gg{O:Type}[DecidableEq O]{l:List O}{i:Nat}{x:O}(h:i<=l.length):(Z4 i).all (λk=>(l[k]?).all λy=>!decide (y=x))=!(l.take i).contains x:=by
 rw[Zm];simp only[Z7,Zi,Zg,Zy,decide_eq_false_iff_not];constructor
 ·intro W hm;obtain⟨k,J,he⟩:=Zd hm;have a1:k<i:=by simp at J;omega
  have Z:=W k a1;have h3:l[k]?=some x:=by rw[zx (by omega)];simpa using he
  rw[h3,Zs]at Z;simp at Z
 ·intro W k J;have a0:k<l.length:=by omega
  rw[zx a0,Zs];simp only[Zg,decide_eq_false_iff_not];intro e;apply W;rw[←e];exact Y0 (i:=k) (by rw[X4 J,zx a0])
theorem Mv{O:Type}(l:List O)(p:O->Bool):(Z4 l.length).all (λi=>(l[i]?).all λx=>p x)=l.all p:=by
 rw[Zm];simp only[Z7,Zi];constructor
 ·intro h x J;obtain⟨i,hi,rfl⟩:=Zd J;have:=h i hi;rwa[zx hi,Zs]at this
 ·intro h i hi;rw[zx hi,Zs];exact h _ (Z1 hi)
theorem Gh{cols:Int}{l:List aa}(hl:l.length<=4096)(hv:∀v∈l,nq v)(i:Nat)(hi:i<l.length):pP cols l (i:Int)=if sA cols l i then some (.inl ((i+1:Nat):Int))else some (.inr 81):=by
 have Z:=hv _ (Z1 hi);have a1:=Z.len;have h6:mj l (i:Int) l[i]=if !((l.take i).map (·.fId)).contains l[i].fId then some (.inl ((i+1:Nat):Int))else some (.inr 81):=by
  have a0:((l.take i).map (·.fId))=(l.map (·.fId)).take i:=by simp
  have ha:=Gg (l:=l.map (·.fId)) (i:=i) (x:=l[i].fId) (by simp;omega);rw[a0,←ha];unfold mj;have e:(Z4 i).all (λk=>((l.map (·.fId))[k]?).all λy=>!decide (y=l[i].fId))=(Z4 i).all (λk=>(l[k]?).all λy=>!decide (y.fId=l[i].fId)):=by congr 1;funext k;rw[List.getElem?_map];cases l[k]?<;>rfl
  rw[e];refine mq (λk=>(k:Int)) i (λk=>(l[k]?).all λy=>!decide (y.fId=l[i].fId)) (Sum.inr 81) (some (.inl ((i+1:Nat):Int))) rfl (λk h J=>?_) (λk h J=>?_) ?_
  ·have W:k<l.length:=by omega
   simp only[zx W,Zs]at J;simp only[pN];rw[if_pos (by simpa using h),au W,j6,if_neg (by simpa using J),ah (by omega)];rfl
  ·have W:k<l.length:=by omega
   simp only[zx W,Zs]at J;simp only[pN];rw[if_pos (by simpa using h),au W,j6,if_pos (by simpa using J)];rfl
  ·simp only[pN];rw[if_neg (by simp),yi,ah (by omega)];rfl
 have h5:∀b,gX l (i:Int) l[i] b=if b then some (.inr 81)else if l[i].fRow.all right then mj l (i:Int) l[i]else some (.inr 81):=by
  intro b;unfold gX;cases b
  ·rw[if_neg (by simp),if_neg (by simp),←Mv];refine mq (λk=>(k:Int)) l[i].fRow.length (λk=>(l[i].fRow[k]?).all λx=>right x) (Sum.inr 81) (mj l (i:Int) l[i]) rfl (λk h J=>?_) (λk h J=>?_) ?_
   ·simp only[zx h,Zs]at J;simp only[pO];rw[if_pos (by simpa using h),au h,j6,q9,j6,J,if_neg (by simp),ah (by omega)];rfl
   ·simp only[zx h,Zs]at J;simp only[pO];rw[if_pos (by simpa using h),au h,j6,q9,j6,J,if_pos (by simp)];rfl
   ·simp only[pO];rw[if_neg (by simp)]
  ·rfl
 simp only[pP];rw[if_pos (by simpa using hi),au hi,j6];simp only[h5,h6];unfold sA rZ;rw[zx hi];dsimp only;have he:=Z.ep;have hd:=Z.de;rcases Zj (((l.take i).map (·.fId)).contains l[i].fId)with hq|hq<;>rcases Zj (l[i].fRow.all right)with hz|hz<;>simp only[hq,hz]<;>by_cases c1:(l[i].fRow.length:Int)=cols<;>by_cases c2:l[i].fId.fEpoch=0<;>by_cases c3:9223372036854775807<l[i].fId.fEpoch<;>by_cases c4:9223372036854775807<l[i].fDeleted<;>by_cases c5:l[i].fDeleted=0<;>by_cases c6:l[i].fDeleted<=l[i].fId.fEpoch<;>simp[c1,c2,c3,c4,c5,c6]<;>omega
theorem HE{cols:Int}{srt:List Int}{l:List aa}(hs:srt.length<=1048576)(hv:∀v∈l,nq v):qY cols srt l=some (nP cols srt l):=by
 have h2:ml cols l=some (if 4096<l.length then 81 else if rg cols l then 0 else 81):=by
  unfold ml;by_cases h:4096<l.length;·rw[if_pos (by simp;omega),if_pos h]
  ·rw[if_neg (by simp;omega),if_neg h];refine(mq (λi=>(i:Int)) l.length (sA cols l) 81 (some 0) rfl (λi hi J=>?_) (λi hi J=>?_) ?_).trans ?_;·rw[Gh (by omega) hv i hi,J];rfl
   ·rw[Gh (by omega) hv i hi,J];rfl
   ·simp only[pP];rw[if_neg (by simp)];rfl
   ·show(if rg cols l then some 0 else some 81)=_;cases rg cols l<;>rfl
 have h8:∀(i:Nat) (hi:i<srt.length)b,pR srt (i:Int) b=if b then some (.inr 1)else if !(srt.take i).contains srt[i]then some (.inl ((i+1:Nat):Int))else some (.inr 1):=by
  intro i hi b;unfold pR;cases b
  ·rw[if_neg (by simp),if_neg (by simp),←Gg (by omega)];refine mq (λk=>(k:Int)) i (λk=>(srt[k]?).all λy=>!decide (y=srt[i])) (Sum.inr 1) (some (.inl ((i+1:Nat):Int))) rfl (λk Z J=>?_) (λk Z J=>?_) ?_
   ·have W:k<srt.length:=by omega
    simp only[zx W,Zs]at J;simp only[pQ];rw[if_pos (by simpa using Z),au W,j6,au hi,j6,if_neg (by simpa using J),ah (by omega)];rfl
   ·have W:k<srt.length:=by omega
    simp only[zx W,Zs]at J;simp only[pQ];rw[if_pos (by simpa using Z),au W,j6,au hi,j6,if_pos (by simpa using J)];rfl
   ·simp only[pQ];rw[if_neg (by simp),yj,ah (by omega)];rfl
  ·rfl
 have h1:∀b,pT cols srt l b=if b then some 1 else if tG cols srt then ml cols l else some 1:=by
  intro b;unfold pT;cases b
  ·rw[if_neg (by simp),if_neg (by simp)];have hb:∀(i:Nat) (hi:i<srt.length),pS cols srt l (i:Int)=if tF cols srt i then some (.inl ((i+1:Nat):Int))else some (.inr 1):=by
    intro i hi;simp only[pS];rw[if_pos (by simpa using hi),au hi,j6,j6];simp only[h8 i hi];unfold tF;rw[zx hi];dsimp only;by_cases q1:srt[i]<0
    ·have q4:¬0<=srt[i]:=by omega
     simp[q1,q4]
    ·by_cases q2:cols<=srt[i]
     ·have q3:¬srt[i]<cols:=by omega
      simp[q1,q2,q3]
     ·have q3:srt[i]<cols:=by omega
      have q4:0<=srt[i]:=by omega
      rw[if_neg (by simp[q1]),if_neg (by simp[q2])];rcases Zj ((srt.take i).contains srt[i])with hq|hq<;>simp only[hq,decide_eq_true q3,decide_eq_true q4]<;>rfl
   refine mq (λi=>(i:Int)) srt.length (tF cols srt) 1 (ml cols l) rfl (λi hi J=>?_) (λi hi J=>?_) ?_;·rw[hb i hi,J];rfl
   ·rw[hb i hi,J];rfl
   ·simp only[pS];rw[if_neg (by simp)]
  ·rfl
 unfold qY nP;simp only[h1,h2];by_cases q1:cols<1;·simp[q1]
 ·by_cases q2:8<cols;·simp[q1,q2]
  ·simp only[q1,q2,decide_false,Bool.false_eq_true,if_false,or_self];cases tG cols srt<;>simp
structure oY (cols:Int)(srt:List Int)(l:List aa):Prop where
 co:1<=cols/\cols<=8so:tG cols srt=true
 le:l.length<=4096ro:rg cols l=true
theorem WH{cols:Int}{srt:List Int}{l:List aa}:nP cols srt l=0↔oY cols srt l:=by
 unfold nP;constructor
 ·intro h;by_cases c1:cols<1\/8<cols;·rw[if_pos c1]at h;cases h
  ·rw[if_neg c1]at h;cases c2:tG cols srt with
   |false=>rw[c2]at h;cases h|true=>
    rw[c2,if_pos rfl]at h;by_cases c3:4096<l.length;·rw[if_pos c3]at h;cases h
    ·rw[if_neg c3]at h;cases c4:rg cols l with
     |false=>rw[c4]at h;cases h|true=>exact⟨by omega,c2,by omega,c4⟩
 ·intro h;have J:=h.co;have W:=h.le;rw[if_neg (by omega),h.so,if_pos rfl,if_neg (by omega),h.ro,if_pos rfl]
theorem oY.ver{cols:Int}{srt:List Int}{l:List aa}(h:oY cols srt l):∀v∈l,rZ cols v=true:=by intro v W;obtain⟨i,hi,rfl⟩:=Zd W;have J:=Z7.1 h.ro i (Zi.2 hi);unfold sA at J;rw[zx hi]at J;simp only[Za]at J;exact J.1
theorem vo{cols:Int}{v:aa}(Z:nq v)(h:rZ cols v=true):(∀x∈v.fRow,Rgt x)/\(v.fRow.length:Int)=cols/\1<=v.fId.fEpoch/\v.fId.fEpoch<=9223372036854775807/\(v.fDeleted=0\/v.fId.fEpoch<v.fDeleted/\v.fDeleted<=9223372036854775807):=by
 unfold rZ at h;simp only[Za,decide_eq_true_eq,Zg,Zq,Zk,decide_eq_false_iff_not,Z7]at h;obtain⟨h1,h2,h3,h4,J⟩:=h;refine⟨λx W=>Rgt.of (Z.row x W) (h1 x W),h2,h3,h4,?_⟩;rcases J with J|J;·left;simpa using J
 ·right;omega
structure CV (cols:Int)(l:List aa):Prop where
 co:1<=cols/\cols<=8le:l.length<=4096ok:∀v∈l,nq v/\rZ cols v=true
theorem CV.of{cols:Int}{srt:List Int}{l:List aa}(h:oY cols srt l)(J:∀v∈l,nq v):CV cols l:=⟨h.co,h.le,λv hm=>⟨J v hm,h.ver v hm⟩⟩
theorem CV.mem{cols:Int}{l J:List aa}(h:CV cols l)(hl:J.length=l.length)(hm:∀v∈J,v∈l):CV cols J:=⟨h.co,by rw[hl];exact h.le,λv W=>h.ok v (hm v W)⟩
def ib (cols:Int)(n:Nat)(v:aa):Ap:=if (n:Int)<cols then v.fRow.getD n fR else if (n:Int)=cols then gY v.fId.fEpoch else if (n:Int)=cols+1 then gY v.fId.fNumber else gY v.fDeleted
def l7 (cols:Int)(n:Nat)(l:List aa):List Ap:=l.map (ib cols n)
theorem HF{cols:Int}{l:List aa}(h:CV cols l){v:aa}(Z:v∈l)(n:Nat):Rgt (ib cols n v):=by
 obtain⟨J,h2⟩:=h.ok v Z;obtain⟨h3,h4,h5,h6,h7⟩:=vo J h2;unfold ib;split
 ·have W:n<v.fRow.length:=by omega
  have:v.fRow.getD n fR=v.fRow[n]:=by simp[W]
  rw[this];exact h3 _ (Z1 W)
 ·have hd:=J.de;have W:=J.nu;split;·exact Rgt.int _ (by unfold cL;omega)
  ·split;·exact Rgt.int _ (by unfold cL;omega)
   ·exact Rgt.int _ (by unfold cL;omega)
theorem OB{cols:Int}{n:Nat}{l:List aa}{f:List Ap×Int->Option ((List Ap×Int)⊕List Ap)}(hl:l.length<=4096)(step:∀(i:Nat) (h:i<l.length) (x:List Ap),x.length=i->f (x,(i:Int))=some (.inl (x++[ib cols n l[i]],((i+1:Nat):Int)))) (J:∀x,f (x,(l.length:Int))=some (.inr x)):am f ([],0)=some (l7 cols n l):=by
 refine fd (λi=>((l.take i).map (ib cols n),(i:Int))) l.length (by simp) (λi hi=>?_) ?_
 ·show f ((l.take i).map (ib cols n),(i:Int))=_;rw[step i hi _ (by simp;omega),gj hi,Zc];rfl
 ·show f ((l.take l.length).map (ib cols n),(l.length:Int))=_;rw[J,Zf];rfl
theorem Kg{cols:Int}{n:Nat}{l:List aa}(h:CV cols l)(hn:(n:Int)<cols+3):oA cols (n:Int) l=some (l7 cols n l):=by
 have a0:=h.le;have a2:=h.co;unfold oA;refine OB a0 (λi hi x hx=>?_) (λx=>?_)
 ·obtain⟨J,h2⟩:=h.ok _ (Z1 hi);obtain⟨h3,h4,h5,h6,h7⟩:=vo J h2;have hd:=J.de;have a1:=J.nu;simp only[oU,eU,j6];have Z:∀z,gQ (i:Int) z=some (.inl (z,((i+1:Nat):Int))):=λz=>by unfold gQ;rw[ah (by omega)];rfl
  have ha:∀y:Ap,app 3518437208883 x [y]=some (x++[y]):=λy=>aD (by simp;omega);rw[if_pos (by simpa using hi),au hi,j6,ah (n:=(n:Int)-cols) (by omega)];simp only[ha,j6,Z];unfold ib;by_cases c1:(n:Int)=cols;·rw[if_pos (by simp;omega),if_neg (by omega),if_pos c1,ah (by omega)]
  ·rw[if_neg (by simp;omega)];by_cases c2:(n:Int)=cols+1;·rw[if_pos (by simp;omega),if_neg (by omega),if_neg c1,if_pos c2,ah (by omega)]
   ·rw[if_neg (by simp;omega)];by_cases c3:(n:Int)=cols+2;·rw[if_pos (by simp;omega),if_neg (by omega),if_neg c1,if_neg c2,ah (by omega)]
    ·have W:n<l[i].fRow.length:=by omega
     rw[if_neg (by simp;omega),if_pos (by omega),au W,j6];simp[W]
 ·simp only[oU];rw[if_neg (by simp)];rfl
def fk (l:List Ap)(i:Nat):List Ap:=(l.drop (64*i)).take 64
def j7 (l:List Ap):Nat:=(l.length+63)/64
def jO (l:List Ap):List (List Ap):=(Z4 (j7 l)).map (fk l)
theorem tH (i:Nat):Z4 (i+1)=Z4 i++[i]:=Yi
theorem Mw{l:List Ap}{i:Nat}(hi:i<j7 l)(hl:l.length<=4096):(l.take (min l.length (64*i+64))).drop (64*i)=fk l i:=by
 unfold fk j7 at*;rw[Y1];rcases Nat.le_total l.length (64*i+64)with h|h;·rw[Ye h,Z2 (by simp),Z2 (by simp;omega)]
 ·rw[Nat.min_eq_right h];congr 1;omega
theorem Mx{l:List Ap}(hl:l.length<=4096):iS l 64=some (jO l):=by
 unfold iS;rw[if_neg (by simp)];unfold i6 gt gI;have:am (λs:Int×List (List Ap)=>cR (λ(s:List (List Ap))x=>some (s++[x],true)) l 64 s.1 s.2) (0,[])=some (jO l):=by
  refine fd (λi=>(((64*i:Nat):Int),(Z4 i).map (fk l))) (j7 l) (by simp) (λi hi=>?_) ?_
  ·have Z:64*i<l.length:=by unfold j7 at hi;omega
   simp only[cR];have h:sub l ((64*i:Nat):Int) (l.length:Int)=some (l.drop (64*i)):=by have:=cx (xs:=l) (lo:=64*i) (hi:=l.length) (by omega) (Zw _);rwa[Zf]at this
   have J:sub l ((64*i:Nat):Int) (Zn.wrap (((64*i:Nat):Int)+(if ((l.drop (64*i)).length:Int)<64 then ((l.drop (64*i)).length:Int)else 64)))=some (fk l i):=by
    have e:Zn.wrap (((64*i:Nat):Int)+(if ((l.drop (64*i)).length:Int)<64 then ((l.drop (64*i)).length:Int)else 64))=((min l.length (64*i+64):Nat):Int):=by rw[X5];split<;>rw[ah (by omega)]<;>omega
    rw[e,cx (by omega) (by omega),Mw hi hl]
   rw[if_pos (by simp;omega),h,j6,J,j6,j6,if_neg (by simp),ah (by omega),tH,Zc];congr 2
  ·have W:l.length<=64*j7 l:=by unfold j7;omega
   simp only[cR];rw[if_neg (by simp;omega)];rfl
 rw[this];rfl
def Df (kind:Int)(p:List Ap):Int:=if (enc kind p).2=0 then kind else-1
def jr (kind:Int)(p:List Ap):List Int:=(wr (Df kind p) p).1
def tI (kind:Int)(l:List Ap):List Int:=((jO l).map (jr kind)).flatten
theorem Dg{kind:Int}{p:List Ap}(h:∀v∈p,VOK v):Byt (jr kind p)/\(jr kind p).length<=100000:=by
 unfold jr;by_cases hw:(wr (Df kind p) p).2=0;·exact F5 h hw
 ·have:(wr (Df kind p) p).1=[]:=by
   unfold wr at hw⊢;split;·rfl
   ·rename_i J;rw[if_neg J]at hw;split;·rfl
    ·rename_i W;rw[if_neg W]at hw;exact absurd rfl hw
  rw[this];exact⟨λc Z=>by simp at Z,by simp⟩
theorem xV{l:List Ap}{i:Nat}{v:Ap}(h:v∈fk l i):v∈l:=Zl (Zv h)
theorem Gi (l:List Ap)(i:Nat):(fk l i).length<=64:=by unfold fk;simp;omega
theorem D3{kind:Int}{l:List Ap}(h:∀v∈l,VOK v):∀k,Byt ((((Z4 k).map (fk l)).map (jr kind)).flatten)/\((((Z4 k).map (fk l)).map (jr kind)).flatten).length<=100000*k:=by
 intro k;induction k with
 |zero=>exact⟨λc J=>by simp at J,by simp⟩|succ k ih=>
  have Z:=Dg (kind:=kind) (p:=fk l k) (λv W=>h v (xV W));rw[tH,Zc,Zc,Y4];simp only[Yf,List.map_nil,List.flatten_singleton];refine⟨λc J=>?_,by rw[Z0];omega⟩;rcases Yj.1 J with J|J;·exact ih.1 c J
  ·exact Z.1 c J
theorem Bt{kind:Int}{l:List Ap}(h:∀v∈l,VOK v)(hl:l.length<=4096):Byt (tI kind l)/\(tI kind l).length<=6400000:=by have:=D3 (kind:=kind) h (j7 l);refine⟨this.1,Nat.le_trans this.2 ?_⟩;unfold j7;omega
theorem Kh{kind:Int}{l:List Ap}(h:∀v∈l,VOK v)(hl:l.length<=4096):jB kind l=some (tI kind l):=by
 have a0:∀(out:List Int) (p:List Ap),(∀v∈p,VOK v)->p.length<=64->out.length<=10000000->fp kind out p=some (out++jr kind p,true):=by
  intro out p W a1 ho;have J:=(Dg (kind:=kind) W).2;have Z:∀k,(wr k p).1.length<=100000->gR out p k=some (out++(wr k p).1,true):=λk hk=>by unfold gR;rw[Mf k W (by omega),j6,aD (by omega),j6]
  simp only[fp,tq];rw[vj kind W (by omega),j6,j6];unfold jr Df at*;by_cases hc:(enc kind p).2=0
  ·rw[if_pos hc]at J⊢;rw[if_neg (by simp[hc]),Z _ J]
  ·rw[if_neg hc]at J⊢;rw[if_pos (by simp[hc]),Z _ J]
 unfold jB;rw[Mx hl,j6];have key:∀(k i:Nat),i+k=j7 l->dB (λ(s:List Int) (x:List Ap)=>fp kind s x) ((((Z4 i).map (fk l)).map (jr kind)).flatten) ((List.range' i k).map (fk l))=some (tI kind l,true):=by
  intro k;induction k with
  |zero=>
   intro i hi;obtain rfl:i=j7 l:=by omega
   rfl|succ k ih=>
   intro i hi;rw[Yd,Yf];have J:=D3 (kind:=kind) h i;have hi':i<64:=by unfold j7 at hi;omega
   simp only[dB];rw[a0 _ _ (λv hv=>h v (xV hv)) (Gi l i) (by omega),j6,if_pos rfl];have e:(((Z4 i).map (fk l)).map (jr kind)).flatten++jr kind (fk l i)=(((Z4 (i+1)).map (fk l)).map (jr kind)).flatten:=by rw[tH,Zc,Zc,Y4];simp
   rw[e];exact ih (i+1) (by omega)
 have:=key (j7 l) 0 (by omega);rw[←X9]at this;have h0:(((Z4 0).map (fk l)).map (jr kind)).flatten=[]:=rfl;rw[h0]at this;unfold jO;rw[this,j6,if_pos rfl]
theorem Dh{b:List Int}{n:Int}(h:b.length<=1000000000):lu b n=some (b++be4 n):=by
 unfold lu;have J:aV .i64 n 24=n/2^24:=IF (k:=24) (by decide);have e2:aV .i64 n 16=n/2^16:=IF (k:=16) (by decide);have W:aV .i64 n 8=n/2^8:=IF (k:=8) (by decide);rw[aD (by simp;omega),j6,J,e2,W,bC,bC,bC,bC];rfl
def tJ (cols:Int)(srt:List Int):List Int:=[72,65,89,49,Yu.wrap cols,Yu.wrap (srt.length:Int)]
def nmB (cols:Int)(srt:List Int)(m:Int):List Int:=tJ cols srt++srt.map Yu.wrap++be4 m
def nr (cols:Int)(kinds:List Int)(n:Nat):Int:=if (n:Int)<cols/\n<kinds.length then kinds.getD n 0 else-1
def nQ (cols:Int)(kinds:List Int)(T:List aa)(n:Nat):List Int:=be4 ((tI (nr cols kinds n) (l7 cols n T)).length:Int)++tI (nr cols kinds n) (l7 cols n T)
def gO (cols:Int)(kinds:List Int)(T:List aa)(k:Nat):List Int:=((Z4 k).map (nQ cols kinds T)).flatten
def j8 (cols:Int)(srt kinds:List Int)(T:List aa):List Int:=nmB cols srt (T.length:Int)++gO cols kinds T (cols+3).toNat
def sa (cols:Int)(srt kinds:List Int)(T:List aa):List Int:=j8 cols srt kinds T++be4 (fY (j8 cols srt kinds T))
theorem D4 (cols:Int)(kinds:List Int)(T:List aa)(k:Nat):gO cols kinds T (k+1)=gO cols kinds T k++nQ cols kinds T k:=by unfold gO;rw[tH,Zc,Y4];simp
theorem Di{cols:Int}{n:Nat}{T:List aa}(h:CV cols T):(∀v∈l7 cols n T,VOK v)/\(l7 cols n T).length<=4096:=by refine⟨λv J=>?_,by unfold l7;simpa using h.le⟩;obtain⟨x,W,rfl⟩:=Y9.1 J;exact(HF h W n).ok
theorem Gj (n:Int):0<=Yu.wrap n/\Yu.wrap n<256:=by rw[bC];omega
theorem wG{a b:List Int}(W:Byt a)(J:Byt b):Byt (a++b):=λc h=>by
 rcases Yj.1 h with h|h;·exact W c h
 ·exact J c h
theorem HG{cols:Int}{kinds:List Int}{T:List aa}(h:CV cols T)(n:Nat):Byt (nQ cols kinds T n)/\(nQ cols kinds T n).length<=6400004:=by obtain⟨J,W⟩:=Di (n:=n) h;obtain⟨Z,h4⟩:=Bt (kind:=nr cols kinds n) J W;unfold nQ;exact⟨wG (Dc _) Z,by rw[Z0,fj];omega⟩
theorem Bu{cols:Int}{kinds:List Int}{T:List aa}(h:CV cols T):∀k,Byt (gO cols kinds T k)/\(gO cols kinds T k).length<=6400004*k:=by
 intro k;induction k with
 |zero=>exact⟨λc W=>by simp[gO]at W,by simp[gO]⟩|succ k ih=>have J:=HG (kinds:=kinds) h k;rw[D4];exact⟨wG ih.1 J.1,by rw[Z0];omega⟩
theorem P4 (cols:Int)(srt:List Int)(m:Int):Byt (nmB cols srt m):=by
 unfold nmB tJ;refine wG (wG ?_ ?_) (Dc m)
 ·intro c h;have J:=Gj cols;have W:=Gj (srt.length:Int);simp only[Yr,List.not_mem_nil,or_false]at h;rcases h with rfl|rfl|rfl|rfl|rfl|rfl<;>omega
 ·intro c h;obtain⟨x,_,rfl⟩:=Y9.1 h;exact Gj x
theorem Ki (cols:Int)(srt:List Int)(m:Int):(nmB cols srt m).length=10+srt.length:=by unfold nmB tJ;simp[fj];omega
theorem HH{cols:Int}{srt kinds:List Int}{T:List aa}(h:CV cols T)(Z:srt.length<=1048576):Byt (j8 cols srt kinds T)/\(j8 cols srt kinds T).length<=100000000:=by
 have J:=Bu (kinds:=kinds) h (cols+3).toNat;have a0:=h.co;have W:=Ki cols srt (T.length:Int);unfold j8;refine⟨wG (P4 _ _ _) J.1,?_⟩;rw[Z0,W];have:(cols+3).toNat<=11:=by omega
 have:6400004*(cols+3).toNat<=6400004*11:=Nat.mul_le_mul_left _ this;omega
theorem OC{cols:Int}{srt kinds:List Int}{T:List aa}(h:CV cols T)(hs:srt.length<=1048576)(hk:kinds.length<=1048576):am (λs:(List Int×Int)=>lW cols kinds T s.1 s.2) (nmB cols srt (T.length:Int),0)=some (sa cols srt kinds T,0):=by
 have a3:=h.co;have b1:=HH (srt:=srt) (kinds:=kinds) h hs;have a2:=Ki cols srt (T.length:Int);refine fd (λn=>(nmB cols srt (T.length:Int)++gO cols kinds T n,(n:Int))) (cols+3).toNat (by simp[gO]) (λn hn=>?_) ?_
 ·have a6:=Bu (kinds:=kinds) h n;have a9:n<11:=by omega
  have a4:(nmB cols srt (T.length:Int)++gO cols kinds T n).length<=200000000:=by rw[Z0,a2];omega
  obtain⟨hv,hl⟩:=Di (n:=n) h;obtain⟨b0,a5⟩:=Bt (kind:=nr cols kinds n) hv hl;have W:lV cols T (nmB cols srt (T.length:Int)++gO cols kinds T n) (n:Int) (nr cols kinds n)=some (.inl (nmB cols srt (T.length:Int)++gO cols kinds T (n+1),((n+1:Nat):Int))):=by
   unfold lV;rw[Kg h (by omega),j6,Kh hv hl,j6,Dh (by omega),j6,aD (by rw[Z0,fj];omega),j6,ah (by omega),D4];unfold nQ;simp only[Zb];rfl
  have a1:∀b,(b=true↔n<kinds.length)->(n:Int)<cols->jL cols kinds T (nmB cols srt (T.length:Int)++gO cols kinds T n) (n:Int) b=some (.inl (nmB cols srt (T.length:Int)++gO cols kinds T (n+1),((n+1:Nat):Int))):=by intro b hb J;unfold jL;cases b with
   |true=>
    have a0:=hb.1 rfl;rw[if_pos rfl,au a0,j6];have:nr cols kinds n=kinds[n]:=by unfold nr;rw[if_pos ⟨J,a0⟩];simp[a0]
    rw[←this,W]|false=>
    rw[if_neg (by simp)];have:nr cols kinds n=-1:=by unfold nr;rw[if_neg (λZ=>by have:=hb.2 Z.2;cases this)]
    rw[←this,W]
  simp only[lW];rw[ah (by omega),if_pos (by simp;omega)];by_cases J:(n:Int)<cols
  ·rw[if_pos (by simpa using J)];exact a1 _ (by simp) J
  ·rw[if_neg (by simpa using J)];unfold jL;rw[if_neg (by simp)];have:nr cols kinds n=-1:=by unfold nr;rw[if_neg (λZ=>J Z.1)]
   rw[←this,W]
 ·simp only[lW];rw[ah (by omega),if_neg (by simp;omega)];show(qd (j8 cols srt kinds T)).map Sum.inr=_;unfold qd;obtain⟨h1,h2⟩:=uB (b:=j8 cols srt kinds T) (by omega);unfold U32 at h2;rw[h1,j6,ah (by omega),Dh (by omega)];rfl
theorem IN{cols:Int}{srt kinds:List Int}{l:List aa}(Z:srt.length<=1048576)(hk:kinds.length<=1048576)(J:∀v∈l,nq v):(nP cols srt l≠0/\ja cols srt kinds l=some ([],nP cols srt l))\/(oY cols srt l/\∃T,Stb (qlt srt) l T/\CV cols T/\ja cols srt kinds l=some (sa cols srt kinds T,0)):=by
 unfold ja;rw[rh Z J,j6];by_cases hr:nP cols srt l=0
 ·right;have W:=WH.1 hr;have a1:=W.le;have a0:Rok l:=λv hm=>(J v hm).len;obtain⟨T',h1,h⟩:=zu (cs:=srt) (xs:=l) Z (by omega) a0;have hT:CV cols T':=(CV.of W J).mem (h.len (i7 srt)) (λv hm=>(h.mem (i7 srt)).1 hm);have a2:=h.len (i7 srt);refine⟨W,T',h,hT,?_⟩;rw[if_neg (by simp[hr]),h1,j6,aD (by simp),j6];refine(fd (λi=>(tJ cols srt++(srt.take i).map Yu.wrap,(i:Int))) srt.length (by simp[tJ]) (λi hi=>?_) (b:=qe cols kinds T' (tJ cols srt++srt.map Yu.wrap)) ?_).trans ?_
  ·simp only[qf];rw[if_pos (by simpa using hi),au hi,j6,aD (by simp[tJ];omega),j6,ah (by omega),gj hi,Zc];simp only[Zb];rfl
  ·simp only[qf];rw[if_neg (by simp),Zf]
  ·unfold qe;rw[Dh (by simp[tJ];omega),j6];exact OC hT Z hk
 ·left;exact⟨hr,by rw[if_pos (by simpa using hr)]⟩
theorem orS{a b:Nat}(k:Nat)(W:b<2^k)(h:2^k*a+b<4294967296):bOr .i64 ((2^k*a:Nat):Int) (b:Int)=((2^k*a+b:Nat):Int):=by
 unfold bOr;have J:(Yt Zn.bits ((2^k*a:Nat):Int)).toNat=2^k*a:=by show(Yt 64 ((2^k*a:Nat):Int)).toNat=2^k*a;rw[BitVec.toNat_ofInt];omega
 have Z:(Yt Zn.bits (b:Int)).toNat=b:=by show(Yt 64 (b:Int)).toNat=b;rw[BitVec.toNat_ofInt];omega
 rw[BitVec.toNat_or,J,Z,←Nat.two_pow_add_eq_or_of_lt W,ah (by omega)]
theorem shI{a:Nat}(k:Nat)(h:k<=24)(Z:a<256):en .i64 (a:Int) (k:Int)=((2^k*a:Nat):Int):=by
 unfold en;have e:min ((k:Int)).toNat Zn.bits=k:=by simp[IntKind.bits];omega
 have J:2^k<=2^24:=Nat.pow_le_pow_right (by decide) h;have W:2^k*a<=2^24*255:=Nat.mul_le_mul J (by omega);rw[e,show(a:Int)*2^k=((2^k*a:Nat):Int)by rw[Nat.mul_comm];push_cast;rfl,ah (by omega)]
theorem Ct{a b c d:Int}{t:List Int}(ha:0<=a/\a<256)(hb:0<=b/\b<256)(hc:0<=c/\c<256)(hd:0<=d/\d<256):dS (a::b::c::d::t)=some (bv [a,b,c,d]):=by
 have e0:idx (a::b::c::d::t) 0=some a:=au (xs:=a::b::c::d::t) (i:=0) (by simp);have Z:idx (a::b::c::d::t) 1=some b:=au (xs:=a::b::c::d::t) (i:=1) (by simp);have e2:idx (a::b::c::d::t) 2=some c:=au (xs:=a::b::c::d::t) (i:=2) (by simp);have e3:idx (a::b::c::d::t) 3=some d:=au (xs:=a::b::c::d::t) (i:=3) (by simp);unfold dS;rw[e0,j6,Z,j6,e2,j6,e3,j6,ah (by omega),ah (by omega),ah (by omega),ah (by omega)];obtain⟨a,rfl⟩:=Z6 ha.1;obtain⟨b,rfl⟩:=Z6 hb.1;obtain⟨c,rfl⟩:=Z6 hc.1;obtain⟨d,rfl⟩:=Z6 hd.1;have W:=shI (a:=a) 24 (by omega) (by omega);have h:=shI (a:=b) 16 (by omega) (by omega);have J:=shI (a:=c) 8 (by omega) (by omega);rw[show((24:Nat):Int)=24 from rfl]at W;rw[show((16:Nat):Int)=16 from rfl]at h;rw[show((8:Nat):Int)=8 from rfl]at J;rw[W,h,J,orS 24 (by omega) (by omega),show 2^24*a+2^16*b=2^16*(2^8*a+b)by omega,orS 16 (by omega) (by omega),show 2^16*(2^8*a+b)+2^8*c=2^8*(2^8*(2^8*a+b)+c)by omega,orS 8 (by omega) (by omega)];unfold bv;simp only[List.foldl_cons,List.foldl_nil];congr 1;omega
theorem vR{b:List Int}(J:Byt b)(h:4<=b.length):dS b=some (bv (b.take 4)):=by match b,h with|a::b::c::d::t,_=>exact Ct J.head J.tail.head J.tail.tail.head J.tail.tail.tail.head
theorem xW{n:Int}(h:U32 n)(t:List Int):dS (be4 n++t)=some n:=by have:=F8 h;unfold be4 at*;rw[Zt,Zt,Zt,Zt,Ct (by omega) (by omega) (by omega) (by omega),this]
theorem Kj{kind:Int}{p:List Ap}(h:∀v∈p,Rgt v)(W:p≠[])(hl:p.length<=64):(wr (Df kind p) p).2=0:=by
 have key:∀k,(enc (mp k p) p).2=0->(wr k p).2=0:=λk hk=>by unfold wr;rw[if_neg W,if_neg (by simpa using hk)]
 apply key;unfold Df;split
 ·rename_i J;unfold mp;rw[if_neg];·exact J
  ·rintro rfl;unfold enc at J;rw[if_pos (by omega)]at J;cases J
 ·unfold mp;rw[if_pos rfl,XB.1];unfold enc;have hr:p.all right=true:=Z7.2 λv Z=>(h v Z).right;rw[if_neg (by omega),if_neg (by omega),if_neg (by simp[hr]),if_neg (λhh=>by omega),if_neg W]
theorem My{kind:Int}{p:List Ap}(h:∀v∈p,Rgt v)(hp:p≠[])(hl:p.length<=64){t:List Int}(W:Byt t)(Z:t.length<=900000000000):iJ (jr kind p++t)=some (p,((jr kind p).length:Int),0):=by unfold jr;exact Ow (λv J=>(h v J).ok) (Kj h hp hl) W Z
theorem OD{kind:Int}{p:List Ap}(h:∀v∈p,Rgt v)(Z:p≠[])(hl:p.length<=64):0<(jr kind p).length:=by unfold jr;obtain⟨k,_,_,_,_,J,_⟩:=Cj (λv W=>(h v W).ok) (Kj (kind:=kind) h Z hl);rw[J];unfold ni;simp[fj]
theorem D5{kind:Int}{l:List Ap}{i:Nat}(hi:i<j7 l):(((jO l).drop i).map (jr kind)).flatten=jr kind (fk l i)++(((jO l).drop (i+1)).map (jr kind)).flatten:=by
 have h:i<(jO l).length:=by unfold jO;simpa using hi
 rw[Z3 h];have:(jO l)[i]=fk l i:=by simp[jO]
 rw[this];rfl
theorem Kl{kind:Int}{l:List Ap}(h:∀v∈l,VOK v)(hl:l.length<=4096):∀k i:Nat,i+k=j7 l->Byt ((((jO l).drop i).map (jr kind)).flatten)/\((((jO l).drop i).map (jr kind)).flatten).length<=100000*k:=by
 intro k;induction k with
 |zero=>intro i hi;rw[Z5 (by unfold jO;simp;omega)];exact⟨.nil,by simp⟩|succ k ih=>intro i hi;have W:=Dg (kind:=kind) (p:=fk l i) (λv J=>h v (xV J));have:=ih (i+1) (by omega);rw[D5 (by omega)];exact⟨W.1.app this.1,by rw[Z0];omega⟩
theorem Km{kind:Int}{l:List Ap}(h:∀v∈l,Rgt v)(hl:l.length<=4096):eF (tI kind l) (l.length:Int)=some (l,true):=by
 unfold eF;have J:∀v∈l,VOK v:=λv J=>(h v J).ok;refine fd (λi=>((((jO l).drop i).map (jr kind)).flatten,l.take (64*i))) (j7 l) (by simp[tI]) (λi hi=>?_) ?_
 ·have a5:64*i<l.length:=by unfold j7 at hi;omega
  have hp:∀v∈fk l i,Rgt v:=λv J=>h v (xV J);have a1:=Gi l i;have W:(fk l i).length=min 64 (l.length-64*i):=by unfold fk;simp
  have Z:fk l i≠[]:=λe=>by rw[e]at W;simp at W;omega
  have a6:=OD (kind:=kind) hp Z a1;obtain⟨a2,a9⟩:=Kl (kind:=kind) J hl (j7 l-(i+1)) (i+1) (by omega);have a4:j7 l<=64:=by unfold j7;omega
  have a0:(l.take (64*i)).length=64*i:=by simp;omega
  have ht:l.take (64*(i+1))=l.take (64*i)++fk l i:=by unfold fk;rw[←List.take_add];congr 1
  simp only[bO];rw[D5 hi,if_pos (by simp;omega),My hp Z a1 a2 (by omega),j6,if_neg (by simp),a0,ah (by omega)];have hm:(((fk l i).length:Int)!=(if (l.length:Int)-((64*i:Nat):Int)<64 then (l.length:Int)-((64*i:Nat):Int)else 64))=false:=by rw[W];simp;split<;>omega
  dsimp only;rw[hm];unfold gS;rw[if_neg (by simp)];dsimp only;rw[aD (by rw[a0];omega),j6,bP (by simp),j6,Ym,ht]
 ·have a3:l.length<=64*j7 l:=by unfold j7;omega
  simp only[bO];rw[Z5 (by unfold jO;simp),if_neg (by simp),Z2 a3];unfold k8;simp
def tkV (cols:Int)(n:Nat)(v:aa):aa:=⟨⟨if cols<(n:Int)then v.fId.fEpoch else 0,if cols+1<(n:Int)then v.fId.fNumber else 0⟩,v.fRow.take n,if cols+2<(n:Int)then v.fDeleted else 0⟩
theorem OE{cols:Int}(h:1<=cols)(v:aa):tkV cols 0 v=aa.zero:=by
 unfold tkV;rw[if_neg (by omega),if_neg (by omega),if_neg (by omega)];rfl
theorem P5{cols:Int}{v:aa}(J:1<=cols)(h:(v.fRow.length:Int)=cols):tkV cols (cols+3).toNat v=v:=by unfold tkV;rw[if_pos (by omega),if_pos (by omega),if_pos (by omega),Z2 (by omega)]
theorem Kn{O:Type}{A B:List O}{x:O}{i:Nat}(h:A.length=i):(A++x::B)[i]?=some x:=by simp[←h]
theorem Gk{O:Type}{A B:List O}{x y:O}{i:Nat}(h:A.length=i):(A++x::B).set i y=A++y::B:=by simp[←h]
theorem Mz{cols:Int}{srt:List Int}{T:List aa}(h:CV cols T){n:Nat}(hn:(n:Int)<cols+3):dw ⟨cols,srt,[]⟩ (T.map (tkV cols n)) (n:Int) (l7 cols n T)=some (true,T.map (tkV cols (n+1))):=by
 have b6:=h.le;have b5:=h.co;have b4:(l7 cols n T).length=T.length:=by simp[l7]
 unfold dw;refine fd (λi=>((i:Int),(T.take i).map (tkV cols (n+1))++(T.drop i).map (tkV cols n))) T.length (by simp) (λi hi=>?_) ?_
 ·obtain⟨h1,h2⟩:=h.ok _ (Z1 hi);obtain⟨h3,h4,h5,h6,h7⟩:=vo h1 h2;have b7:=h1.de;have c4:=h1.nu;have b3:((T.take i).map (tkV cols (n+1))).length=i:=by simp;omega
  obtain⟨A,hA⟩:∃A,A=(T.take i).map (tkV cols (n+1)):=⟨_,rfl⟩;obtain⟨B,hB⟩:∃B,B=(T.drop (i+1)).map (tkV cols n):=⟨_,rfl⟩;have hS:(T.take i).map (tkV cols (n+1))++(T.drop i).map (tkV cols n)=A++tkV cols n T[i]::B:=by rw[Z3 hi,Yf,hA,hB]
  have a9:(T.take (i+1)).map (tkV cols (n+1))++(T.drop (i+1)).map (tkV cols n)=A++tkV cols (n+1) T[i]::B:=by rw[gj hi,Zc,hA,hB];simp
  have a3:A.length=i:=by rw[hA];exact b3
  have hx:(A++tkV cols n T[i]::B)[i]?=some (tkV cols n T[i]):=Kn a3;have a6:∀y,(A++tkV cols n T[i]::B).set i y=A++y::B:=λy=>Gk a3;have hc:idx (l7 cols n T) (i:Int)=some (ib cols n T[i]):=by rw[au (by omega)];simp[l7]
  show bL ⟨cols,srt,[]⟩ (n:Int) (l7 cols n T) (i:Int) ((T.take i).map (tkV cols (n+1))++(T.drop i).map (tkV cols n))=some (.inl (((i+1:Nat):Int),(T.take (i+1)).map (tkV cols (n+1))++(T.drop (i+1)).map (tkV cols n)));rw[hS,a9];unfold bL;rw[if_pos (by simp;omega),hc,j6,ng (by simp;omega),j6];have a5:∀z,cB (i:Int) z=some (.inl (((i+1:Nat):Int),z)):=λz=>by unfold cB;rw[ah (by omega)];rfl
  have a4:cC ⟨cols,srt,[]⟩ (n:Int) (i:Int) (A++tkV cols n T[i]::B) (ib cols n T[i]) i false=some (.inl (((i+1:Nat):Int),A++tkV cols (n+1) T[i]::B)):=by
   unfold cC;dsimp only;rw[if_neg (by simp),ah (by omega),hx];simp only[j6,a6,a5];by_cases c1:(n:Int)=cols
   ·rw[if_pos (by simp;omega)];have W:ib cols n T[i]=gY T[i].fId.fEpoch:=by unfold ib;rw[if_neg (by omega),if_pos c1]
    rw[W,aU];unfold tkV;dsimp only[gY];rw[Z9 (by omega) (by omega),Z2 (by omega),Z2 (by omega)];have J:(cols<(n:Int))=False:=eq_false (by omega);have b0:(cols<((n+1:Nat):Int))=True:=eq_true (by omega);have Z:(cols+1<(n:Int))=False:=eq_false (by omega);have b1:(cols+1<((n+1:Nat):Int))=False:=eq_false (by omega);have a2:(cols+2<(n:Int))=False:=eq_false (by omega);have b2:(cols+2<((n+1:Nat):Int))=False:=eq_false (by omega);simp only[J,b0,Z,b1,a2,b2,if_true,if_false]
   ·rw[if_neg (by simp;omega)];by_cases c2:(n:Int)=cols+1
    ·rw[if_pos (by simp;omega)];have W:ib cols n T[i]=gY T[i].fId.fNumber:=by unfold ib;rw[if_neg (by omega),if_neg c1,if_pos c2]
     rw[W,j9];unfold tkV;dsimp only[gY];rw[if_neg (by simp;omega),Z9 (by omega) (by omega),Z2 (by omega),Z2 (by omega)];have J:(cols<(n:Int))=True:=eq_true (by omega);have b0:(cols<((n+1:Nat):Int))=True:=eq_true (by omega);have Z:(cols+1<(n:Int))=False:=eq_false (by omega);have b1:(cols+1<((n+1:Nat):Int))=True:=eq_true (by omega);have a2:(cols+2<(n:Int))=False:=eq_false (by omega);have b2:(cols+2<((n+1:Nat):Int))=False:=eq_false (by omega);simp only[J,b0,Z,b1,a2,b2,if_true,if_false]
    ·rw[if_neg (by simp;omega)];by_cases c3:(n:Int)=cols+2
     ·rw[if_pos (by simp;omega)];have W:ib cols n T[i]=gY T[i].fDeleted:=by unfold ib;rw[if_neg (by omega),if_neg c1,if_neg c2]
      rw[W,aU];unfold tkV;dsimp only[gY];rw[Z9 (by omega) (by omega),Z2 (by omega),Z2 (by omega)];have J:(cols<(n:Int))=True:=eq_true (by omega);have b0:(cols<((n+1:Nat):Int))=True:=eq_true (by omega);have Z:(cols+1<(n:Int))=True:=eq_true (by omega);have b1:(cols+1<((n+1:Nat):Int))=True:=eq_true (by omega);have a2:(cols+2<(n:Int))=False:=eq_false (by omega);have b2:(cols+2<((n+1:Nat):Int))=True:=eq_true (by omega);simp only[J,b0,Z,b1,a2,b2,if_true,if_false]
     ·rw[if_neg (by simp;omega)];have hr:n<T[i].fRow.length:=by omega
      have e:T[i].fRow.take (n+1)=T[i].fRow.take n++[ib cols n T[i]]:=by unfold ib;rw[gj hr,if_pos (by omega)];simp[hr]
      have c0:(tkV cols n T[i]).fRow.length<=1048576:=by have:=h1.len;unfold tkV;simp;omega
      rw[aD (by simp;omega),j6];have:tkV cols (n+1) T[i]={tkV cols n T[i]with fRow:=(tkV cols n T[i]).fRow++[ib cols n T[i]]}:=by unfold tkV;dsimp only;rw[e,if_neg (by omega),if_neg (by omega),if_neg (by omega),if_neg (by omega),if_neg (by omega),if_neg (by omega)]
      rw[this]
  by_cases hnc:cols<=(n:Int)
  ·rw[if_pos (by simpa using hnc)];have hk:(ib cols n T[i]).fKind=2/\0<=(ib cols n T[i]).fInt:=by
    unfold ib;rw[if_neg (by omega)];split;·exact⟨rfl,by simp only[gY];omega⟩
    ·split;·exact⟨rfl,by simp only[gY];omega⟩
     ·exact⟨rfl,by simp only[gY];omega⟩
   rw[if_neg (by simp[hk.1]),decide_eq_false (by omega)];exact a4
  ·rw[if_neg (by simpa using hnc)];exact a4
 ·show bL ⟨cols,srt,[]⟩ (n:Int) (l7 cols n T) (T.length:Int) ((T.take T.length).map (tkV cols (n+1))++(T.drop T.length).map (tkV cols n))=_;unfold bL;rw[if_neg (by simp;omega),Zf,List.drop_length];unfold gL;simp
theorem nodup_iff{O:Type}[DecidableEq O](l:List O):l.Nodup↔∀(i:Nat) (h:i<l.length),(l.take i).contains l[i]=false:=by
 unfold List.Nodup;rw[Zh];constructor
 ·intro h i hi;rw[Zy,decide_eq_false_iff_not];intro hm;obtain⟨k,W,Z⟩:=Zd hm;have a0:k<i:=by simp at W;omega
  have:=h k i (by omega) hi a0;apply this;rw[←Z];simp
 ·intro h i j hi J a1 e;have:=h j J;rw[Zy,decide_eq_false_iff_not]at this;apply this;rw[←e];exact Y0 (i:=i) (by rw[X4 a1,zx hi])
theorem WR{cols:Int}{srt:List Int}:tG cols srt=true↔(∀s∈srt,0<=s/\s<cols)/\srt.Nodup:=by
 unfold tG;rw[nodup_iff];simp only[Z7,Zi];constructor
 ·intro h;have key:∀(i:Nat) (hi:i<srt.length),0<=srt[i]/\srt[i]<cols/\(srt.take i).contains srt[i]=false:=by intro i hi;have:=h i hi;unfold tF at this;rw[zx hi]at this;simp only[Za,decide_eq_true_eq,Zg]at this;exact this
  refine⟨λs W=>?_,λi hi=>(key i hi).2.2⟩;obtain⟨i,hi,rfl⟩:=Zd W;exact⟨(key i hi).1,(key i hi).2.1⟩
 ·rintro⟨J,Z⟩i hi;unfold tF;rw[zx hi];simp only[Za,decide_eq_true_eq,Zg];have:=J _ (Z1 hi);exact⟨this.1,this.2,Z i hi⟩
theorem WS{cols:Int}{l:List aa}:rg cols l=true↔(∀v∈l,rZ cols v=true)/\(l.map (·.fId)).Nodup:=by
 unfold rg;rw[nodup_iff];simp only[Z7,Zi,List.length_map,Zp];constructor
 ·intro h;have key:∀(i:Nat) (hi:i<l.length),rZ cols l[i]=true/\((l.take i).map (·.fId)).contains l[i].fId=false:=by intro i hi;have:=h i hi;unfold sA at this;rw[zx hi]at this;simp only[Za,Zg]at this;exact this
  refine⟨λs W=>?_,λi hi=>?_⟩
  ·obtain⟨i,hi,rfl⟩:=Zd W;exact(key i hi).1
  ·have:=(key i hi).2;rw[Ys]at this;exact this
 ·rintro⟨J,Z⟩i hi;unfold sA;rw[zx hi];simp only[Za,Zg];refine⟨J _ (Z1 hi),?_⟩;have:=Z i hi;rw[Ys];exact this
theorem MA:∀(n:Nat) (l:List Int),l.Nodup->(∀s∈l,0<=s/\s<(n:Int))->l.length<=n:=by
 intro n;induction n with
 |zero=>intro l _ h;cases l with
  |nil=>simp|cons a l=>have:=h a (by simp);omega
 |succ n ih=>
  intro l J h;have h1:=ih (l.filter λx=>!decide (x=(n:Int))) (J.filter _) (λs Z=>by
   obtain⟨hm,hq⟩:=List.mem_filter.1 Z;have:=h s hm;have:s≠(n:Int):=by simpa using hq
   omega);have h2:l.count (n:Int)<=1:=List.nodup_iff_count.1 J _;have W:=List.length_eq_countP_add_countP (p:=λx=>!decide (x=(n:Int))) (l:=l);rw[List.countP_eq_length_filter]at W;have h4:List.countP (λa=>decide ¬((!decide (a=(n:Int)))=true)) l=l.count (n:Int):=by
   unfold List.count;congr 1;funext a;by_cases e:a=(n:Int)<;>simp[e]
  omega
theorem oY.srt_le{cols:Int}{srt:List Int}{l:List aa}(h:oY cols srt l):srt.length<=8:=by obtain⟨J,Z⟩:=WR.1 h.so;have hc:=h.co;exact MA 8 srt Z λs W=>by have:=J s W;omega
theorem oY.stb{cols:Int}{srt:List Int}{l T:List aa}(h:oY cols srt l)(hs:Stb (qlt srt) l T):oY cols srt T:=by have J:=hs.perm (i7 srt);obtain⟨h1,Z⟩:=WS.1 h.ro;refine⟨h.co,h.so,by rw[J.length_eq];exact h.le,WS.2 ⟨λv W=>h1 v (J.mem_iff.1 W),?_⟩⟩;exact(J.map _).nodup_iff.2 Z
theorem oY.none{cols:Int}{srt:List Int}{l:List aa}(h:oY cols srt l):oY cols srt []:=⟨h.co,h.so,by simp,rfl⟩
theorem oY.id_srt{cols:Int}{srt:List Int}{l:List aa}(h:oY cols srt l):srt.map Yu.wrap=srt:=by obtain⟨J,_⟩:=WR.1 h.so;have Z:=h.co;rw[Y5 (g:=id),List.map_id];intro s W;have:=J s W;rw[bC,Z9 (by omega) (by omega)];rfl
theorem MB{cols:Int}{srt kinds:List Int}{T:List aa}(h:oY cols srt T)(hs:Byt (gO cols kinds T (cols+3).toNat)/\(gO cols kinds T (cols+3).toNat).length<=100000000):dv (j8 cols srt kinds T)=some ((T.length:Int),gO cols kinds T (cols+3).toNat,true,⟨cols,srt,[]⟩):=by
 have a3:=h.co;have a4:=h.le;have a6:=h.srt_le;obtain⟨a0,a2⟩:=hs;obtain⟨S,hS⟩:∃S,S=gO cols kinds T (cols+3).toNat:=⟨_,rfl⟩;rw[←hS]at a0 a2⊢;have hb:j8 cols srt kinds T=72::65::89::49::cols::(srt.length:Int)::(srt++(be4 (T.length:Int)++S)):=by unfold j8 nmB tJ;rw[h.id_srt,bC,bC,Z9 (by omega) (by omega),Z9 (by omega) (by omega),←hS];simp
 rw[hb];obtain⟨p,J⟩:∃p,p=72::65::89::49::cols::(srt.length:Int)::(srt++(be4 (T.length:Int)++S)):=⟨_,rfl⟩;rw[←J];have a5:p.length=6+(srt.length+(4+S.length)):=by rw[J];simp[fj];omega
 have e1:sub p 0 4=some [72,65,89,49]:=by have:=cx (xs:=p) (lo:=0) (hi:=4) (by omega) (by omega);rw[J]at this⊢;exact this
 have i4:idx p 4=some cols:=by rw[J];exact au (i:=4) (by simp)
 have i5:idx p 5=some (srt.length:Int):=by rw[J];exact au (i:=5) (by simp)
 have e2:sub p 6 (p.length:Int)=some (srt++(be4 (T.length:Int)++S)):=by have:=bP (xs:=p) (k:=6) (by omega);rw[show((6:Nat):Int)=6 from rfl]at this;rw[this,J];rfl
 have a1:(srt++(be4 (T.length:Int)++S)).length=srt.length+(4+S.length):=by simp[fj]
 have e3:sub (srt++(be4 (T.length:Int)++S)) 0 (srt.length:Int)=some srt:=by have:=cx (xs:=srt++(be4 (T.length:Int)++S)) (lo:=0) (hi:=srt.length) (by omega) (by omega);rw[List.take_left]at this;exact this
 have W:Zn.wrap (srt.length:Int)=(srt.length:Int):=ah (by omega);have Z:Zn.wrap ((srt.length:Int)+4)=((srt.length+4:Nat):Int):=by rw[ah (by omega)];omega
 unfold dv;rw[if_neg (by simp;omega),e1,j6];show dF p (!decide ((72,65,89,49)=((72,65,89,49):Int×Int×Int×Int)))=_;unfold dF;rw[if_neg (by simp),i4,j6,i5,j6,e2,j6,W,Z,a1,if_neg (by simp;omega),e3,j6];refine fd (λi=>((i:Int),(⟨cols,srt.take i,[]⟩:aq))) srt.length ?_ (λi hi=>?_) ?_;·rw[ah (by omega)];rfl
 ·simp only[ef];obtain⟨hr,_⟩:=WR.1 h.so;have:=hr _ (Z1 hi);rw[if_pos (by simpa using hi),au hi,j6,aD (by simp;omega),j6,ah (by omega),ah (by omega),gj hi];rfl
 ·simp only[ef];rw[if_neg (by simp),Zf];unfold gK;have e4:sub (srt++(be4 (T.length:Int)++S)) (srt.length:Int) ((srt++(be4 (T.length:Int)++S)).length:Int)=some (be4 (T.length:Int)++S):=by rw[bP (by simp),Ym]
  have e5:sub (srt++(be4 (T.length:Int)++S)) ((srt.length+4:Nat):Int) ((srt++(be4 (T.length:Int)++S)).length:Int)=some S:=by rw[bP (by omega),←Zb,Yk (by simp[fj])]
  rw[W,Z,e4,j6,xW (by unfold U32;omega),j6,e5,j6];dsimp only;rw[rh (by omega) (by simp),j6,WH.2 h.none,if_pos (by simp)];unfold gJ;rw[decide_eq_true (by omega)]
theorem Dj{xs:List aa}(h:xs.length<=1048576):dT xs xs bM=some true:=by
 unfold dT;rw[if_neg (by simp)];refine fd (λi=>(i:Int)) xs.length rfl (λi hi=>?_) ?_
 ·simp only[bH];rw[if_pos (by simpa using hi),au hi,j6,j6];simp only[bM];rw[j6,if_neg (by simp),ah (by omega)];rfl
 ·simp only[bH];rw[if_neg (by simp)];rfl
theorem MC{cols:Int}{srt kinds:List Int}{T:List aa}(h:oY cols srt T)(W:∀v∈T,nq v)(hS:Srt (qlt srt) T)(hk:kinds.length<=1048576):et (sa cols srt kinds T)=some (some ⟨cols,srt,T⟩,0):=by
 have a5:=h.co;have d0:=h.le;have d1:=h.srt_le;have J:CV cols T:=CV.of h W;obtain⟨e3,d2⟩:=HH (srt:=srt) (kinds:=kinds) J (by omega);obtain⟨b1,a6⟩:=uB (b:=j8 cols srt kinds T) (by omega);obtain⟨b6,c2⟩:=Bu (kinds:=kinds) J (cols+3).toNat;have c6:(cols+3).toNat<=11:=by omega
 have b0:(gO cols kinds T (cols+3).toNat).length<=100000000:=Nat.le_trans c2 (by omega);have b4:(sa cols srt kinds T).length=(j8 cols srt kinds T).length+4:=by unfold sa;rw[Z0,fj]
 have hw:Zn.wrap (((sa cols srt kinds T).length:Int)-4)=((j8 cols srt kinds T).length:Int):=by rw[b4,ah (by omega)];omega
 have e1:sub (sa cols srt kinds T) ((j8 cols srt kinds T).length:Int) ((sa cols srt kinds T).length:Int)=some (be4 (fY (j8 cols srt kinds T))):=by rw[bP (by omega)];unfold sa;rw[Ym]
 have e2:sub (sa cols srt kinds T) 0 ((j8 cols srt kinds T).length:Int)=some (j8 cols srt kinds T):=by
  have:=cx (xs:=sa cols srt kinds T) (lo:=0) (hi:=(j8 cols srt kinds T).length) (by omega) (by omega);have e:(sa cols srt kinds T).take (j8 cols srt kinds T).length=j8 cols srt kinds T:=by unfold sa;rw[List.take_left]
  rw[e]at this;exact this
 have a4:=xW a6 [];rw[Zx]at a4;have c1:Zn.wrap (fY (j8 cols srt kinds T))=fY (j8 cols srt kinds T):=by unfold U32 at a6;rw[ah (by omega)]
 unfold et;rw[if_neg (by simp;omega),hw,e1,j6,a4,j6,e2,j6,b1,j6,c1];unfold gM;rw[if_neg (by simp),hw,e2,j6,MB h ⟨b6,b0⟩,j6,if_neg (by simp)];dsimp only;have c3:mk 5864062014805 (T.length:Int) aa.zero=some (T.map (tkV cols 0)):=by rw[vg (by omega),Y5 (g:=λ_=>aa.zero) (λv _=>OE a5.1 v),List.map_const']
 rw[c3,j6];have a2:∀n,n<(cols+3).toNat->(((Z4 (cols+3).toNat).drop n).map (nQ cols kinds T)).flatten=nQ cols kinds T n++(((Z4 (cols+3).toNat).drop (n+1)).map (nQ cols kinds T)).flatten:=by intro n hn;rw[Z3 (by simpa using hn)];simp
 have a9:∀k n:Nat,n+k=(cols+3).toNat->((((Z4 (cols+3).toNat).drop n).map (nQ cols kinds T)).flatten).length<=6400004*k:=by
  intro k;induction k with
  |zero=>intro n hn;rw[Z5 (by simp;omega)];simp|succ k ih=>intro n hn;rw[a2 n (by omega),Z0];have:=(HG (kinds:=kinds) J n).2;have:=ih (n+1) (by omega);omega
 refine fd (λn=>((((Z4 (cols+3).toNat).drop n).map (nQ cols kinds T)).flatten,(n:Int),T.map (tkV cols n))) (cols+3).toNat (by simp[gO]) (λn hn=>?_) ?_
 ·have b5:=a9 ((cols+3).toNat-(n+1)) (n+1) (by omega);have c7:6400004*((cols+3).toNat-(n+1))<=6400004*11:=Nat.mul_le_mul_left _ (by omega);obtain⟨R,hR⟩:∃R,R=(((Z4 (cols+3).toNat).drop (n+1)).map (nQ cols kinds T)).flatten:=⟨_,rfl⟩;obtain⟨B,hB⟩:∃B,B=tI (nr cols kinds n) (l7 cols n T):=⟨_,rfl⟩;obtain⟨b3,a1⟩:=Di (n:=n) J;have b2:=(Bt (kind:=nr cols kinds n) b3 a1).2;rw[←hB]at b2;rw[←hR]at b5;show bF ((T.length:Int),gO cols kinds T (cols+3).toNat,true,⟨cols,srt,[]⟩) ((((Z4 (cols+3).toNat).drop n).map (nQ cols kinds T)).flatten) (n:Int) (T.map (tkV cols n))=some (.inl ((((Z4 (cols+3).toNat).drop (n+1)).map (nQ cols kinds T)).flatten,((n+1:Nat):Int),T.map (tkV cols (n+1))));have hx:(((Z4 (cols+3).toNat).drop n).map (nQ cols kinds T)).flatten=be4 (B.length:Int)++(B++R):=by rw[a2 n hn,←hR];unfold nQ;rw[←hB,Zb]
  rw[hx,←hR];obtain⟨X,Z⟩:∃X,X=be4 (B.length:Int)++(B++R):=⟨_,rfl⟩;have e0:X.length=4+(B.length+R.length):=by rw[Z];simp[fj]
  have a3:dS X=some (B.length:Int):=by rw[Z];exact xW (by unfold U32;omega) _
  have a0:Zn.wrap (4+(B.length:Int))=((4+B.length:Nat):Int):=by rw[ah (by omega)];omega
  have s1:sub X 4 ((4+B.length:Nat):Int)=some B:=by have:=cx (xs:=X) (lo:=4) (hi:=4+B.length) (by omega) (by omega);rw[show((4:Nat):Int)=4 from rfl]at this;rw[this,Z,←Zb,Yl (by simp[fj]),Yk (fj _)]
  have s2:sub X ((4+B.length:Nat):Int) (X.length:Int)=some R:=by rw[bP (by omega),Z,←Zb,Yk (by simp[fj])]
  have b7:eF B (T.length:Int)=some (l7 cols n T,true):=by
   have c5:∀v∈l7 cols n T,Rgt v:=λv W=>by obtain⟨x,hx,rfl⟩:=Y9.1 W;exact HF J hx n
   have:=Km (kind:=nr cols kinds n) c5 a1;rw[←hB]at this;rw[show(l7 cols n T).length=T.length by simp[l7]]at this;exact this
  rw[←Z];unfold bF;dsimp only;rw[ah (by omega),if_pos (by simp;omega),if_neg (by simp;omega),a3,j6,a0,decide_eq_false (by omega)];unfold eP;rw[if_neg (by simp),a3,j6,a0,s1,j6];dsimp only;rw[b7,j6,if_neg (by simp)];dsimp only;rw[Mz J (by omega),j6];unfold fu;rw[if_neg (by simp),a0,s2,j6,ah (by omega)];rfl
 ·show bF ((T.length:Int),gO cols kinds T (cols+3).toNat,true,⟨cols,srt,[]⟩) ((((Z4 (cols+3).toNat).drop (cols+3).toNat).map (nQ cols kinds T)).flatten) ((cols+3).toNat:Int) (T.map (tkV cols (cols+3).toNat))=_;have hT:T.map (tkV cols (cols+3).toNat)=T:=by rw[Y5 (g:=id) (λv hm=>?_),List.map_id];obtain⟨h1,h2⟩:=J.ok v hm;exact P5 a5.1 (vo h1 h2).2.1
  rw[hT,Z5 (by simp)];unfold bF;dsimp only;rw[ah (by omega),if_neg (by simp;omega)];have c0:Rok T:=λv hm=>(W v hm).len;obtain⟨T',h1,h2⟩:=zu (cs:=srt) (xs:=T) (by omega) (by omega) c0;obtain rfl:=h2.unique (i7 srt) (Stb.refl hS);have c4:eJ (some ⟨cols,srt,T'⟩)=some true:=by
   unfold eJ;simp only[j6];rw[h1,j6,Dj (by omega)];rfl
  unfold eO;rw[if_neg (by simp)];simp only[j6];rw[rh (by omega) W,j6,WH.2 h,if_neg (by simp),c4,j6];rfl
def atB (l:List aa)(id:aO):Option Nat:=l.findIdx? λv=>decide (v.fId=id)
theorem Ko{l:List aa}{id:aO}(h:l.length<=1048576):eY l (λy=>dm y id)=some (((atB l id).map λi:Nat=>(i:Int)).getD (-1)):=by
 unfold eY;have key:∀k i:Nat,i+k=l.length->am (λs:Int=>d6 l (λy=>dm y id) s) (i:Int)=some (((atB (l.drop i) id).map λj=>((i+j:Nat):Int)).getD (-1)):=by
  intro k;induction k with
  |zero=>intro i hi;rw[Z5 (by omega)];apply aR;simp only[d6];rw[if_neg (by simp;omega)];rfl|succ k ih=>
    intro i hi;have J:i<l.length:=by omega
    unfold atB;rw[Z3 J,List.findIdx?_cons];by_cases he:l[i].fId=id
    ·rw[if_pos (by simpa using he)];apply aR;simp only[d6];rw[if_pos (by simpa using J),au J,j6];simp only[dm];rw[j6,if_pos (by simpa using he)];simp
    · rw[if_neg (by simpa using he)];rw[bI (s':=((i+1:Nat):Int))]
      ·rw[ih (i+1) (by omega)];unfold atB;cases (l.drop (i+1)).findIdx? λv=>decide (v.fId=id)with
        |none=>rfl|some j=>simp only[Zr,Yn];congr 1;omega
      ·simp only[d6];rw[if_pos (by simpa using J),au J,j6];simp only[dm];rw[j6,if_neg (by simpa using he),ah (by omega)];rfl
 have:=key l.length 0 (by omega);rw[Y8]at this;simpa using this
theorem Dk{f:aq}{id:aO}(h:f.fL.length<=1048576):eG (some f) id=some (((atB f.fL id).map λi:Nat=>(i:Int)).getD 0,(atB f.fL id).isSome):=by unfold eG;rw[j6,Ko h,j6];cases atB f.fL id with
 |none=>rfl|some i=>simp only[Zr,Yn,Option.isSome_some];rw[if_neg (by omega),decide_eq_true (by omega)]
theorem D6:xA=some true:=by
 let v1:aa:=⟨⟨1,0⟩,[⟨2,false,2,[]⟩],0⟩;let v2:aa:=⟨⟨2,0⟩,[⟨2,false,1,[]⟩],0⟩;have ok:∀(e n:Int),0<=e->e<10->0<=n->n<10->nq ⟨⟨e,0⟩,[⟨2,false,n,[]⟩],0⟩:=by
  intro e n h1 W h3 h4;refine⟨by dsimp only;omega,by dsimp only;omega,by dsimp only;omega,?_,by simp⟩;intro x hx;have:x=gY n:=by simpa using hx
  subst this;exact(Rgt.int n (by unfold cL;omega)).ok
 have J:∀v∈[v1,v2],nq v:=by
  intro v J;simp only[Yr,List.not_mem_nil,or_false]at J;rcases J with rfl|rfl;·exact ok 1 2 (by omega) (by omega) (by omega) (by omega)
  ·exact ok 2 1 (by omega) (by omega) (by omega) (by omega)
 have Z:oY 1 [0] [v1,v2]:=WH.1 (by decide);rcases IN (cols:=1) (srt:=[0]) (kinds:=[]) (by simp) (by simp) J with⟨h,_⟩|⟨_,T,W,hC,hw⟩;·exact absurd (WH.2 Z) h
 have hi:Stb (qlt [0]) ([]++[v1]++[v2]) ([]++v2::[v1]):=Stb.ins (i7 [0]) (by simp[Srt]) (by
  intro s hs;rw[List.mem_singleton]at hs;subst hs;decide) (by simp);obtain rfl:T=[v2,v1]:=Stb.unique (i7 [0]) W hi;have hr:=MC (kinds:=[]) (Z.stb W) (λv hm=>J v ((W.mem (i7 [0])).1 hm)) W.srt (by simp);unfold xA;rw[hw,j6,hr,j6,if_neg (by simp),if_neg (by simp)];unfold sr;dsimp only;rw[if_neg (by simp),Dk (by simp),j6];rfl
theorem D7{f:aq}(n:Nat)(W:n<=f.fL.length)(h:f.fL.length<=1048576)(J:Rok f.fL):fA (some f) (n:Int)=some (f.fL.drop n):=by
 unfold fA eu dU;rw[j6,bP W,j6];have:am (λs:Int×List aa=>cI (λ(s:List aa)x=>some (s++[x],true)) (f.fL.drop n) s.1 s.2) (0,[])=some (f.fL.drop n):=by
  refine fd (λi=>((i:Int),(f.fL.drop n).take i)) (f.fL.drop n).length (by simp) (λi hi=>?_) ?_
  ·simp only[cI];have hm:(f.fL.drop n)[i]∈f.fL:=Zl (Z1 hi);have hl:(f.fL.drop n).length<=f.fL.length:=by simp
   rw[if_pos (by simpa using hi),au hi,j6,own_eq (J _ hm),j6,j6,if_neg (by simp),ah (by omega),gj hi];rfl
  ·simp only[cI];rw[if_neg (by simp),Zf]
 rw[this];rfl
theorem P6{f:aq}(h:f.fL.length<=1048576)(J:Rok f.fL):iw (some f)=some f.fL:=by unfold iw;have:=D7 (f:=f) 0 (by omega) h J;rw[show((0:Nat):Int)=0 from rfl]at this;rw[this];rfl
theorem OF{l:List aa}(h:(l.map (·.fId)).Nodup){i:Nat}(hi:i<l.length):atB l l[i].fId=some i:=by unfold atB;rw[List.findIdx?_eq_some_iff_getElem];refine⟨hi,by simp,λj W=>?_⟩;have J:=(nodup_iff (l.map (·.fId))).1 h i (by simpa using hi);rw[Zy,decide_eq_false_iff_not]at J;simp only[decide_eq_true_eq];intro e;apply J;rw[Zp,←e];exact Y0 (i:=j) (by rw[X4 W,List.getElem?_map,zx (by omega)];rfl)
theorem Gl{O:Type}{lt:O->O->Bool}:∀A k:List O,lexL lt (A.take k.length) k=lexL lt A k
 |A,[]=>by cases A<;>rfl|[],_::_=>rfl|a::x,b::y=>by simp only[Zu,List.take_succ_cons,lexL,Gl x y]
def nR (srt:List Int)(k:List Ap)(T:List aa)(i:Nat):Bool:=match T[i]?with
 |none=>false|some v=>rlt (dx srt v.fRow) k
theorem Cu{srt:List Int}{k:List Ap}{T:List aa}(h:Srt (qlt srt) T){i j:Nat}(a0:i<=j)(J:nR srt k T j=true):nR srt k T i=true:=by
 rcases Nat.eq_or_lt_of_le a0 with rfl|hlt;·exact J
 unfold nR at J⊢;by_cases hj:j<T.length
 ·rw[zx hj]at J;rw[zx (by omega)];have W:=Zh.1 h i j (by omega) hj hlt;cases hi:rlt (dx srt T[i].fRow) k with
  |true=>exact hi|false=>
   have Z:rlt (dx srt T[j].fRow) (dx srt T[i].fRow)=false:=by unfold qlt oX at W;exact(Zk.1 W).1
   have h3:=XE.inc _ _ _ Z hi;dsimp only at J;rw[h3]at J;cases J
 ·rw[Yg (by omega)]at J;cases J
theorem Kp{k:List Ap}(h:k.length<=1048576):d5 k=some k:=by unfold d5;rw[aD (by simp;omega)];rfl
theorem G6 (srt:List Int)(n:Nat)(row:List Ap):dx (srt.take n) row=(dx srt row).take n:=by simp[dx,Ys]
theorem HI (srt:List Int)(k row:List Ap):rlt (dx (srt.take k.length) row) k=rlt (dx srt row) k:=by rw[G6];exact Gl _ _
theorem OG{f:aq}{k:List Ap}(hl:f.fL.length<=1048576)(hr:Rok f.fL)(hs:f.fSort.length<=1048576)(hk:k.length<=1048576)(hS:Srt (qlt f.fSort) f.fL):∃n,n<=f.fL.length/\(∀i,i<f.fL.length->(nR f.fSort k f.fL i=true↔i<n))/\gT (some f) k=some (f.fL.drop n):=by
 have hb:∃s:Nat,0<=s/\s<=f.fL.length/\(s=0\/nR f.fSort k f.fL (s-1)=true)/\(s=f.fL.length\/nR f.fSort k f.fL s=false)/\dM f.fL k (λa0 Z=>cQ a0 Z (f.fSort.take k.length))=(eh f.fL k (λa0 Z=>cQ a0 Z (f.fSort.take k.length)) s):=by
  unfold dM;refine Am (nR f.fSort k f.fL) 0 f.fL.length _ (λlo hi _ J W=>?_) (λs _ J=>?_) (Nat.zero_le _)
  ·simp only[fX];have hm:(lo+hi)/2<f.fL.length:=by omega
   have hc:((lo:Int)+(hi:Int))/2=(((lo+hi)/2:Nat):Int):=by omega
   rw[if_pos (by simpa using J),wE (by omega),hc,au hm,j6];unfold cQ;rw[Cs (by simp;omega),j6,xU (by rw[nO];simp;omega) (by omega),j6,Cp,HI];have hg:nR f.fSort k f.fL ((lo+hi)/2)=rlt (dx f.fSort f.fL[(lo+hi)/2].fRow) k:=by unfold nR;rw[zx hm]
   rw[hg];cases rlt (dx f.fSort f.fL[(lo+hi)/2].fRow) k with
   |true=>rw[if_pos rfl,if_pos rfl,j6,if_pos (by decide),ah (by omega)];rfl|false=>rw[if_neg (by simp),if_neg (by simp),j6,if_neg (by decide)]
  ·simp only[fX];rw[if_neg (by simp)]
 obtain⟨n,_,hn,J,W,h3⟩:=hb;refine⟨n,hn,λi hi=>⟨λh=>?_,λh=>?_⟩,?_⟩
 ·rcases W with rfl|W;·exact hi
  ·refine Nat.lt_of_not_le λa2=>?_;rw[Cu hS a2 h]at W;cases W
 ·rcases J with rfl|J;·omega
  ·exact Cu hS (by omega) J
 ·have hj:eh f.fL k (λa0 Z=>cQ a0 Z (f.fSort.take k.length)) n=some ((n:Int),false):=by
   unfold eh fW;by_cases hlt:n<f.fL.length
   ·rw[if_pos (by simpa using hlt),au hlt,j6];unfold cQ;dsimp only;rw[Cs (by simp;omega),j6,xU (by rw[nO];simp;omega) (by omega),j6,Cp];cases rlt (dx (f.fSort.take k.length) f.fL[n].fRow) k with
    |true=>rw[if_pos rfl,j6];rfl|false=>rw[if_neg (by simp),j6];rfl
   ·rw[if_neg (by simpa using hlt)]
  have a1:sub f.fSort 0 (if (k.length:Int)<(f.fSort.length:Int)then (k.length:Int)else (f.fSort.length:Int))=some (f.fSort.take k.length):=by
   by_cases hlt:k.length<f.fSort.length
   ·rw[if_pos (by omega)];have:=cx (xs:=f.fSort) (lo:=0) (hi:=k.length) (by omega) (by omega);rw[show((0:Nat):Int)=0 from rfl]at this;rw[this,Y8]
   ·rw[if_neg (by omega)];have:=cx (xs:=f.fSort) (lo:=0) (hi:=f.fSort.length) (by omega) (by omega);rw[show((0:Nat):Int)=0 from rfl]at this;rw[this,Y8,Zf,Z2 (by omega)]
  unfold gT;rw[Kp hk,j6];simp only[j6];rw[a1,j6,h3,hj,j6,D7 n hn hl hr];rfl
theorem Kq{l:List aa}(h:l.length<=1048576):uq l=some l:=by
 unfold uq;have key:∀(xs out:List aa),out.length+xs.length<=1048576->dB (λ(s:List aa) (x:aa)=>nG s x) out xs=some (out++xs,true):=by
  intro xs;induction xs with
  |nil=>intro out _;simp[dB]|cons x xs ih=>
   intro out J;simp only[Zu]at J;have W:nG out x=some (out++[x],true):=by unfold nG;rw[aD (by simp;omega),j6]
   simp only[dB];rw[W,j6,if_pos rfl,ih _ (by simp;omega)];simp
 rw[key l [] (by simpa using h)];rfl
theorem G7{b:List Int}(W:Byt b)(hl:b.length<=1000000000):∃g n e,iJ b=some (g,n,e)/\rM b=some (g,n,e)/\(e=0->(∀v∈g,Rgt v)/\1<=g.length/\∃k:Nat,n=(k:Int)/\0<k/\k<=b.length):=by
 rcases Dd W (by omega)with⟨k,m,z,v,w,d,r,hB,_⟩|⟨_,a0⟩
 ·have J:=F4 W (by omega) hB;have Z:=J6 W hl hB;rcases G4 k m z v w d r with⟨e,e1,e2⟩|⟨g,e1,c1,g1,g2,g3,_⟩
  ·rw[e1]at J Z;exact⟨_,_,_,J,Z,λh=>absurd h e2⟩
  ·rw[e1]at J Z;have hm:=hB.hm;have he:=hB.eq;refine⟨_,_,_,J,Z,λ_=>⟨g1,by omega,_,rfl,by omega,?_⟩⟩;have hr:4<=r.length:=by have:=congrArg List.length c1;rw[fj,Y3]at this;omega
   rw[he,Z0];omega
 ·obtain⟨J,_⟩:=Ov W (by omega) a0;exact⟨_,_,_,J,Mn W hl a0,λh=>by cases h⟩
def ju (b:List Int)(many:Int):List Ap×Bool:=(eF b many).getD ([],false)
theorem Kr (many:Nat)(hm:many<=4096):∀(n:Nat) (b:List Int) (J:List Ap),b.length=n->Byt b->b.length<=1000000000->J.length<=many->(∀v∈J,Rgt v)->∃l ok,am (λs:(List Int×List Ap)=>bO (many:Int) s.1 s.2) (b,J)=some (l,ok)/\am (λs:(List Int×List Ap)=>eZ (many:Int) s.1 s.2) (b,J)=some (l,ok)/\(ok=true->l.length=many/\∀v∈l,Rgt v):=by
 intro n;induction n using Y2 with|_ n ih=>
  intro b J hn hb hl ha hr;by_cases h0:0<b.length
  ·obtain⟨g,q,e,h1,h2,h3⟩:=G7 hb hl;by_cases he:e=0
   ·obtain⟨g1,g2,k,rfl,k1,k2⟩:=h3 he;have a0:(if Zn.wrap ((many:Int)-(J.length:Int))<64 then Zn.wrap ((many:Int)-(J.length:Int))else 64)=((min 64 (many-J.length):Nat):Int):=by rw[ah (by omega)];split<;>omega
    by_cases hc:g.length=min 64 (many-J.length)
    ·have Z:(((g.length:Int))!=((min 64 (many-J.length):Nat):Int))=false:=by rw[hc];simp
     have s1:bO (many:Int) b J=some (.inl (b.drop k,J++g)):=by unfold bO;rw[if_pos (by simpa using h0),h1,j6,if_neg (by simp[he])];dsimp only;rw[a0,Z];unfold gS;rw[if_neg (by simp)];dsimp only;rw[aD (by omega),j6,bP k2];rfl
     have s2:eZ (many:Int) b J=some (.inl (b.drop k,J++g)):=by unfold eZ;rw[if_pos (by simpa using h0),h2,j6,if_neg (by simp[he])];dsimp only;rw[a0,Z];unfold up;rw[if_neg (by simp)];dsimp only;rw[aD (by omega),j6,bP k2];rfl
     have q1:=bI (f:=λs:(List Int×List Ap)=>bO (many:Int) s.1 s.2) (s:=(b,J)) s1;have q2:=bI (f:=λs:(List Int×List Ap)=>eZ (many:Int) s.1 s.2) (s:=(b,J)) s2;rw[q1,q2];refine ih (b.drop k).length (by simp;omega) _ _ rfl (λc hc=>hb c (Zl hc)) (by simp;omega) (by simp;omega) (λv W=>?_);rcases Yj.1 W with W|W;·exact hr v W
     ·exact g1 v W
    ·have Z:(((g.length:Int))!=((min 64 (many-J.length):Nat):Int))=true:=by simp;omega
     refine⟨[],false,aR ?_,aR ?_,λh=>by cases h⟩
     ·show bO (many:Int) b J=_;unfold bO;rw[if_pos (by simpa using h0),h1,j6,if_neg (by simp[he])];dsimp only;rw[a0,Z];rfl
     ·show eZ (many:Int) b J=_;unfold eZ;rw[if_pos (by simpa using h0),h2,j6,if_neg (by simp[he])];dsimp only;rw[a0,Z];rfl
   ·refine⟨[],false,aR ?_,aR ?_,λh=>by cases h⟩
    ·show bO (many:Int) b J=_;unfold bO;rw[if_pos (by simpa using h0),h1,j6,if_pos (by simpa using he)];rfl
    ·show eZ (many:Int) b J=_;unfold eZ;rw[if_pos (by simpa using h0),h2,j6,if_pos (by simpa using he)];rfl
  ·refine⟨J,((J.length:Int)==(many:Int)),aR ?_,aR ?_,λh=>⟨by simp at h;omega,hr⟩⟩
   ·show bO (many:Int) b J=_;unfold bO;rw[if_neg (by simpa using h0)];rfl
   ·show eZ (many:Int) b J=_;unfold eZ;rw[if_neg (by simpa using h0)];rfl
theorem D8{b:List Int}{many:Nat}(W:Byt b)(hl:b.length<=1000000000)(hm:many<=4096):eF b (many:Int)=some (ju b many)/\vb b (many:Int)=some (ju b many)/\((ju b many).2=true->(ju b many).1.length=many/\∀v∈(ju b many).1,Rgt v):=by
 obtain⟨l,ok,h1,Z,h3⟩:=Kr many hm _ b [] rfl W hl (by simp) (by simp);have h:eF b (many:Int)=some (l,ok):=h1;have J:ju b many=(l,ok):=by unfold ju;rw[h];rfl
 rw[J];exact⟨h,Z,h3⟩
def l8 (many:Nat):Nat->List Int->Option (List (List Ap)×List Int)
 |0,X=>some ([],X)|k+1,X=>if X.length<4 then none else if X.length<4+(bv (X.take 4)).toNat then none else if (ju ((X.drop 4).take (bv (X.take 4)).toNat) many).2 then (l8 many k (X.drop (4+(bv (X.take 4)).toNat))).map λr=>((ju ((X.drop 4).take (bv (X.take 4)).toNat) many).1::r.1,r.2)else none
theorem MD (many:Nat)(hm:many<=4096):∀(k:Nat) (X:List Int) (r:List (List Ap)×List Int),Byt X->X.length<=1000000000->l8 many k X=some r->r.1.length=k/\(∀l∈r.1,l.length=many/\∀v∈l,Rgt v)/\Byt r.2/\r.2.length<=X.length:=by
 intro k;induction k with
 |zero=>
  intro X r J hl h;simp only[l8]at h;injection h with h;subst h;exact⟨rfl,by simp,J,Zw _⟩|succ k ih=>
  intro X r J hl h;simp only[l8]at h;by_cases c1:X.length<4;·rw[if_pos c1]at h;cases h
  rw[if_neg c1]at h;by_cases c2:X.length<4+(bv (X.take 4)).toNat;·rw[if_pos c2]at h;cases h
  rw[if_neg c2]at h;by_cases c3:(ju ((X.drop 4).take (bv (X.take 4)).toNat) many).2=true
  ·rw[if_pos c3]at h;obtain⟨Z,h1,rfl⟩:=Option.map_eq_some_iff.1 h;have hb:Byt ((X.drop 4).take (bv (X.take 4)).toNat):=λc W=>J c (Zl (Zv W));obtain⟨i1,i2,i3,i4⟩:=ih (X.drop (4+(bv (X.take 4)).toNat)) Z (λc W=>J c (Zl W)) (by simp;omega) h1;obtain⟨_,_,h4⟩:=D8 (many:=many) hb (by simp;omega) hm;refine⟨by simp[i1],λl hl=>?_,i3,by rw[X5]at i4;show Z.2.length<=X.length;omega⟩;rcases Yr.1 hl with rfl|hl;·exact h4 c3
   ·exact i2 l hl
  ·rw[if_neg c3]at h;cases h
theorem OH{σ β:Type}{f:σ->Option (σ⊕β)}{s:σ}(S:Nat->σ)(n:Nat)(J:Nat->Bool)(P:β->Prop)(h0:s=S 0)(step:∀i,i<n->J i=true->f (S i)=some (.inl (S (i+1))))(out:∀i,i<n->J i=false->∃b,P b/\f (S i)=some (.inr b))(W:(Z4 n).all J=false):∃b,P b/\am f s=some b:=by
 have key:∀k i:Nat,i+k=n->(List.range' i k).all J=false->∃b,P b/\am f (S i)=some b:=by
  intro k;induction k with
  |zero=>intro i hi h;simp at h|succ k ih=>intro i hi h;rw[Yd,List.all_cons]at h;cases hg:J i with
   |true=>rw[hg,X7]at h;rw[bI (step i (by omega) hg)];exact ih (i+1) (by omega) h|false=>obtain⟨b,h1,Z⟩:=out i (by omega) hg;exact⟨b,h1,aR Z⟩
 rw[h0];exact key n 0 (by omega) (by rw[←X9];exact W)
def atV (l:List Ap)(i:Nat):Ap:=l.getD i fR
def jv (c n:Nat)(v:Ap):Bool:=decide (n<c)||((v.fKind==2&&decide (0<=v.fInt))&&(decide (n≠c+1)||decide (v.fInt<=4294967295)))
def fw (c n:Nat)(l:List Ap):Bool:=l.all (jv c n)
def tkP (c:Nat)(pre:List (List Ap))(i:Nat):aa:=⟨⟨(pre[c]?).elim 0 λl=>(atV l i).fInt,(pre[c+1]?).elim 0 λl=>(atV l i).fInt⟩,(pre.take c).map λl=>atV l i,(pre[c+2]?).elim 0 λl=>(atV l i).fInt⟩
def d3 (c:Nat)(pre:List (List Ap))(many:Nat):List aa:=(Z4 many).map (tkP c pre)
theorem Ks (c:Nat)(pre:List (List Ap))(many:Nat):(d3 c pre many).length=many:=by simp[d3]
section
variable{c i:Nat}{pre:List (List Ap)}{l:List Ap}
theorem iz{n:Nat}(h:pre.length<=n):pre[n]?=none:=Yg h
theorem OI (h:pre.length<c):tkP c (pre++[l]) i={tkP c pre i with fRow:=(tkP c pre i).fRow++[atV l i]}:=by
 unfold tkP;rw[iz (pre:=pre++[l]) (n:=c) (by simp;omega),iz (pre:=pre++[l]) (n:=c+1) (by simp;omega),iz (pre:=pre++[l]) (n:=c+2) (by simp;omega),iz (pre:=pre) (n:=c) (by omega),iz (pre:=pre) (n:=c+1) (by omega),iz (pre:=pre) (n:=c+2) (by omega),Z2 (by simp;omega),Z2 (by omega)];simp
theorem P7 (h:pre.length=c):tkP c (pre++[l]) i={tkP c pre i with fId:={(tkP c pre i).fId with fEpoch:=(atV l i).fInt}}:=by
 unfold tkP;rw[iz (pre:=pre++[l]) (n:=c+1) (by simp;omega),iz (pre:=pre++[l]) (n:=c+2) (by simp;omega),iz (pre:=pre) (n:=c) (by omega),iz (pre:=pre) (n:=c+1) (by omega),iz (pre:=pre) (n:=c+2) (by omega),Yl h,Z2 (by omega),Ze (by omega),h];simp
theorem P8 (h:pre.length=c+1):tkP c (pre++[l]) i={tkP c pre i with fId:={(tkP c pre i).fId with fNumber:=(atV l i).fInt}}:=by
 unfold tkP;rw[iz (pre:=pre++[l]) (n:=c+2) (by simp;omega),iz (pre:=pre) (n:=c+1) (by omega),iz (pre:=pre) (n:=c+2) (by omega),X8 (by omega),Zz (i:=c) (by omega),Ze (i:=c+1) (by omega),h];simp
theorem P9 (h:pre.length=c+2):tkP c (pre++[l]) i={tkP c pre i with fDeleted:=(atV l i).fInt}:=by
 unfold tkP;rw[iz (pre:=pre) (n:=c+2) (by omega),X8 (by omega),Zz (i:=c) (by omega),Zz (i:=c+1) (by omega),Ze (i:=c+2) (by omega),h];simp
end
theorem ke{l:List Ap}{i:Nat}(h:i<l.length):atV l i=l[i]:=by simp[atV,h]
theorem nS{v:Ap}(h:Rgt v):cL v.fInt:=h.ok.int
theorem Cv{many:Nat}{l:List Ap}(h:l.length=many)(p:Ap->Bool):(Z4 many).all (λi=>p (atV l i))=l.all p:=by
 rw[Zm,Z7,Z7];constructor
 ·intro J v W;obtain⟨i,hi,rfl⟩:=Zd W;have:=J i (Zi.2 (by omega));rw[ke hi]at this;exact this
 ·intro J i hi;have hi':i<l.length:=by have:=Zi.1 hi;omega
  rw[ke hi'];exact J _ (Z1 hi')
theorem Kt{c n many:Nat}{srt:List Int}{pre:List (List Ap)}{l:List Ap}(hc:1<=c/\c<=8)(hn:pre.length=n)(b2:n<c+3)(hl:l.length=many)(hm:many<=4096)(hr:∀v∈l,Rgt v):(fw c n l=true->dw ⟨(c:Int),srt,[]⟩ (d3 c pre many) (n:Int) l=some (true,d3 c (pre++[l]) many))/\(fw c n l=false->∃xs,dw ⟨(c:Int),srt,[]⟩ (d3 c pre many) (n:Int) l=some (false,xs)):=by
 let S:Nat->Int×List aa:=λi=>((i:Int),(Z4 i).map (tkP c (pre++[l]))++((Z4 many).drop i).map (tkP c pre));have step:∀i,i<many->(λs:Int×List aa=>bL ⟨(c:Int),srt,[]⟩ (n:Int) l s.1 s.2) (S i)=if jv c n (atV l i)then some (.inl (S (i+1)))else some (.inr (false,(S i).2)):=by
  intro i hi;obtain⟨A,hA⟩:∃A,A=(Z4 i).map (tkP c (pre++[l])):=⟨_,rfl⟩;obtain⟨B,hB⟩:∃B,B=((Z4 many).drop (i+1)).map (tkP c pre):=⟨_,rfl⟩;have a5:A.length=i:=by rw[hA];simp
  have hS:(S i).2=A++tkP c pre i::B:=by show(Z4 i).map (tkP c (pre++[l]))++((Z4 many).drop i).map (tkP c pre)=_;rw[Z3 (by simpa using hi),Yf,hA,hB,List.getElem_range]
  have b0:S (i+1)=(((i+1:Nat):Int),A++tkP c (pre++[l]) i::B):=by show(((i+1:Nat):Int),(Z4 (i+1)).map (tkP c (pre++[l]))++((Z4 many).drop (i+1)).map (tkP c pre))=_;rw[Yi,Zc,hA,hB];simp
  have hx:(A++tkP c pre i::B)[i]?=some (tkP c pre i):=Kn a5;have a9:∀y,(A++tkP c pre i::B).set i y=A++y::B:=λy=>Gk a5;have W:i<l.length:=by omega
  have hv:idx l (i:Int)=some (atV l i):=by rw[au W,ke W]
  have a0:=nS (hr _ (Z1 W));rw[←ke W]at a0;unfold cL at a0;rw[b0];show bL ⟨(c:Int),srt,[]⟩ (n:Int) l (i:Int) (S i).2=_;rw[hS];unfold bL;rw[if_pos (by simp;omega),hv,j6,ng (by simp;omega),j6];obtain⟨v,J⟩:∃v,v=atV l i:=⟨_,rfl⟩;rw[←J]at a0⊢;have a6:∀z,cB (i:Int) z=some (.inl (((i+1:Nat):Int),z)):=λz=>by unfold cB;rw[ah (by omega)];rfl
  have a3:cC ⟨(c:Int),srt,[]⟩ (n:Int) (i:Int) (A++tkP c pre i::B) v i true=some (.inr (false,A++tkP c pre i::B)):=rfl;have a4:(c<=n->0<=v.fInt)->cC ⟨(c:Int),srt,[]⟩ (n:Int) (i:Int) (A++tkP c pre i::B) v i false=if (n≠c+1\/v.fInt<=4294967295)then some (.inl (((i+1:Nat):Int),A++tkP c (pre++[l]) i::B))else some (.inr (false,A++tkP c pre i::B)):=by
   intro a1;unfold cC;dsimp only;rw[if_neg (by simp),ah (by omega),hx];simp only[j6,a9,a6];by_cases c1:n=c
   ·have:=a1 (by omega);rw[if_pos (by simp;omega),if_pos (.inl (by omega)),P7 (by omega),←J,aU,Z9 (by omega) (by omega)]
   ·rw[if_neg (by simp;omega)];by_cases c2:n=c+1
    ·have:=a1 (by omega);rw[if_pos (by simp;omega)];by_cases c5:v.fInt<=4294967295;·rw[if_neg (by simp;omega),if_pos (.inr c5),P8 (by omega),←J,j9,Z9 (by omega) (by omega)]
     ·rw[if_pos (by simp;omega),if_neg (by omega)];rfl
    ·have hR:(n≠c+1\/v.fInt<=4294967295):=.inl c2;rw[if_neg (by simp;omega),if_pos hR];by_cases c3:n=c+2
     ·have:=a1 (by omega);rw[if_pos (by simp;omega),P9 (by omega),←J,aU,Z9 (by omega) (by omega)]
     ·have b1:(tkP c pre i).fRow.length<=8:=by simp[tkP];omega
      rw[if_neg (by simp;omega),aD (by simp;omega),j6,OI (by omega),←J]
  unfold jv;by_cases hnc:c<=n
  ·have hd:decide (n<c)=false:=decide_eq_false (by omega);rw[if_pos (by simpa using hnc),hd,Yq];by_cases hk:v.fKind=2
   ·rw[if_neg (by simp[hk])];by_cases hp:0<=v.fInt
    ·rw[decide_eq_false (by omega),a4 (λ_=>hp)];have e:((v.fKind==2&&decide (0<=v.fInt))&&(decide (n≠c+1)||decide (v.fInt<=4294967295)))=decide (n≠c+1\/v.fInt<=4294967295):=by rw[hk,decide_eq_true hp,Bool.decide_or];simp
     rw[e];by_cases hq:n≠c+1\/v.fInt<=4294967295;·rw[if_pos hq,if_pos (by simpa using hq)]
     ·rw[if_neg hq,if_neg (by simpa using hq)]
    ·rw[decide_eq_true (by omega),a3,if_neg (by simp;omega)]
   ·rw[if_pos (by simpa using hk),a3,if_neg (by simp[hk])]
  ·rw[if_neg (by simpa using hnc),decide_eq_true (by omega),Bool.true_or,if_pos rfl,a4 (λh=>absurd h hnc),if_pos (.inl (by omega))]
 have a2:((0:Int),d3 c pre many)=S 0:=by
  show _=(((0:Nat):Int),(Z4 0).map (tkP c (pre++[l]))++((Z4 many).drop 0).map (tkP c pre));simp[d3]
 have Z:(Z4 many).all (λi=>jv c n (atV l i))=fw c n l:=Cv hl _;constructor
 ·intro hg;rw[hg]at Z;unfold dw;refine fd S many a2 (λi hi=>?_) ?_
  ·have:=step i hi;rw[Z7.1 Z i (Zi.2 hi),if_pos rfl]at this;exact this
  ·show bL ⟨(c:Int),srt,[]⟩ (n:Int) l (many:Int) ((Z4 many).map (tkP c (pre++[l]))++((Z4 many).drop many).map (tkP c pre))=_;unfold bL;rw[if_neg (by simp;omega),Z5 (by simp)];unfold gL;simp[d3]
 ·intro hg;rw[hg]at Z;unfold dw;obtain⟨b,⟨xs,rfl⟩,h2⟩:=OH (f:=λs:Int×List aa=>bL ⟨(c:Int),srt,[]⟩ (n:Int) l s.1 s.2) S many (λi=>jv c n (atV l i)) (λb=>∃xs,b=(false,xs)) a2 (λi hi h=>by have:=step i hi;rw[h,if_pos rfl]at this;exact this) (λi hi h=>by have:=step i hi;rw[h,if_neg (by simp)]at this;exact⟨_,⟨_,rfl⟩,this⟩) Z;exact⟨xs,h2⟩
theorem Gm{c i:Nat}{pre:List (List Ap)}{x y z:List Ap}(h:pre.length=c):tkP c (pre++[x,y,z]) i=⟨⟨(atV x i).fInt,(atV y i).fInt⟩,pre.map λl=>atV l i,(atV z i).fInt⟩:=by
 unfold tkP;rw[Yl h,Ze (by omega),Ze (by omega),Ze (by omega),show c-pre.length=0 by omega,show c+1-pre.length=1 by omega,show c+2-pre.length=2 by omega];rfl
theorem Er{c many:Nat}{pre:List (List Ap)}{x y z:List Ap}(hc:1<=c/\c<=8)(W:pre.length=c)(hl:∀l∈pre++[x,y,z],l.length=many/\∀v∈l,Rgt v)(hm:many<=4096):po (c:Int) (pre++[x,y,z]) (many:Int)=some (if fw c c x&&fw c (c+1) y&&fw c (c+2) z then (d3 c (pre++[x,y,z]) many,true)else ([],false)):=by
 obtain⟨all,J⟩:∃all,all=pre++[x,y,z]:=⟨_,rfl⟩;have hx:=hl x (by simp);have hy:=hl y (by simp);have hz:=hl z (by simp);have ip:∀(j:Nat) (h:j<c),idx all (j:Int)=some (pre[j]'(by omega)):=λj h=>by rw[au (by rw[J];simp;omega)];simp[J,List.getElem_append_left (by omega:j<pre.length)]
 have i0:idx all (c:Int)=some x:=by rw[au (by rw[J];simp;omega)];simp[J,X3,W]
 have i1:idx all ((c:Int)+1)=some y:=by rw[show(c:Int)+1=((c+1:Nat):Int)by omega,au (by rw[J];simp;omega)];simp[J,X3,W]
 have i2:idx all ((c:Int)+2)=some z:=by rw[show(c:Int)+2=((c+2:Nat):Int)by omega,au (by rw[J];simp;omega)];simp[J,X3,W]
 have cell:∀{l:List Ap}{i:Nat},l.length=many->i<many->idx l (i:Int)=some (atV l i):=λh hi=>by rw[au (by omega),ke (by omega)]
 rw[←J];have row:∀(i:Nat) (xs:List aa),i<many->xs.length<=4096->gg (c:Int) all (many:Int) xs (i:Int)=if jv c c (atV x i)&&jv c (c+1) (atV y i)&&jv c (c+2) (atV z i)then some (.inl (xs++[tkP c all i],((i+1:Nat):Int)))else some (.inr ([],false)):=by
  intro i xs hi b4;have bx:=nS (hx.2 (atV x i) (by rw[ke (by omega)];exact Z1 _));have by_:=nS (hy.2 (atV y i) (by rw[ke (by omega)];exact Z1 _));have bz:=nS (hz.2 (atV z i) (by rw[ke (by omega)];exact Z1 _));unfold cL at bx by_ bz;unfold gg;rw[if_pos (by simpa using hi)];refine fd (λj=>((j:Int),(⟨aO.zero,(pre.take j).map (λl=>atV l i),0⟩:aa))) c (by simp) (λj Z=>?_) ?_
  ·simp only[lx];rw[if_pos (by simpa using Z),ip j Z,j6,cell (hl _ (by simp[Z1])).1 hi,j6,aD (by simp;omega),j6,ah (by omega),gj (by omega),Zc];rfl
  ·simp only[lx];rw[if_neg (by simp)];congr 1;unfold oE;rw[Z2 (by omega)];let kz:List Ap->Bool:=λl=>(atV l i).fKind==2&&decide (0<=(atV l i).fInt);obtain⟨v0,a6⟩:∃v0,v0=(⟨aO.zero,pre.map (λl=>atV l i),0⟩:aa):=⟨_,rfl⟩;rw[←a6];have st:∀(n:Nat) (l:List Ap),n<c+3->idx all (n:Int)=some l->l.length=many->ge (c:Int) all xs (i:Int) v0 (n:Int)=if kz l then some (.inl ((n+1:Nat):Int))else some (.inr (.inr ([],false))):=by
    intro n l hn hi' a5;unfold ge;rw[ah (by omega),if_pos (by simp;omega),hi',j6,cell a5 hi,j6];show _=if (atV l i).fKind==2&&decide (0<=(atV l i).fInt)then _ else _;by_cases hk:(atV l i).fKind=2
    ·have e:((atV l i).fKind==2)=true:=by simpa using hk
     rw[if_neg (by simp[hk]),j6,cell a5 hi,j6,e,X7];by_cases W:0<=(atV l i).fInt
     ·rw[decide_eq_false (by omega),decide_eq_true W,if_pos rfl];unfold lw;rw[if_neg (by simp),ah (by omega)];rfl
     ·rw[decide_eq_true (by omega),decide_eq_false W,if_neg (by simp)];rfl
    ·have e:((atV l i).fKind==2)=false:=by simpa using hk
     rw[if_pos (by simpa using hk),e,Yo,if_neg (by simp)];rfl
   have a9:ge (c:Int) all xs (i:Int) v0 ((c+3:Nat):Int)=(if decide ((atV y i).fInt<=4294967295)then some (Sum.inl (xs++[({{v0 with fId:=(⟨Yv.wrap (atV x i).fInt,IntKind.u32.wrap (atV y i).fInt⟩:aO)}with fDeleted:=Yv.wrap (atV z i).fInt}:aa)],((i+1:Nat):Int)))else some (Sum.inr ([],false)):Option ((List aa×Int)⊕(List aa×Bool))).map Sum.inr:=by
    unfold ge;rw[ah (by omega),if_neg (by simp)];congr 1;unfold oD;rw[ah (n:=(c:Int)+1) (by omega),i1,j6,cell hy.1 hi,j6];by_cases hq:(atV y i).fInt<=4294967295
    ·rw[if_neg (by simp;omega),i0,j6,cell hx.1 hi,j6,j6,cell hy.1 hi,j6,ah (n:=(c:Int)+2) (by omega),i2,j6,cell hz.1 hi,j6,aD (by simp;omega),j6,if_pos (by simpa using hq)];unfold oC;rw[ah (by omega)];rfl
    ·rw[if_pos (by simp;omega),if_neg (by simpa using hq)];rfl
   have hg:∀j:Nat,j<3->∃l,idx all ((c+j:Nat):Int)=some l/\l.length=many/\l=(if j=0 then x else if j=1 then y else z):=by
    intro j Z;rcases(by omega:j=0\/j=1\/j=2)with rfl|rfl|rfl;·exact⟨x,i0,hx.1,rfl⟩
    ·exact⟨y,by rw[show((c+1:Nat):Int)=(c:Int)+1 by omega];exact i1,hy.1,rfl⟩
    ·exact⟨z,by rw[show((c+2:Nat):Int)=(c:Int)+2 by omega];exact i2,hz.1,rfl⟩
   have a0:=mq (f:=λs:Int=>ge (c:Int) all xs (i:Int) v0 s) (s:=(c:Int)) (λj=>((c+j:Nat):Int)) 3 (λj=>kz (if j=0 then x else if j=1 then y else z)) (.inr ([],false)) _ rfl (λj Z h=>by
    obtain⟨l,h1,h2,h3⟩:=hg j Z;have:=st (c+j) l (by omega) h1 h2;rw[h3,h,if_pos rfl]at this;exact this) (λj Z h=>by
    obtain⟨l,h1,h2,h3⟩:=hg j Z;have:=st (c+j) l (by omega) h1 h2;rw[h3,h,if_neg (by simp)]at this;exact this) a9;refine a0.trans ?_;have e3:(Z4 3).all (λj=>kz (if j=0 then x else if j=1 then y else z))=(kz x&&(kz y&&kz z)):=by show(kz x&&(kz y&&(kz z&&true)))=_;rw[Bool.and_true]
   rw[e3];have g0:jv c c (atV x i)=kz x:=by show(decide (c<c)||(kz x&&(decide (c≠c+1)||_)))=kz x;rw[decide_eq_false (by omega),decide_eq_true (by omega)];simp
   have g1:jv c (c+1) (atV y i)=(kz y&&decide ((atV y i).fInt<=4294967295)):=by show(decide (c+1<c)||(kz y&&(decide (c+1≠c+1)||_)))=_;rw[decide_eq_false (by omega),decide_eq_false (by omega)];simp
   have g2:jv c (c+2) (atV z i)=kz z:=by show(decide (c+2<c)||(kz z&&(decide (c+2≠c+1)||_)))=kz z;rw[decide_eq_false (by omega),decide_eq_true (by omega)];simp
   rw[g0,g1,g2];have b0:kz x=true->kz y=true->kz z=true->(atV y i).fInt<=4294967295->({{v0 with fId:=(⟨Yv.wrap (atV x i).fInt,IntKind.u32.wrap (atV y i).fInt⟩:aO)}with fDeleted:=Yv.wrap (atV z i).fInt}:aa)=tkP c all i:=by intro a1 a2 a3 a4;have p1:0<=(atV x i).fInt:=of_decide_eq_true (Za _ _▸a1).2;have p2:0<=(atV y i).fInt:=of_decide_eq_true (Za _ _▸a2).2;have p3:0<=(atV z i).fInt:=of_decide_eq_true (Za _ _▸a3).2;rw[J,Gm W,a6,aU,aU,j9,Z9 p1 (by omega),Z9 p2 (by omega),Z9 p3 (by omega)]
   cases b1:kz x with
   |false=>rfl|true=>cases b2:kz y with
    |false=>rfl|true=>cases b3:kz z with
     |false=>simp|true=>
      by_cases hq:(atV y i).fInt<=4294967295;·rw[decide_eq_true hq,b0 b1 b2 b3 hq];rfl
      ·rw[decide_eq_false hq];rfl
 have a0:=mq (f:=λs:List aa×Int=>gg (c:Int) all (many:Int) s.1 s.2) (s:=([],0)) (λi=>((Z4 i).map (tkP c all),(i:Int))) many (λi=>jv c c (atV x i)&&jv c (c+1) (atV y i)&&jv c (c+2) (atV z i)) ([],false) (some (d3 c all many,true)) rfl (λi hi h=>by
  have:=row i ((Z4 i).map (tkP c all)) hi (by simp;omega);rw[h,if_pos rfl]at this;rw[Yi,Zc];exact this) (λi hi h=>by
  have:=row i ((Z4 i).map (tkP c all)) hi (by simp;omega);rw[h,if_neg (by simp)]at this;exact this) (by
  show gg (c:Int) all (many:Int) ((Z4 many).map (tkP c all)) (many:Int)=_;unfold gg;rw[if_neg (by simp)];rfl);refine a0.trans ?_;have e:(Z4 many).all (λi=>jv c c (atV x i)&&jv c (c+1) (atV y i)&&jv c (c+2) (atV z i))=(fw c c x&&fw c (c+1) y&&fw c (c+2) z):=by unfold fw;rw[←Cv hx.1,←Cv hy.1,←Cv hz.1,Zm];simp only[Za,Z7];exact⟨λh=>⟨⟨λi hi=>(h i hi).1.1,λi hi=>(h i hi).1.2⟩,λi hi=>(h i hi).2⟩,λh i hi=>⟨⟨h.1.1 i hi,h.1.2 i hi⟩,h.2 i hi⟩⟩
 rw[e];cases (fw c c x&&fw c (c+1) y&&fw c (c+2) z)<;>rfl
def tK (c:Nat):Nat->List (List Ap)->Bool
 |_,[]=>true|n,l::ls=>fw c n l&&tK c (n+1) ls
theorem nU{X:List Int}(h:Byt X)(n:Nat):Byt (X.take n):=λc J=>h c (Zv J)
theorem jb{X:List Int}(h:Byt X)(n:Nat):Byt (X.drop n):=λc J=>h c (Zl J)
theorem xX{X:List Int}(h:Byt X)(J:4<=X.length):0<=bv (X.take 4)/\bv (X.take 4)<4294967296:=by have:=wB (X.take 4) (nU h 4);rw[Y3,Ye J]at this;exact this
theorem Gn{many k:Nat}{X:List Int}(hX:Byt X)(hl:X.length<=1000000000)(hm:many<=4096)(h4:4<=X.length)(n:Nat)(Z:bv (X.take 4)=(n:Int))(a0:4+n<=X.length):eF ((X.drop 4).take n) (many:Int)=some (ju ((X.drop 4).take n) many)/\vb ((X.drop 4).take n) (many:Int)=some (ju ((X.drop 4).take n) many)/\((ju ((X.drop 4).take n) many).2=true->(ju ((X.drop 4).take n) many).1.length=many/\∀v∈(ju ((X.drop 4).take n) many).1,Rgt v)/\l8 many (k+1) X=if (ju ((X.drop 4).take n) many).2 then (l8 many k (X.drop (4+n))).map λr=>((ju ((X.drop 4).take n) many).1::r.1,r.2)else none:=by obtain⟨W,h,J⟩:=D8 (many:=many) (nU (jb hX 4) n) (by simp;omega) hm;refine⟨W,h,J,?_⟩;simp only[l8];rw[Z,Y7,if_neg (by omega),if_neg (by omega)]
theorem OK{c many:Nat}{srt rest0:List Int}{ok:Bool}(hc:1<=c/\c<=8)(hm:many<=4096):∀(k:Nat) (X:List Int) (pre:List (List Ap)),pre.length+k=c+3->Byt X->X.length<=1000000000->am (λs:(List Int×Int×List aa)=>bF ((many:Int),rest0,ok,⟨(c:Int),srt,[]⟩) s.1 s.2.1 s.2.2) (X,(pre.length:Int),d3 c pre many)=match l8 many k X with
 |none=>some (none,80)|some r=>if tK c pre.length r.1 then eO ((many:Int),rest0,ok,⟨(c:Int),srt,[]⟩) r.2 (d3 c (pre++r.1) many)else some (none,80):=by
 intro k;induction k with
 |zero=>
  intro X pre hk W hl;simp only[l8,tK,if_true,Zx];rw[nt];have:bF ((many:Int),rest0,ok,⟨(c:Int),srt,[]⟩) X (pre.length:Int) (d3 c pre many)=(eO ((many:Int),rest0,ok,⟨(c:Int),srt,[]⟩) X (d3 c pre many)).map Sum.inr:=by unfold bF;dsimp only;rw[ah (by omega),if_neg (by simp;omega)]
  simp only[this];cases eO ((many:Int),rest0,ok,⟨(c:Int),srt,[]⟩) X (d3 c pre many)<;>rfl|succ k ih=>
  intro X pre hk W hl;have Z:∀q,bF ((many:Int),rest0,ok,⟨(c:Int),srt,[]⟩) X (pre.length:Int) (d3 c pre many)=q->q=some (.inr (none,80))->am (λs:(List Int×Int×List aa)=>bF ((many:Int),rest0,ok,⟨(c:Int),srt,[]⟩) s.1 s.2.1 s.2.2) (X,(pre.length:Int),d3 c pre many)=some (none,80):=λq h1 h2=>aR (h1.trans h2);by_cases h4:4<=X.length
  ·obtain⟨a3,a5⟩:=xX W h4;obtain⟨n,hn⟩:=Z6 a3;have a1:=vR W h4;rw[hn]at a1 a5;have hw:Zn.wrap (4+(n:Int))=((4+n:Nat):Int):=by rw[ah (by omega)];omega
   have h:bF ((many:Int),rest0,ok,⟨(c:Int),srt,[]⟩) X (pre.length:Int) (d3 c pre many)=eP ((many:Int),rest0,ok,⟨(c:Int),srt,[]⟩) X (pre.length:Int) (d3 c pre many) (decide (X.length<4+n)):=by unfold bF;dsimp only;rw[ah (by omega),if_pos (by simp;omega),if_neg (by simp;omega),a1,j6,hw];congr 1;rw[Zm,decide_eq_true_eq,decide_eq_true_eq];omega
   by_cases hle:4+n<=X.length
   ·obtain⟨v1,_,v3,v4⟩:=Gn (k:=k) W hl hm h4 n hn hle;rw[decide_eq_false (by omega)]at h;have a4:sub X 4 ((4+n:Nat):Int)=some ((X.drop 4).take n):=by have:=cx (xs:=X) (lo:=4) (hi:=4+n) (by omega) (by omega);rw[show((4:Nat):Int)=4 from rfl]at this;rw[this,Y1,show 4+n-4=n by omega]
    obtain⟨l,a0,hv⟩:∃l a0,ju ((X.drop 4).take n) many=(l,a0):=⟨_,_,rfl⟩;rw[hv]at v1 v3 v4;have J:eP ((many:Int),rest0,ok,⟨(c:Int),srt,[]⟩) X (pre.length:Int) (d3 c pre many) false=if !a0 then fu X (pre.length:Int) (n:Int) true (d3 c pre many)else (dw ⟨(c:Int),srt,[]⟩ (d3 c pre many) (pre.length:Int) l).bind λa2=>fu X (pre.length:Int) (n:Int) (!a2.1) a2.2:=by unfold eP;dsimp only;rw[if_neg (by simp),a1,j6,hw,a4,j6,v1,j6]
    rw[v4];cases a0 with
    |false=>exact Z _ (h.trans J) rfl|true=>obtain⟨w1,w2⟩:=v3 rfl;obtain⟨t1,t2⟩:=Kt (srt:=srt) (pre:=pre) hc rfl (by omega) w1 hm w2;dsimp only at J⊢;rw[if_neg (by simp)]at J;rw[if_pos rfl];cases hg:fw c pre.length l with
     |false=>obtain⟨xs,t3⟩:=t2 hg;rw[t3,j6]at J;rw[Z _ (h.trans J) rfl];cases l8 many k (X.drop (4+n))with
      |none=>rfl|some r=>
       simp only[Zr,tK,hg,Yo];rfl
     |true=>
      rw[t1 hg,j6]at J;have a6:bF ((many:Int),rest0,ok,⟨(c:Int),srt,[]⟩) X (pre.length:Int) (d3 c pre many)=some (.inl (X.drop (4+n),(((pre++[l]).length:Nat):Int),d3 c (pre++[l]) many)):=by rw[h,J];unfold fu;rw[if_neg (by simp),hw,bP hle,j6,ah (by omega)];simp
      have q1:=bI (f:=λs:(List Int×Int×List aa)=>bF ((many:Int),rest0,ok,⟨(c:Int),srt,[]⟩) s.1 s.2.1 s.2.2) (s:=(X,(pre.length:Int),d3 c pre many)) a6;rw[q1,ih (X.drop (4+n)) (pre++[l]) (by simp;omega) (jb W _) (by simp;omega)];cases l8 many k (X.drop (4+n))with
      |none=>rfl|some r=>simp only[Zr,tK,hg,X7,Z0,Zu,List.length_nil,Zb,Zt,Zo]
   ·rw[decide_eq_true (by omega)]at h;rw[Z _ h rfl];simp only[l8];rw[hn,Y7,if_neg (by omega),if_pos (by omega)]
  ·have h:bF ((many:Int),rest0,ok,⟨(c:Int),srt,[]⟩) X (pre.length:Int) (d3 c pre many)=eP ((many:Int),rest0,ok,⟨(c:Int),srt,[]⟩) X (pre.length:Int) (d3 c pre many) true:=by unfold bF;dsimp only;rw[ah (by omega),if_pos (by simp;omega),if_pos (by simp;omega)]
   rw[Z _ h rfl];simp only[l8];rw[if_pos (by omega)]
def uD:aX×Int:=(⟨0,[],[]⟩,80)
theorem ME{c many e:Nat}{p0 srt:List Int}(hc:1<=c/\c<=8)(hm:many<=4096)(hp:Byt p0)(b5:p0.length=e+4)(he:e<=1000000000):∀(k a:Nat) (pre:List (List Ap)),pre.length+k=c+3->a<=e->am (λs:(Int×(List (List Ap))×Int)=>fQ p0 ⟨(c:Int),srt,[]⟩ (many:Int) s.1 s.2.1 s.2.2) ((a:Int),pre,(pre.length:Int))=match l8 many k ((p0.take e).drop a)with
 |none=>some uD|some r=>oF p0 ⟨(c:Int),srt,[]⟩ (many:Int) ((e-r.2.length:Nat):Int) (pre++r.1):=by
 have a3:Zn.wrap ((p0.length:Int)-4)=(e:Int):=by rw[ah (by omega)];omega
 intro k;induction k with
 |zero=>
  intro a pre hk ha;simp only[l8,Zx];have b3:e-((p0.take e).drop a).length=a:=by simp;omega
  rw[nt,b3];have:fQ p0 ⟨(c:Int),srt,[]⟩ (many:Int) (a:Int) pre (pre.length:Int)=(oF p0 ⟨(c:Int),srt,[]⟩ (many:Int) (a:Int) pre).map Sum.inr:=by unfold fQ;dsimp only;rw[ah (n:=(c:Int)+3) (by omega),if_neg (by simp;omega)]
  simp only[this];cases oF p0 ⟨(c:Int),srt,[]⟩ (many:Int) (a:Int) pre<;>rfl|succ k ih=>
  intro a pre hk ha;obtain⟨X,J⟩:∃X,X=(p0.take e).drop a:=⟨_,rfl⟩;have hX:Byt X:=by rw[J];exact jb (nU hp _) _
  have b7:X.length=e-a:=by rw[J];simp;omega
  rw[←J];have a0:Zn.wrap ((a:Int)+4)=((a+4:Nat):Int):=by rw[ah (by omega)];omega
  have a2:∀q,fQ p0 ⟨(c:Int),srt,[]⟩ (many:Int) (a:Int) pre (pre.length:Int)=q->q=some (.inr uD)->am (λs:(Int×(List (List Ap))×Int)=>fQ p0 ⟨(c:Int),srt,[]⟩ (many:Int) s.1 s.2.1 s.2.2) ((a:Int),pre,(pre.length:Int))=some uD:=λq h1 h2=>aR (h1.trans h2);have a4:∀i j:Nat,i<=j->a+j<=e->(p0.take (a+j)).drop (a+i)=(X.drop i).take (j-i):=by intro i j b6 hj;rw[J,List.drop_drop,Y1,Y1,List.take_take];congr 1;omega
  by_cases h4:4<=X.length
  ·obtain⟨b1,b4⟩:=xX hX h4;obtain⟨n,Z⟩:=Z6 b1;have a6:sub p0 (a:Int) ((a+4:Nat):Int)=some (X.take 4):=by rw[cx (xs:=p0) (lo:=a) (hi:=a+4) (by omega) (by omega)];have:=a4 0 4 (by omega) (by omega);simpa using this
   have a9:it (X.take 4)=some (n:Int):=by rw[mJ _ (nU hX 4) (by simp;omega),Z]
   rw[Z]at b4;have a5:Zn.wrap (n:Int)=(n:Int):=ah (by omega);have b0:Zn.wrap (((a+4:Nat):Int)+(n:Int))=((a+(4+n):Nat):Int):=by rw[ah (by omega)];omega
   have h:fQ p0 ⟨(c:Int),srt,[]⟩ (many:Int) (a:Int) pre (pre.length:Int)=oG p0 (many:Int) (a:Int) pre (pre.length:Int) (decide (X.length<4+n)):=by unfold fQ;dsimp only;rw[ah (n:=(c:Int)+3) (by omega),if_pos (by simp;omega),a3,a0,if_neg (by simp;omega),a6,j6,a9,j6,a5,b0];congr 1;rw[Zm,decide_eq_true_eq,decide_eq_true_eq];omega
   by_cases hle:4+n<=X.length
   ·obtain⟨_,v1,v3,v4⟩:=Gn (k:=k) hX (by omega) hm h4 n Z hle;rw[decide_eq_false (by omega)]at h;have b2:sub p0 ((a+4:Nat):Int) ((a+(4+n):Nat):Int)=some ((X.drop 4).take n):=by rw[cx (xs:=p0) (lo:=a+4) (hi:=a+(4+n)) (by omega) (by omega),a4 4 (4+n) (by omega) (by omega),show 4+n-4=n by omega]
    obtain⟨l,W,hv⟩:∃l W,ju ((X.drop 4).take n) many=(l,W):=⟨_,_,rfl⟩;rw[hv]at v1 v3 v4;have a1:oG p0 (many:Int) (a:Int) pre (pre.length:Int) false=if !W then some (.inr uD)else some (.inl (((a+(4+n):Nat):Int),pre++[l],(((pre++[l]).length:Nat):Int))):=by unfold oG;rw[if_neg (by simp),a0,a6,j6,a9,j6,a5,b0,b2,j6,ah (n:=(many:Int)) (by omega),v1,j6];cases W with
     |false=>rfl|true=>rw[if_neg (by simp),if_neg (by simp),aD (by simp;omega),j6,ah (by omega)];simp
    rw[v4];cases W with
    |false=>exact a2 _ (h.trans a1) rfl|true=>
     rw[if_neg (by simp)]at a1;have q1:=bI (f:=λs:(Int×(List (List Ap))×Int)=>fQ p0 ⟨(c:Int),srt,[]⟩ (many:Int) s.1 s.2.1 s.2.2) (s:=((a:Int),pre,(pre.length:Int))) (h.trans a1);dsimp only at q1⊢;rw[q1,ih (a+(4+n)) (pre++[l]) (by simp;omega) (by omega),if_pos rfl];have hd:(p0.take e).drop (a+(4+n))=X.drop (4+n):=by rw[J,List.drop_drop]
     rw[hd];cases l8 many k (X.drop (4+n))with
     |none=>rfl|some r=>simp only[Zr,Zb,Zt,Zo]
   ·rw[decide_eq_true (by omega)]at h;rw[a2 _ h rfl];simp only[l8];rw[Z,Y7,if_neg (by omega),if_pos (by omega)]
  ·have h:fQ p0 ⟨(c:Int),srt,[]⟩ (many:Int) (a:Int) pre (pre.length:Int)=oG p0 (many:Int) (a:Int) pre (pre.length:Int) true:=by unfold fQ;dsimp only;rw[ah (n:=(c:Int)+3) (by omega),if_pos (by simp;omega),a3,a0,if_pos (by simp;omega)]
   rw[a2 _ h rfl];simp only[l8];rw[if_pos (by omega)]
def Gp (srt:List Int)(T:List aa)(i:Nat):Bool:=match T[i]?,T[i+1]?with
 |some a,some b=>qlt srt a b|_,_=>true
def sM (srt:List Int)(T:List aa):Bool:=(Z4 (T.length-1)).all (Gp srt T)
theorem Aq{srt:List Int}{T:List aa}{i:Nat}(h:i+1<T.length):Gp srt T i=qlt srt T[i] T[i+1]:=by unfold Gp;rw[zx (by omega),zx h]
theorem OL{srt:List Int}{a b:aa}(h1:qlt srt a b=false)(Z:qlt srt b a=false):a.fId=b.fId:=by
 unfold qlt oX at h1 Z;have W:=Zk.1 h1;have e2:=Zk.1 Z;have h:ilt a.fId b.fId=false:=by have:=W.2;rw[e2.1]at this;simpa using this
 have J:ilt b.fId a.fId=false:=by have:=e2.2;rw[W.1]at this;simpa using this
 unfold ilt oX at h J;simp only[Zk,Zq,decide_eq_false_iff_not,Y6,decide_eq_true_eq]at h J;cases ha:a.fId;cases hb:b.fId;rw[ha,hb]at h J;dsimp only at h J;congr 1<;>omega
theorem Qa{T:List aa}(h:(T.map (·.fId)).Nodup){a b:aa}(ha:a∈T)(Z:b∈T)(J:a.fId=b.fId):a=b:=by
 obtain⟨i,hi,rfl⟩:=Zd ha;obtain⟨j,W,rfl⟩:=Zd Z;unfold List.Nodup at h;rw[Zh]at h;rcases Nat.lt_trichotomy i j with h1|h1|h1;·exact absurd (by rw[Zp,Zp];exact J) (h i j (by simpa using hi) (by simpa using W) h1)
 ·subst h1;rfl
 ·exact absurd (by rw[Zp,Zp];exact J.symm) (h j i (by simpa using W) (by simpa using hi) h1)
theorem D9{srt:List Int}{T:List aa}(h:sM srt T=true):Srt (qlt srt) T:=by
 have step:∀i,i+1<T.length->∀(J:i+1<T.length),qlt srt T[i] T[i+1]=true:=λi hi J=>by rw[←Aq J];exact Z7.1 h i (Zi.2 (by omega))
 have key:∀(k i:Nat) (J:i+(k+1)<T.length),qlt srt T[i] T[i+(k+1)]=true:=by
  intro k;induction k with
  |zero=>intro i J;exact step i (by omega) J|succ k ih=>intro i J;exact(i7 srt).tr _ _ _ (ih i (by omega)) (step (i+(k+1)) (by omega) (by omega))
 unfold Srt;rw[Zh];intro i j hi W Z;have:=key (j-i-1) i (by omega);have e:i+(j-i-1+1)=j:=by omega
 simp only[e]at this;exact(i7 srt).asym this
theorem Gq{cols:Int}{srt:List Int}{T:List aa}(hs:srt.length<=1048576)(hA:oY cols srt T)(hr:Rok T):eJ (some ⟨cols,srt,T⟩)=some (sM srt T):=by
 have a2:=hA.le;obtain⟨_,Z⟩:=WS.1 hA.ro;obtain⟨T',h1,W⟩:=zu (cs:=srt) (xs:=T) hs (by omega) hr;have hl:T'.length=T.length:=W.len (i7 srt);unfold eJ;simp only[j6];rw[h1,j6];unfold dT;rw[if_neg (by simp;omega)];let same:Nat->Bool:=λi=>decide ((T'[i]?).map (·.fId)=(T[i]?).map (·.fId));have a1:=mq (f:=λs:Int=>bH T' T bM s) (s:=0) (λi=>(i:Int)) T'.length same false (some true) rfl (λi hi h=>by
  have J:=of_decide_eq_true h;rw[zx hi,zx (by omega)]at J;simp only[Zr,Option.some.injEq]at J;show bH T' T bM (i:Int)=_;unfold bH;rw[if_pos (by simpa using hi),au hi,j6,au (by omega),j6];unfold bM;rw[j6,decide_eq_true J,if_neg (by simp),ah (by omega)];rfl) (λi hi h=>by
  have J:=of_decide_eq_false h;rw[zx hi,zx (by omega)]at J;simp only[Zr,Option.some.injEq]at J;show bH T' T bM (i:Int)=_;unfold bH;rw[if_pos (by simpa using hi),au hi,j6,au (by omega),j6];unfold bM;rw[j6,decide_eq_false J,if_pos (by simp)];rfl) (by
  show bH T' T bM (T'.length:Int)=_;unfold bH;rw[if_neg (by simp)];rfl);rw[a1];have e:(Z4 T'.length).all same=sM srt T:=by
  rw[Zm];constructor
  ·intro h;have a0:T'=T:=by apply List.ext_getElem hl;intro i h3 h4;have h5:=of_decide_eq_true (Z7.1 h i (Zi.2 h3));rw[zx h3,zx h4]at h5;simp only[Zr,Option.some.injEq]at h5;exact Qa Z ((W.mem (i7 srt)).1 (Z1 h3)) (Z1 h4) h5
   have hS:=W.srt;rw[a0]at hS;unfold Srt at hS;rw[Zh]at hS;unfold sM;rw[Z7];intro i hi;have hi':i+1<T.length:=by have:=Zi.1 hi;omega
   rw[Aq hi'];have h6:=hS i (i+1) (by omega) hi' (by omega);cases h7:qlt srt T[i] T[i+1]with
   |true=>rfl|false=>have h8:=OL h7 h6;unfold List.Nodup at Z;rw[Zh]at Z;exact absurd (by rw[Zp,Zp];exact h8) (Z i (i+1) (by simp;omega) (by simpa using hi') (by omega))
  ·intro h;have a0:T'=T:=W.unique (i7 srt) (Stb.refl (D9 h));rw[Z7];intro i _;show decide _=true;rw[a0];simp
 rw[e];cases sM srt T<;>rfl
theorem Ku{c n:Nat}(h:n<c)(l:List Ap):fw c n l=true:=by unfold fw jv;rw[decide_eq_true h];simp
theorem Cw{c:Nat}{x y z:List Ap}:∀(pre:List (List Ap)) (n:Nat),n+pre.length=c->tK c n (pre++[x,y,z])=(fw c c x&&fw c (c+1) y&&fw c (c+2) z)
 |[],n,h=>by
  obtain rfl:n=c:=by simpa using h
  simp[tK,Bool.and_assoc]|l::ls,n,h=>by simp only[Zu]at h;rw[Zt,tK,Ku (by omega),X7];exact Cw ls (n+1) (by omega)
theorem MG{c many:Nat}{pre:List (List Ap)}{x y z:List Ap}(hc:1<=c/\c<=8)(hp:pre.length=c)(hl:∀l∈pre++[x,y,z],l.length=many/\∀v∈l,Rgt v)(h:(fw c c x&&fw c (c+1) y&&fw c (c+2) z)=true):∀v∈d3 c (pre++[x,y,z]) many,nq v:=by
 intro v hv;obtain⟨i,hi,rfl⟩:=Y9.1 hv;have hi':=Zi.1 hi;have hx:=hl x (by simp);have hy:=hl y (by simp);have hz:=hl z (by simp);simp only[Za]at h;have mx:atV x i∈x:=by rw[ke (by omega)];exact Z1 _
 have Z:atV y i∈y:=by rw[ke (by omega)];exact Z1 _
 have W:atV z i∈z:=by rw[ke (by omega)];exact Z1 _
 have gx:=Z7.1 h.1.1 _ mx;have J:=Z7.1 h.1.2 _ Z;have gz:=Z7.1 h.2 _ W;have bx:=nS (hx.2 _ mx);have by_:=nS (hy.2 _ Z);have bz:=nS (hz.2 _ W);unfold cL at bx by_ bz;unfold jv at gx J gz;rw[decide_eq_false (by omega)]at gx J gz;simp only[Yq,Za,Yh,decide_eq_true_eq]at gx J gz;rw[Gm hp];refine⟨by dsimp only;omega,by dsimp only;omega,by dsimp only;omega,λw hw=>?_,by simp;omega⟩;obtain⟨l,a0,rfl⟩:=Y9.1 hw;have h3:=hl l (by simp[a0]);exact(h3.2 _ (by rw[ke (by omega)];exact Z1 _)).ok
def M9 (p:Option (Option aq×Int))(q:Option (aX×Int)):Prop:=(p=some (none,80)/\q=some uD)\/∃cols srt T,oY cols srt T/\(∀v∈T,nq v)/\Srt (qlt srt) T/\srt.length<=1048576/\p=some (some ⟨cols,srt,T⟩,0)/\q=some (⟨cols,srt,T⟩,0)
theorem Kv{c many e:Nat}{b srt rest0 rest:List Int}{cs:List (List Ap)}{ok:Bool}(hc:1<=c/\c<=8)(hm:many<=4096)(W:srt.length<=1048576)(a5:cs.length=c+3)(hl:∀l∈cs,l.length=many/\∀v∈l,Rgt v)(a6:b.length=e+4)(he:e<=1000000000)(b0:rest.length<=e):M9 (if tK c 0 cs then eO ((many:Int),rest0,ok,⟨(c:Int),srt,[]⟩) rest (d3 c cs many)else some (none,80)) (oF b ⟨(c:Int),srt,[]⟩ (many:Int) ((e-rest.length:Nat):Int) cs):=by
 obtain⟨pre,x,y,z,hp,rfl⟩:∃pre x y z,pre.length=c/\cs=pre++[x,y,z]:=by
  refine⟨cs.take c,cs[c],cs[c+1],cs[c+2],by simp;omega,?_⟩;have h1:cs.drop c=[cs[c],cs[c+1],cs[c+2]]:=by rw[Z3 (by omega),Z3 (by omega),Z3 (by omega),Z5 (by omega)]
  rw[←h1,Z8]
 have a4:Zn.wrap ((b.length:Int)-4)=(e:Int):=by rw[ah (by omega)];omega
 have hv:=Er hc hp hl hm;rw[Cw pre 0 (by omega)];unfold oF;dsimp only;rw[ah (n:=(many:Int)) (by omega),hv,j6];cases hg:(fw c c x&&fw c (c+1) y&&fw c (c+2) z)with
 |false=>exact .inl ⟨rfl,rfl⟩|true=>
  have J:=MG hc hp hl hg;have a1:=Ks c (pre++[x,y,z]) many;obtain⟨T,hT⟩:∃T,T=d3 c (pre++[x,y,z]) many:=⟨_,rfl⟩;rw[←hT]at J a1⊢;have a0:Rok T:=λv hm=>(J v hm).len;rw[if_pos rfl,if_pos rfl,if_neg (by simp),a4];unfold eO;by_cases h0:0<rest.length
  ·rw[if_pos (by simpa using h0),if_pos (by simp;omega)];exact .inl ⟨rfl,rfl⟩
  ·rw[if_neg (by simpa using h0),if_neg (by simp;omega)];simp only[j6];rw[rh W J,HE W J,j6,j6];by_cases hr:nP (c:Int) srt T=0
   ·have Z:=WH.1 hr;have a9:=Z.le;rw[hr,if_neg (by simp),Gq W Z a0,j6];have a3:qZ ⟨(c:Int),srt,[]⟩ (T,true) ((0:Int)!=0)=some (if sM srt T then (⟨(c:Int),srt,T⟩,0)else uD):=by
     unfold qZ;rw[if_neg (by simp)];have a2:=mq (f:=λs:Int=>ky ⟨(c:Int),srt,[]⟩ (T,true) s) (s:=1) (λi=>((i+1:Nat):Int)) (T.length-1) (Gp srt T) uD (some (⟨(c:Int),srt,T⟩,0)) rfl (λi hi h=>by
      rw[Aq (by omega)]at h;show ky ⟨(c:Int),srt,[]⟩ (T,true) ((i+1:Nat):Int)=_;unfold ky;dsimp only;rw[if_pos (by simp;omega),ah (by omega),show((i+1:Nat):Int)-1=(i:Int)by omega,au (by omega),j6,au (by omega),j6,D2 (by omega),j6,h,if_neg (by simp),ah (by omega)];rfl) (λi hi h=>by
      rw[Aq (by omega)]at h;show ky ⟨(c:Int),srt,[]⟩ (T,true) ((i+1:Nat):Int)=_;unfold ky;dsimp only;rw[if_pos (by simp;omega),ah (by omega),show((i+1:Nat):Int)-1=(i:Int)by omega,au (by omega),j6,au (by omega),j6,D2 (by omega),j6,h,if_pos (by simp)];rfl) (by
      show ky ⟨(c:Int),srt,[]⟩ (T,true) ((T.length-1+1:Nat):Int)=_;unfold ky;dsimp only;rw[if_neg (by simp;omega)];rfl);rw[a2];unfold sM;cases (Z4 (T.length-1)).all (Gp srt T)<;>rfl
    rw[a3];cases hch:sM srt T with
    |true=>exact .inr ⟨_,_,T,Z,J,D9 hch,W,rfl,rfl⟩|false=>exact .inl ⟨rfl,rfl⟩
   ·rw[if_pos (by simpa using hr)];have:(nP (c:Int) srt T !=0)=true:=by simpa using hr
    rw[this];exact .inl ⟨rfl,rfl⟩
theorem Dl{b:List Int}{n:Nat}(h:n<=b.length):sub b 0 (n:Int)=some (b.take n):=by have:=cx (xs:=b) (lo:=0) (hi:=n) (by omega) h;simpa using this
theorem MH{D:List Int}(W:Byt D)(hl:D.length<=1000000000):(∃r,dv D=some r/\r.2.2.1=false/\∀(c n:Nat) (t:List Int),D=72::65::89::49::(c:Int)::(n:Int)::t->¬n+4<=t.length)\/∃(c n:Nat) (t:List Int),D=72::65::89::49::(c:Int)::(n:Int)::t/\n+4<=t.length/\c<256/\n<256/\dv D=some (bv ((t.drop n).take 4),t.drop (n+4),decide (nP (c:Int) (t.take n) []=0)&&decide (bv ((t.drop n).take 4)<=4096),⟨(c:Int),t.take n,[]⟩):=by match D,W with
 |[],_=>exact .inl ⟨_,rfl,rfl,λc n t h=>by cases h⟩|[_],_=>exact .inl ⟨_,rfl,rfl,λc n t h=>by cases h⟩|[_,_],_=>exact .inl ⟨_,rfl,rfl,λc n t h=>by cases h⟩|[_,_,_],_=>exact .inl ⟨_,rfl,rfl,λc n t h=>by cases h⟩|[_,_,_,_],_=>exact .inl ⟨_,rfl,rfl,λc n t h=>by cases h⟩|[_,_,_,_,_],_=>exact .inl ⟨_,rfl,rfl,λc n t h=>by cases h⟩|a0::a1::a2::a3::a4::a5::t,W=>
  have b4:=W.tail.tail.tail.tail.head;have b5:=W.tail.tail.tail.tail.tail.head;have Z:Byt t:=W.tail.tail.tail.tail.tail.tail;obtain⟨c,rfl⟩:=Z6 b4.1;obtain⟨n,rfl⟩:=Z6 b5.1;simp only[Zu]at hl;obtain⟨p,J⟩:∃p,p=a0::a1::a2::a3::(c:Int)::(n:Int)::t:=⟨_,rfl⟩;have b1:p.length=t.length+6:=by rw[J];simp
  have e1:sub p 0 4=some [a0,a1,a2,a3]:=by have:=Dl (b:=p) (n:=4) (by omega);rw[show((4:Nat):Int)=4 from rfl]at this;rw[this,J];rfl
  have hh:dv p=dF p (!decide ((a0,a1,a2,a3)=((72,65,89,49):Int×Int×Int×Int))):=by
   unfold dv;rw[if_neg (by simp;omega),e1,j6];rfl
  rw[←J];by_cases hm:(a0,a1,a2,a3)=((72,65,89,49):Int×Int×Int×Int)
  ·have i4:idx p 4=some (c:Int):=by rw[J];exact au (i:=4) (by simp)
   have i5:idx p 5=some (n:Int):=by rw[J];exact au (i:=5) (by simp)
   have e2:sub p 6 (p.length:Int)=some t:=by have:=bP (xs:=p) (k:=6) (by omega);rw[show((6:Nat):Int)=6 from rfl]at this;rw[this,J];rfl
   have hw:Zn.wrap (n:Int)=(n:Int):=ah (by omega);have a9:Zn.wrap (c:Int)=(c:Int):=ah (by omega);have a6:Zn.wrap ((n:Int)+4)=((n+4:Nat):Int):=by rw[ah (by omega)];omega
   have ha:a0=72/\a1=65/\a2=89/\a3=49:=by simpa using hm
   obtain⟨rfl,rfl,rfl,rfl⟩:=ha;rw[hh,decide_eq_true hm];unfold dF;rw[if_neg (by simp),i4,j6,i5,j6,e2,j6,hw,a6,a9];by_cases hle:n+4<=t.length
   ·refine .inr ⟨c,n,t,J,hle,by omega,by omega,?_⟩;rw[if_neg (by simp;omega),Dl (by omega),j6];have b2:(t.take n).length=n:=by simp;omega
    refine fd (λi=>((i:Int),(⟨(c:Int),(t.take n).take i,[]⟩:aq))) n rfl (λi hi=>?_) ?_
    ·simp only[ef];have hi':i<(t.take n).length:=by omega
     have b0:=Z _ (Zv (Z1 hi'));rw[if_pos (by simp;omega),au hi',j6,aD (by simp;omega),j6,ah (by omega),ah (by omega),gj hi'];rfl
    ·simp only[ef];rw[if_neg (by simp;omega),Z2 (l:=t.take n) (by omega)];unfold gK;rw[hw,a6,bP (by omega),j6,vR (jb Z n) (by simp;omega),j6,bP hle,j6];dsimp only;rw[rh (by simp;omega) (by simp),j6];by_cases hr:nP (c:Int) (t.take n) []=0;·rw[if_pos (by simpa using hr),decide_eq_true hr,X7];rfl
     ·rw[if_neg (by simpa using hr),decide_eq_false hr,Yo];rfl
   ·left;rw[if_pos (by simp;omega)];refine⟨_,rfl,rfl,λc' n' t' h=>?_⟩;rw[J]at h;simp only[List.cons.injEq,true_and]at h;obtain⟨_,h1,rfl⟩:=h;omega
  ·left;rw[hh,decide_eq_false hm];refine⟨_,rfl,rfl,λc' n' t' h=>?_⟩;rw[J]at h;simp only[List.cons.injEq]at h;exact absurd (by simp[h]) hm
theorem MI (c many:Nat):d3 c [] many=Yp many aa.zero:=by
 unfold d3;have:tkP c []=λ_=>aa.zero:=by funext i;simp[tkP];rfl
 rw[this,List.map_const',List.length_range]
theorem MJ{b D t:List Int}{e c n:Nat}(hb:Byt b)(b7:b.length=e+4)(he:e<=1000000000)(W:D=b.take e)(a0:D=72::65::89::49::(c:Int)::(n:Int)::t)(b5:n+4<=t.length)(hc:c<256)(hn:n<256)(a5:bv (b.drop e)=fY D):mH b=if nP (c:Int) (t.take n) []=0/\bv ((t.drop n).take 4)<=4096 then am (λs:(Int×(List (List Ap))×Int)=>fQ b ⟨(c:Int),t.take n,[]⟩ (bv ((t.drop n).take 4)) s.1 s.2.1 s.2.2) (((n+10:Nat):Int),[],0)else some uD:=by
 have b2:D.length=t.length+6:=by rw[a0];simp
 have b6:D.length=e:=by rw[W];simp;omega
 have a2:Byt D:=by rw[W];exact nU hb e
 have hT:Byt t:=by rw[a0]at a2;exact a2.tail.tail.tail.tail.tail.tail
 have J:∀i (h:i<e),idx b (i:Int)=some (D[i]'(by omega)):=λi h=>by rw[au (by omega)];simp[W]
 have a3:Zn.wrap ((b.length:Int)-4)=(e:Int):=by rw[ah (by omega)];omega
 obtain⟨b3,b0⟩:=uB (b:=D) (by omega);unfold U32 at b0;have j0:=J 0 (by omega);have j1:=J 1 (by omega);have j2:=J 2 (by omega);have j3:=J 3 (by omega);have j4:=J 4 (by omega);have j5:=J 5 (by omega);simp only[a0,Yb,Yc]at j0 j1 j2 j3 j4 j5;have hw:Zn.wrap (n:Int)=(n:Int):=ah (by omega);have a9:Zn.wrap (c:Int)=(c:Int):=ah (by omega);have Z:Zn.wrap (6+(n:Int))=((n+6:Nat):Int):=by rw[ah (by omega)];omega
 have a1:Zn.wrap (((n+6:Nat):Int)+4)=((n+10:Nat):Int):=by rw[ah (by omega)];omega
 have s4:(b.drop e).length=4:=by simp;omega
 unfold mH;rw[if_neg (by simp;omega),show(0:Int)=((0:Nat):Int)from rfl,j0,j6,if_neg (by simp),show(1:Int)=((1:Nat):Int)from rfl,j1,j6,if_neg (by simp),show(2:Int)=((2:Nat):Int)from rfl,j2,j6,if_neg (by simp),show(3:Int)=((3:Nat):Int)from rfl,j3,j6];unfold iK;rw[if_neg (by simp),a3,bP (by omega),j6,mJ _ (jb hb e) (by omega),j6,Dl (by omega),j6,←W,De a2 (by omega),j6,aU,Z9 (by omega) (by omega),a5,if_neg (by simp),show(4:Int)=((4:Nat):Int)from rfl,j4,j6,show(5:Int)=((5:Nat):Int)from rfl,j5,j6,hw,Z,show((4:Nat):Int)=4 from rfl,a1,if_neg (by simp;omega),a9];have c0:(t.take n).length=n:=by simp;omega
 refine fd (λi=>(((i+6:Nat):Int),(⟨(c:Int),(t.take n).take i,[]⟩:aX))) n rfl (λi hi=>?_) ?_
 ·simp only[q8];have hi':i<(t.take n).length:=by omega
  have b4:=hT _ (Zv (Z1 hi'));have b1:idx b ((i+6:Nat):Int)=some (t.take n)[i]:=by rw[J (i+6) (by omega)];simp[a0]
  rw[hw,Z,if_pos (by rw[decide_eq_true_eq];omega),b1,j6,aD (by simp;omega),j6,ah (by omega),ah (by omega),gj hi'];rfl
 ·simp only[q8];rw[hw,Z,if_neg (by simp),Z2 (l:=t.take n) (by omega)];congr 1;unfold xD;have a6:sub b ((n+6:Nat):Int) ((n+10:Nat):Int)=some ((t.drop n).take 4):=by
   rw[cx (by omega) (by omega)];have h1:b.take (n+10)=D.take (n+10):=by rw[W,List.take_take,Ye (by omega)]
   have h5:D.drop (n+6)=t.drop n:=by rw[a0];rfl
   rw[h1,Y1,h5,show n+10-(n+6)=4 by omega]
  have a4:it ((t.drop n).take 4)=some (bv ((t.drop n).take 4)):=mJ _ (nU (jb hT n) 4) (by simp;omega);obtain⟨m1,m2⟩:=xX (jb hT n) (by simp;omega);rw[hw,Z,a1,a6,j6,a4,j6];dsimp only;rw[HE (by simp;omega) (by simp),j6];unfold xC;by_cases hr:nP (c:Int) (t.take n) []=0
  ·rw[if_neg (by simpa using hr),ah (n:=bv ((t.drop n).take 4)) (by omega)];by_cases hm:bv ((t.drop n).take 4)<=4096;·rw[if_neg (by simp;omega),if_pos ⟨hr,hm⟩,hw,Z,a1];rfl
   ·rw[if_pos (by simp;omega),if_neg (λh=>hm h.2)];rfl
  ·rw[if_pos (by simpa using hr),if_pos rfl,if_neg (λh=>hr h.1)];rfl
theorem HJ{b D:List Int}{e:Nat}(hb:Byt b)(b6:b.length=e+4)(he:e<=1000000000)(W:D=b.take e)(h:bv (b.drop e)≠fY D\/∀(c n:Nat)(t:List Int),D=72::65::89::49::(c:Int)::(n:Int)::t->¬n+4<=t.length):mH b=some uD:=by
 unfold mH;by_cases h14:b.length<14;·rw[if_pos (by simp;omega)];rfl
 rw[if_neg (by simp;omega)];have Z:Byt D:=by rw[W];exact nU hb e
 have a9:D.length=e:=by rw[W];simp;omega
 have J:∀i (h:i<e),idx b (i:Int)=some (D[i]'(by omega)):=λi h=>by rw[au (by omega)];simp[W]
 have b0:Zn.wrap ((b.length:Int)-4)=(e:Int):=by rw[ah (by omega)];omega
 match D,Z,a9,J,W,h with
 |a0::a1::a2::a3::a4::a5::t,Z,a9,J,W,h=>
  obtain⟨D,a6⟩:∃D,D=a0::a1::a2::a3::a4::a5::t:=⟨_,rfl⟩;have b4:=Z.tail.tail.tail.tail.head;have b5:=Z.tail.tail.tail.tail.tail.head;simp only[Zu]at a9;have j0:=J 0 (by omega);have j1:=J 1 (by omega);have j2:=J 2 (by omega);have j3:=J 3 (by omega);have j4:=J 4 (by omega);have j5:=J 5 (by omega);simp only[Yb,Yc]at j0 j1 j2 j3 j4 j5;rw[show((0:Nat):Int)=0 from rfl]at j0;rw[show((1:Nat):Int)=1 from rfl]at j1;rw[show((2:Nat):Int)=2 from rfl]at j2;rw[show((3:Nat):Int)=3 from rfl]at j3;rw[show((4:Nat):Int)=4 from rfl]at j4;rw[show((5:Nat):Int)=5 from rfl]at j5;have hj:∀q,q=true->iK b q=some uD:=λq hq=>by subst hq;rfl
  rw[j0,j6];by_cases c0:a0=72
  ·rw[if_neg (by simpa using c0),j1,j6];by_cases c1:a1=65
   ·rw[if_neg (by simpa using c1),j2,j6];by_cases c2:a2=89
    ·rw[if_neg (by simpa using c2),j3,j6];by_cases c3:a3=49
     ·subst c0 c1 c2 c3;obtain⟨c,rfl⟩:=Z6 b4.1;obtain⟨n,rfl⟩:=Z6 b5.1;rw[←a6]at W Z h;obtain⟨b2,b1⟩:=uB (b:=D) (by rw[a6];simp;omega);unfold U32 at b1;have s4:(b.drop e).length=4:=by simp;omega
      unfold iK;rw[if_neg (by simp),b0,bP (by omega),j6,mJ _ (jb hb e) (by omega),j6,Dl (by omega),j6,←W,De Z (by rw[a6];simp;omega),j6,aU,Z9 (by omega) (by omega)];by_cases hs:bv (b.drop e)=fY D
      ·rw[if_neg (by simpa using hs)];have b3:=(h.resolve_left (λhh=>hh hs)) c n t a6;rw[j4,j6,j5,j6,ah (n:=(n:Int)) (by omega),ah (n:=6+(n:Int)) (by omega),ah (n:=6+(n:Int)+4) (by omega),if_pos (by simp;omega)];rfl
      ·rw[if_pos (by simpa using hs)];rfl
     ·exact hj _ (by simpa using c3)
    ·rw[if_pos (by simpa using c2)];rfl
   ·rw[if_pos (by simpa using c1)];rfl
  ·rw[if_pos (by simpa using c0)];rfl|[],_,h,_,_,_=>simp at h;omega|[_],_,h,_,_,_=>simp at h;omega|[_,_],_,h,_,_,_=>simp at h;omega|[_,_,_],_,h,_,_,_=>simp at h;omega|[_,_,_,_],_,h,_,_,_=>simp at h;omega|[_,_,_,_,_],_,h,_,_,_=>simp at h;omega
theorem Kw{b:List Int}(J:Byt b)(hl:b.length<=1000000000):M9 (et b) (mH b):=by
 by_cases h4:b.length<4
 ·refine .inl ⟨?_,?_⟩
  ·unfold et;rw[if_pos (by simp;omega)];rfl
  ·unfold mH;rw[if_pos (by simp;omega)];rfl
 obtain⟨e,Z⟩:∃e,b.length=e+4:=⟨b.length-4,by omega⟩;obtain⟨D,h⟩:∃D,D=b.take e:=⟨_,rfl⟩;have a1:Byt D:=by rw[h];exact nU J e
 have a4:D.length=e:=by rw[h];simp;omega
 have a2:Zn.wrap ((b.length:Int)-4)=(e:Int):=by rw[ah (by omega)];omega
 obtain⟨a6,b0⟩:=uB (b:=D) (by omega);have b1:Zn.wrap (fY D)=fY D:=by unfold U32 at b0;rw[ah (by omega)]
 have s4:(b.drop e).length=4:=by simp;omega
 have hP:et b=gM b (bv (b.drop e)!=fY D):=by unfold et;rw[if_neg (by simp;omega),a2,bP (by omega),j6,vR (jb J e) (by omega),j6,Dl (by omega),j6,←h,a6,j6,b1,Z2 (l:=b.drop e) (by omega)]
 by_cases hs:bv (b.drop e)=fY D
 ·have a3:et b=(dv D).bind λr24=>if !r24.2.2.1 then some ((none:(Option aq)),80)else (mk 5864062014805 r24.1 aa.zero).bind λa5=>am (λs:(List Int×Int×List aa)=>bF r24 s.1 s.2.1 s.2.2) (r24.2.1,0,a5):=by rw[hP,hs];unfold gM;rw[if_neg (by simp),a2,Dl (by omega),j6,←h]
  rcases MH a1 (by omega)with⟨r,W,h2,h3⟩|⟨c,n,t,W,h2,hc,hn,h3⟩
  ·refine .inl ⟨?_,HJ J Z (by omega) h (.inr h3)⟩;rw[a3,W,j6,h2];rfl
  ·have hR:=MJ J Z (by omega) h W h2 hc hn hs;have a0:Byt t:=by rw[W]at a1;exact a1.tail.tail.tail.tail.tail.tail
   have b3:t.length+6=e:=by rw[←a4,W];simp
   obtain⟨m1,m2⟩:=xX (jb a0 n) (by simp;omega);obtain⟨many,a9⟩:=Z6 m1;rw[a9]at hR h3;rw[a3,h3,j6];dsimp only;by_cases hr:nP (c:Int) (t.take n) []=0/\(many:Int)<=4096
   ·have b2:=(WH.1 hr.1).co;rw[hR,if_pos hr,decide_eq_true hr.1,decide_eq_true hr.2,if_neg (by simp),vg (by omega),j6,←MI c many];have hX:D.drop (n+10)=t.drop (n+4):=by rw[W,show n+10=(n+4)+6 by omega];rfl
    have q1:=OK (srt:=t.take n) (rest0:=t.drop (n+4)) (ok:=true&&true) (c:=c) (many:=many) (by omega) (by omega) (c+3) (t.drop (n+4)) [] (by simp) (jb a0 _) (by simp;omega);have q2:=ME (srt:=t.take n) (c:=c) (many:=many) (by omega) (by omega) J Z (by omega) (c+3) (n+10) [] (by simp) (by omega);rw[←h,hX]at q2;simp only[List.length_nil,Zo]at q1 q2;rw[show((0:Nat):Int)=0 from rfl]at q1 q2;rw[q1,q2];cases hsec:l8 many (c+3) (t.drop (n+4))with
    |none=>exact .inl ⟨rfl,rfl⟩|some r=>obtain⟨g1,g2,g3,g4⟩:=MD many (by omega) (c+3) _ r (jb a0 _) (by simp;omega) hsec;simp only[X5]at g4;exact Kv (by omega) (by omega) (by simp;omega) g1 g2 Z (by omega) (by omega)
   ·rw[hR,if_neg hr];refine .inl ⟨?_,rfl⟩;rw[if_pos];rw[Zg,Zq,decide_eq_false_iff_not,decide_eq_false_iff_not];by_cases h5:nP (c:Int) (t.take n) []=0;·right;intro h6;exact hr ⟨h5,h6⟩
    ·exact .inl h5
 ·refine .inl ⟨?_,HJ J Z (by omega) h (.inl hs)⟩;rw[hP];have:(bv (b.drop e)!=fY D)=true:=by simpa using hs
  rw[this];rfl
theorem Qb{lt:Ap->Ap->Bool}{a b:List Ap}:decide (0<=sgn (lexL lt) a b)=!lexL lt a b:=by
 have:=@Cp _ (lexL lt) a b;rw[←this];by_cases h:sgn (lexL lt) a b<0<;>simp[h]<;>omega
theorem IP{f:aX}{k:List Ap}{n:Nat}(hl:f.fL.length<=1048576)(hs:f.fSort.length<=1048576)(hk:k.length<=1048576)(hn:n<=f.fL.length)(hb:∀i,i<f.fL.length->(nR f.fSort k f.fL i=true↔i<n)):Af f k=some (f.fL.drop n):=by
 have J:tu f k (f.fSort.take k.length)=some (f.fL.drop n):=by
  unfold tu;have W:∀i (h:i<f.fL.length),(qW (f.fSort.take k.length) f.fL[i].fRow).bind (λr=>tO r k)=some (sgn rlt (dx (f.fSort.take k.length) f.fL[i].fRow) k):=λi h=>by rw[zr (by simp;omega),j6,Cq (by rw[nO];simp;omega) (by omega)]
  have Z:∀i (h:i<f.fL.length),decide (0<=sgn rlt (dx (f.fSort.take k.length) f.fL[i].fRow) k)=!decide (i<n):=λi h=>by have e:decide (0<=sgn rlt (dx (f.fSort.take k.length) f.fL[i].fRow) k)=!rlt (dx (f.fSort.take k.length) f.fL[i].fRow) k:=Qb;rw[e,HI];have:=hb i h;unfold nR at this;rw[zx h]at this;dsimp only at this;congr 1;rw[Zm,this,decide_eq_true_eq]
  refine fd (λi=>(i:Int)) n rfl (λi hi=>?_) ?_
  ·have h:=W i (by omega);cases hq:qW (f.fSort.take k.length) f.fL[i].fRow with
   |none=>rw[hq]at h;cases h|some r=>
    rw[hq,j6]at h;simp only[xB];rw[if_pos (by simp;omega),au (by omega),j6,hq,j6,h,j6,Z i (by omega),if_neg (by simpa using hi),ah (by omega)];rfl
  ·simp only[xB];by_cases hlt:n<f.fL.length
   ·have h:=W n hlt;cases hq:qW (f.fSort.take k.length) f.fL[n].fRow with
    |none=>rw[hq]at h;cases h|some r=>
     rw[hq,j6]at h;rw[if_pos (by simpa using hlt),au hlt,j6,hq,j6,h,j6,Z n hlt,if_pos (by simp),bP hn];rfl
   ·rw[if_neg (by simpa using hlt),Z5 (by omega)];rfl
 unfold Af;by_cases hlt:k.length<f.fSort.length
 ·rw[if_pos (by simpa using hlt)];have:=cx (xs:=f.fSort) (lo:=0) (hi:=k.length) (by omega) (by omega);rw[show((0:Nat):Int)=0 from rfl]at this;rw[this,j6,Y8,J]
 ·rw[if_neg (by simpa using hlt)];rw[Z2 (by omega)]at J;exact J
def l9 (cols n:Int)(T:List aa):List Ap:=if 0<=n/\n<cols then T.map (λv=>v.fRow.getD n.toNat fR)else[]
theorem Ea{c n:Int}(h:0<=n/\n<c)(A:List aa)(v:aa):l9 c n (A++[v])=l9 c n A++[v.fRow.getD n.toNat fR]:=by unfold l9;rw[if_pos h,if_pos h,Zc];rfl
theorem Kx{f:aq}{n:Int}(hl:f.fL.length<=1048576)(J:∀v∈f.fL,(v.fRow.length:Int)=f.fColumns):ij (some f) n=some (l9 f.fColumns n f.fL):=by
 have h:du (λ(s:List Ap)x=>some (s++[x],true)) [] (some f) n=some (l9 f.fColumns n f.fL):=by
  unfold du;rw[j6];by_cases hc:0<=n/\n<f.fColumns
  ·refine fd (λi=>((i:Int),l9 f.fColumns n (f.fL.take i))) f.fL.length (by simp[l9]) (λi hi=>?_) ?_
   ·have W:=J _ (Z1 hi);simp only[cK,cJ];rw[if_pos (by simpa using hi),au hi,j6,if_neg (by simp;omega),if_neg (by simp;omega),Cr fR (by omega),j6,j6,if_neg (by simp),ah (by omega),gj hi,Ea hc];rfl
   ·simp only[cK];rw[if_neg (by simp),Zf]
  ·rw[aR (b:=l9 f.fColumns n f.fL)];simp only[cK,cJ];by_cases hz:0<f.fL.length
   ·have W:=J _ (Z1 hz);have hi:=au hz;rw[show((0:Nat):Int)=0 from rfl]at hi;rw[if_pos (by simpa using hz),hi,j6];by_cases h0:n<0;·rw[if_pos (by simpa using h0)];simp[l9,hc]
    ·rw[if_neg (by simpa using h0),if_pos (by simp;omega)];simp[l9,hc]
   ·rw[if_neg (by simpa using hz)];simp[l9,hc]
 unfold ij ew;rw[h];rfl
def epo (T:List aa):Nat->Int×Int
 |0=>(0,0)|i+1=>match T[i]?with
  |none=>epo T i|some v=>(if i=0\/v.fId.fEpoch<(epo T i).1 then v.fId.fEpoch else (epo T i).1,if (epo T i).2<v.fId.fEpoch then v.fId.fEpoch else (epo T i).2)
theorem Ky{f:aq}(hl:f.fL.length<=1048576):ii (some f)=some (epo f.fL f.fL.length):=by
 unfold ii;rw[j6];refine fd (λi=>((epo f.fL i).1,(epo f.fL i).2,(i:Int))) f.fL.length rfl (λi hi=>?_) ?_
 ·simp only[kU,kS,kR];rw[if_pos (by simpa using hi),au hi,j6,ah (by omega)];simp only[epo,zx hi];by_cases h0:i=0;·subst h0;simp
  ·by_cases h1:f.fL[i].fId.fEpoch<(epo f.fL i).1<;>simp[h0,h1]
 ·simp only[kU,pp];rw[if_neg (by simp)]
theorem MK{cols:Int}{srt:List Int}{T:List aa}{n:Int}(hA:oY cols srt T)(hv:∀v∈T,nq v):rP (some ⟨cols,srt,T⟩) ⟨cols,srt,T⟩ n=some true:=by
 obtain⟨W,a2⟩:=WS.1 hA.ro;have a1:=hA.le;have hw:∀v∈T,(v.fRow.length:Int)=cols:=λv hm=>by have:=W v hm;unfold rZ at this;simp only[Za,decide_eq_true_eq]at this;exact this.2.1
 have he:∀v∈T,1<=v.fId.fEpoch:=λv hm=>by have:=W v hm;unfold rZ at this;simp only[Za,decide_eq_true_eq]at this;exact this.2.2.1
 unfold rP;refine fd (λi=>(l9 cols n (T.take i),(epo T i).1,(epo T i).2,(i:Int))) T.length (by simp[l9,epo]) (λi hi=>?_) ?_
 ·have Z:∀l,mI (some ⟨cols,srt,T⟩) ⟨cols,srt,T⟩ (epo T i).1 (epo T i).2 (i:Int) l=some (.inl (l,(epo T (i+1)).1,(epo T (i+1)).2,((i+1:Nat):Int))):=λl=>by
   unfold mI pw pu pq;dsimp only;rw[au hi,j6,Dk (by dsimp only;omega),j6];dsimp only;rw[OF a2 hi];simp only[Zr,Yn,Option.isSome_some];rw[if_neg (by simp),if_neg (by simp),ah (by omega)];simp only[epo,zx hi,j6];by_cases h:i=0;·subst h;simp
   ·by_cases h1:T[i].fId.fEpoch<(epo T i).1<;>simp[h,h1]
  simp only[px];rw[if_pos (by simpa using hi)];by_cases hc:0<=n/\n<cols
  ·rw[if_pos (by simpa using hc.1)];unfold kX;have a3:=hw _ (Z1 hi);rw[if_pos (by simpa using hc.2),au hi,j6,Cr fR (by omega),j6,aD (by simp[l9,hc];omega),j6,Z,gj hi,Ea hc]
  ·have J:∀x,x=false->kX (some ⟨cols,srt,T⟩) ⟨cols,srt,T⟩ n (l9 cols n (T.take i)) (epo T i).1 (epo T i).2 (i:Int) x=some (.inl (l9 cols n (T.take (i+1)),(epo T (i+1)).1,(epo T (i+1)).2,((i+1:Nat):Int))):=λx hx=>by unfold kX;rw[hx,if_neg (by simp),Z];simp[l9,hc]
   by_cases h:0<=n
   ·rw[if_pos (by simpa using h)];exact J _ (by simp;omega)
   ·rw[if_neg (by simpa using h)];exact J _ rfl
 ·simp only[px];rw[if_neg (by simp),Zf];unfold su;have a0:(l9 cols n T).length<=4096:=by unfold l9;split<;>simp[a1]
  have key:∀(xs out:List Ap),out.length+xs.length<=4096->dB (λ(s:List Ap) (x:Ap)=>kV s x) out xs=some (out++xs,true):=by
   intro xs;induction xs with
   |nil=>intro out _;simp[dB]|cons x xs ih=>
    intro out ho;simp only[Zu]at ho;have hb:kV out x=some (out++[x],true):=by unfold kV;rw[aD (by simp;omega),j6]
    simp only[dB];rw[hb,j6,if_pos rfl,ih _ (by simp;omega)];simp
  have h:atB T ⟨0,0⟩=none:=by unfold atB;rw[List.findIdx?_eq_none_iff];intro v hm;have:=he v hm;simp only[decide_eq_false_iff_not];intro e;rw[e]at this;simp at this
  rw[Kx (by dsimp only;omega) hw,j6];dsimp only;rw[key _ _ (by simpa using a0),j6];dsimp only;rw[if_pos rfl,Ky (by dsimp only;omega),j6,Dk (by dsimp only;omega),j6];dsimp only;rw[h,Zo,zw (by omega),j6,if_pos rfl,if_pos (by simp),if_pos (by simp),if_pos (by simp)];rfl
theorem IQ{b:List Int}{k:List Ap}{n:Int}(hb:Byt b)(hl:b.length<=1048576)(hk:k.length<=1048576):nf b k n=some true:=by
 unfold nf;rw[aD (by simp;omega),j6,Zo];rcases Kw hb (by omega)with⟨Z,W⟩|⟨cols,srt,T,hA,hv,hS,hs,Z,W⟩
 ·rw[Z,j6,W,j6,D6,j6,if_neg (by simp),if_neg (by simp[uD])];unfold iT;rw[if_neg (by simp),if_pos (by simp)]
 ·have a2:=hA.le;have h:T.length<=1048576:=by omega
  have J:Rok T:=λv hm=>(hv v hm).len;rw[Z,j6,W,j6,D6,j6,if_neg (by simp),if_neg (by simp)];unfold iT;have a0:la (some ⟨cols,srt,T⟩)=some srt:=by unfold la jM;rw[j6,aD (by simp;omega)];simp
  rw[if_neg (by simp),if_neg (by simp)];dsimp only;rw[a0,j6];unfold lX lY;rw[j6,j6,if_neg (by simp),j6,j6,if_neg (by simp)];unfold kB;rw[if_neg (by simp)];refine fd (λi=>(i:Int)) srt.length rfl (λi hi=>?_) ?_
  ·simp only[nH];rw[if_pos (by simpa using hi),au hi,j6,j6,if_neg (by simp),ah (by omega)];rfl
  ·simp only[nH];rw[if_neg (by simp)];unfold sK kA;obtain⟨q,hq,a1,hF⟩:=OG (f:=⟨cols,srt,T⟩) (k:=k) h J hs hk hS;have hR:=IP (f:=⟨cols,srt,T⟩) (k:=k) h hs hk hq a1;dsimp only at hF hR⊢;rw[P6 h J,j6];dsimp only;rw[Kq h,j6,s9 h J,j6,if_pos rfl,hF,j6,Kq (by simp;omega),j6,hR,j6,s9 (by simp;omega) (λv hm=>J v (Zl hm)),j6,if_pos rfl,MK hA hv];rfl
set_option maxRecDepth 100000
open Go.Proofs Tryz
theorem mixed:prog.follows .mixedOrders=true:=by kernel_rfl
def Ap.pr (x:Ap):Int×Bool×Int×List Int:=(x.fKind,x.fBool,x.fInt,x.fText)
def kAp:Kd Ap:=qx Ap.pr (cM (aj .i64) (cM cS (cM (aj .i64) sP)))
theorem Kz:Fld kAp (aj .i64) 0 (λx=>x.fKind):=b9 dG
theorem Qc:StF kAp (aj .i64) 0 (λx y=>{x with fKind:=y}):=cc dQ (λ_ _=>rfl)
theorem Qd:Fld kAp cS 1 (λx=>x.fBool):=b9 (bn dG)
theorem Qe:StF kAp cS 1 (λx y=>{x with fBool:=y}):=cc (bd dQ) (λ_ _=>rfl)
theorem wH:Fld kAp (aj .i64) 2 (λx=>x.fInt):=b9 (bn (bn dG))
theorem Qf:StF kAp (aj .i64) 2 (λx y=>{x with fInt:=y}):=cc (bd (bd dQ)) (λ_ _=>rfl)
theorem Qg:Fld kAp sP 3 (λx=>x.fText):=b9 (bn (bn (bn jF)))
theorem Qh:StF kAp sP 3 (λx y=>{x with fText:=y}):=cc (bd (bd (bd bT))) (λ_ _=>rfl)
def aS.pr (x:aS):Int×Ap:=(x.fMany,x.fValue)
def cm:Kd aS:=qx aS.pr (cM (aj .i64) kAp)
theorem OM:Fld cm (aj .i64) 0 (λx=>x.fMany):=b9 dG
theorem Dm:StF cm (aj .i64) 0 (λx y=>{x with fMany:=y}):=cc dQ (λ_ _=>rfl)
theorem ON:Fld cm kAp 1 (λx=>x.fValue):=b9 (bn jF)
theorem HK:StF cm kAp 1 (λx y=>{x with fValue:=y}):=cc (bd bT) (λ_ _=>rfl)
def bw.pr (x:bw):Int×Int×Ap×Ap×Int×Int:=(x.fKind,x.fMany,x.fMin,x.fMax,x.fNulls,x.fBytes)
def c9:Kd bw:=qx bw.pr (cM (aj .i64) (cM (aj .i64) (cM kAp (cM kAp (cM (aj .i64) (aj .i64))))))
theorem Qi:Fld c9 (aj .i64) 0 (λx=>x.fKind):=b9 dG
theorem KA:StF c9 (aj .i64) 0 (λx y=>{x with fKind:=y}):=cc dQ (λ_ _=>rfl)
theorem Qj:Fld c9 (aj .i64) 1 (λx=>x.fMany):=b9 (bn dG)
theorem KB:StF c9 (aj .i64) 1 (λx y=>{x with fMany:=y}):=cc (bd dQ) (λ_ _=>rfl)
theorem Qk:Fld c9 kAp 2 (λx=>x.fMin):=b9 (bn (bn dG))
theorem KC:StF c9 kAp 2 (λx y=>{x with fMin:=y}):=cc (bd (bd dQ)) (λ_ _=>rfl)
theorem Ql:Fld c9 kAp 6 (λx=>x.fMax):=b9 (bn (bn (bn dG)))
theorem KD:StF c9 kAp 6 (λx y=>{x with fMax:=y}):=cc (bd (bd (bd dQ))) (λ_ _=>rfl)
theorem Qm:Fld c9 (aj .i64) 10 (λx=>x.fNulls):=b9 (bn (bn (bn (bn dG))))
theorem KE:StF c9 (aj .i64) 10 (λx y=>{x with fNulls:=y}):=cc (bd (bd (bd (bd dQ)))) (λ_ _=>rfl)
theorem Qn:Fld c9 (aj .i64) 11 (λx=>x.fBytes):=b9 (bn (bn (bn (bn (bn jF)))))
theorem Qo:StF c9 (aj .i64) 11 (λx y=>{x with fBytes:=y}):=cc (bd (bd (bd (bd (bd bT))))) (λ_ _=>rfl)
def eo.pr (x:eo):Int×Ap:=(x.fMany,x.fValue)
def cW:Kd eo:=qx eo.pr (cM (aj .i64) kAp)
theorem OO:Fld cW (aj .i64) 0 (λx=>x.fMany):=b9 dG
theorem Dn:StF cW (aj .i64) 0 (λx y=>{x with fMany:=y}):=cc dQ (λ_ _=>rfl)
theorem OP:Fld cW kAp 1 (λx=>x.fValue):=b9 (bn jF)
theorem HL:StF cW kAp 1 (λx y=>{x with fValue:=y}):=cc (bd bT) (λ_ _=>rfl)
def bY.pr (x:bY):Int×Int×Ap×Ap×Int×Int:=(x.fKind,x.fMany,x.fMin,x.fMax,x.fNulls,x.fBytes)
def fZ:Kd bY:=qx bY.pr (cM (aj .i64) (cM (aj .i64) (cM kAp (cM kAp (cM (aj .i64) (aj .i64))))))
theorem Qp:Fld fZ (aj .i64) 0 (λx=>x.fKind):=b9 dG
theorem Qq:StF fZ (aj .i64) 0 (λx y=>{x with fKind:=y}):=cc dQ (λ_ _=>rfl)
theorem Qr:Fld fZ (aj .i64) 1 (λx=>x.fMany):=b9 (bn dG)
theorem Qs:StF fZ (aj .i64) 1 (λx y=>{x with fMany:=y}):=cc (bd dQ) (λ_ _=>rfl)
theorem Qt:Fld fZ kAp 2 (λx=>x.fMin):=b9 (bn (bn dG))
theorem Qu:StF fZ kAp 2 (λx y=>{x with fMin:=y}):=cc (bd (bd dQ)) (λ_ _=>rfl)
theorem Qv:Fld fZ kAp 6 (λx=>x.fMax):=b9 (bn (bn (bn dG)))
theorem Qw:StF fZ kAp 6 (λx y=>{x with fMax:=y}):=cc (bd (bd (bd dQ))) (λ_ _=>rfl)
theorem Qx:Fld fZ (aj .i64) 10 (λx=>x.fNulls):=b9 (bn (bn (bn (bn dG))))
theorem Qy:StF fZ (aj .i64) 10 (λx y=>{x with fNulls:=y}):=cc (bd (bd (bd (bd dQ)))) (λ_ _=>rfl)
theorem Qz:Fld fZ (aj .i64) 11 (λx=>x.fBytes):=b9 (bn (bn (bn (bn (bn jF)))))
theorem QA:StF fZ (aj .i64) 11 (λx y=>{x with fBytes:=y}):=cc (bd (bd (bd (bd (bd bT))))) (λ_ _=>rfl)
def ai.pr (x:ai):List Int×Bool:=(x.fB,x.fOk)
def jD:Kd ai:=qx ai.pr (cM (kSl (aj .u8)) cS)
theorem OQ:Fld jD (kSl (aj .u8)) 0 (λx=>x.fB):=b9 dG
theorem OR:StF jD (kSl (aj .u8)) 0 (λx y=>{x with fB:=y}):=cc dQ (λ_ _=>rfl)
theorem OS:Fld jD cS 1 (λx=>x.fOk):=b9 (bn jF)
theorem OT:StF jD cS 1 (λx y=>{x with fOk:=y}):=cc (bd bT) (λ_ _=>rfl)
def aO.pr (x:aO):Int×Int:=(x.fEpoch,x.fNumber)
def bV:Kd aO:=qx aO.pr (cM (aj .u64) (aj .u32))
theorem Cx:Fld bV (aj .u64) 0 (λx=>x.fEpoch):=b9 dG
theorem Gr:StF bV (aj .u64) 0 (λx y=>{x with fEpoch:=y}):=cc dQ (λ_ _=>rfl)
theorem QB:Fld bV (aj .u32) 1 (λx=>x.fNumber):=b9 (bn jF)
theorem Gs:StF bV (aj .u32) 1 (λx y=>{x with fNumber:=y}):=cc (bd bT) (λ_ _=>rfl)
def aa.pr (x:aa):aO×List Ap×Int:=(x.fId,x.fRow,x.fDeleted)
def ae:Kd aa:=qx aa.pr (cM bV (cM (kSl kAp) (aj .u64)))
theorem sN:Fld ae bV 0 (λx=>x.fId):=b9 dG
theorem Cy:StF ae bV 0 (λx y=>{x with fId:=y}):=cc dQ (λ_ _=>rfl)
theorem KF:Fld ae (kSl kAp) 2 (λx=>x.fRow):=b9 (bn dG)
theorem Gt:StF ae (kSl kAp) 2 (λx y=>{x with fRow:=y}):=cc (bd dQ) (λ_ _=>rfl)
theorem QC:Fld ae (aj .u64) 3 (λx=>x.fDeleted):=b9 (bn (bn jF))
theorem Gu:StF ae (aj .u64) 3 (λx y=>{x with fDeleted:=y}):=cc (bd (bd bT)) (λ_ _=>rfl)
def aq.pr (x:aq):Int×List Int×List aa:=(x.fColumns,x.fSort,x.fL)
def aJ:Kd aq:=qx aq.pr (cM (aj .i64) (cM (kSl (aj .i64)) (kSl ae)))
theorem HM:Fld aJ (aj .i64) 0 (λx=>x.fColumns):=b9 dG
theorem HN:StF aJ (aj .i64) 0 (λx y=>{x with fColumns:=y}):=cc dQ (λ_ _=>rfl)
theorem wI:Fld aJ (kSl (aj .i64)) 1 (λx=>x.fSort):=b9 (bn dG)
theorem HO:StF aJ (kSl (aj .i64)) 1 (λx y=>{x with fSort:=y}):=cc (bd dQ) (λ_ _=>rfl)
theorem qs:Fld aJ (kSl ae) 2 (λx=>x.fL):=b9 (bn (bn jF))
theorem OU:StF aJ (kSl ae) 2 (λx y=>{x with fL:=y}):=cc (bd (bd bT)) (λ_ _=>rfl)
def s8.pr (x:s8):Int×List Int×List Int×List aa:=(x.fColumns,x.fSort,x.fKinds,x.fL)
def aX.pr (x:aX):Int×List Int×List aa:=(x.fColumns,x.fSort,x.fL)
def f7:Kd aX:=qx aX.pr (cM (aj .i64) (cM (kSl (aj .i64)) (kSl ae)))
theorem QD:Fld f7 (aj .i64) 0 (λx=>x.fColumns):=b9 dG
theorem Gv:StF f7 (aj .i64) 0 (λx y=>{x with fColumns:=y}):=cc dQ (λ_ _=>rfl)
theorem QE:Fld f7 (kSl (aj .i64)) 1 (λx=>x.fSort):=b9 (bn dG)
theorem KG:StF f7 (kSl (aj .i64)) 1 (λx y=>{x with fSort:=y}):=cc (bd dQ) (λ_ _=>rfl)
theorem QF:Fld f7 (kSl ae) 2 (λx=>x.fL):=b9 (bn (bn jF))
theorem QG:StF f7 (kSl ae) 2 (λx y=>{x with fL:=y}):=cc (bd (bd bT)) (λ_ _=>rfl)
theorem zy:pW prog 32 4 40:=⟨⟨t32,_,type32,rfl,rfl,rfl,rfl⟩⟩
theorem iA:dz prog 32 kAp:=⟨sizeOf32,isAgg32⟩
def Do:List Value:=[.int .i64 0,.bool false,.int .i64 0,.string (bts [])]
theorem xY:∀m,kAp.R m Do Ap.zero:=λ_=>⟨⟨rfl,az (by decide)⟩,⟨rfl,⟨⟨rfl,az (by decide)⟩,⟨rfl,(by decide),(by decide)⟩⟩⟩⟩
theorem CA:dc prog 32 0 0:=cV underlying32 rfl sizeOf3 (by decide) rfl
theorem ty3:dz prog 3 (aj .i64):=⟨sizeOf3,isAgg3⟩
theorem Dp{m:M}{cs:List Value}{x:Ap}(h:kAp.R m cs x):cs=[.int .i64 x.fKind,.bool x.fBool,.int .i64 x.fInt,.string (bts x.fText)]/\(∀n∈x.fText,0<=n/\n<256):=by
 obtain⟨h0,W,Z,J⟩:=h;refine⟨?_,J.2.1⟩;rw[←Z8 1 cs,show(cs).take 1=_ from h0.1,←Z8 1 ((cs).drop 1),show((cs).drop 1).take 1=_ from W,←Z8 1 (((cs).drop 1).drop 1),show(((cs).drop 1).drop 1).take 1=_ from Z.1,show(((cs).drop 1).drop 1).drop 1=_ from J.1];rfl
theorem Gw:yx prog 32 kAp:=by
 refine⟨λm cs ds x y d w Z W=>?_,λop o o' cs ds w=>?_⟩
 ·obtain⟨rfl,J⟩:=Dp Z;obtain⟨rfl,h⟩:=Dp W;have e:x=y↔x.fKind=y.fKind/\x.fBool=y.fBool/\x.fInt=y.fInt/\x.fText=y.fText:=by cases x;cases y;simp
  show(Op.equalIn (d+20) 32 (.agg #[_,_,_,_]) (.agg #[_,_,_,_])).run _ _=_;rw[run_equalIn_struct w (d+19) 32 _ _ underlying32 stoodInHeld32];simp only[Program.fieldsOf,underlying32,Op.eqFields];simp[part,run_equalIn_int,run_equalIn_bool',run_equalIn_string,zN J h];repeat' split
  all_goals simp_all
 ·show(eqGuard op 32 o o' (.agg _) (.agg _)).run _ _=_;cases op<;>simp[eqGuard]
theorem QH:dc prog 32 1 1:=cV underlying32 rfl sizeOf4 (by decide) rfl
theorem nV:dc prog 32 2 2:=cV underlying32 rfl sizeOf2 (by decide) rfl
theorem ty2:dz prog 2 (aj .i64):=⟨sizeOf2,isAgg2⟩
theorem QI:dc prog 32 3 3:=cV underlying32 rfl sizeOf9 (by decide) rfl
theorem el2:pW prog 2 1 8:=⟨⟨t2,_,type2,rfl,rfl,rfl,rfl⟩⟩
theorem HP:dc prog 187 1 1:=cV underlying187 rfl sizeOf32 (by decide) rfl
theorem Dq:dc prog 187 0 0:=cV underlying187 rfl sizeOf3 (by decide) rfl
def UD:List Value:=[.int .i64 0,.int .i64 0,.bool false,.int .i64 0,.string (bts [])]
theorem IR:∀m,cm.R m UD aS.zero:=λ_=>⟨⟨rfl,az (by decide)⟩,⟨⟨rfl,az (by decide)⟩,⟨rfl,⟨⟨rfl,az (by decide)⟩,⟨rfl,(by decide),(by decide)⟩⟩⟩⟩⟩
theorem Na:pW prog 187 5 48:=⟨⟨t187,_,type187,rfl,rfl,rfl,rfl⟩⟩
def zc5:List Value:=[.int .u8 0]
theorem zr5:∀m,(aj .u8).R m zc5 0:=λ_=>⟨rfl,az (by decide)⟩
def IS:List Value:=(Yp 8 zc5).flatten
theorem UE:∀m b,GS (aj .u8) m b IS (.slice (some ⟨b,0,none⟩) 8 8) (Yp 8 0):=λ_ _=>GS.zero zr5 rfl
theorem ty5:dz prog 5 (aj .u8):=⟨sizeOf5,isAgg5⟩
theorem el5:pW prog 5 1 1:=⟨⟨t5,_,type5,rfl,rfl,rfl,rfl⟩⟩
theorem UF:dz prog 187 cm:=⟨sizeOf187,isAgg187⟩
theorem Dr:dz prog 54 (aj .u64):=⟨sizeOf54,isAgg54⟩
theorem WT:pW prog 54 1 8:=⟨⟨t54,_,type54,rfl,rfl,rfl,rfl⟩⟩
theorem jw:dz prog 22 (kSl kAp):=⟨sizeOf22,isAgg22⟩
def zA:List Value:=[.int .i64 0,.int .i64 0,.int .i64 0,.bool false,.int .i64 0,.string (bts []),.int .i64 0,.bool false,.int .i64 0,.string (bts []),.int .i64 0,.int .i64 0]
theorem Ds:∀m,c9.R m zA bw.zero:=λ_=>⟨⟨rfl,az (by decide)⟩,⟨⟨rfl,az (by decide)⟩,⟨⟨⟨rfl,az (by decide)⟩,⟨rfl,⟨⟨rfl,az (by decide)⟩,⟨rfl,(by decide),(by decide)⟩⟩⟩⟩,⟨⟨⟨rfl,az (by decide)⟩,⟨rfl,⟨⟨rfl,az (by decide)⟩,⟨rfl,(by decide),(by decide)⟩⟩⟩⟩,⟨⟨rfl,az (by decide)⟩,⟨rfl,az (by decide)⟩⟩⟩⟩⟩⟩
theorem Dt:dz prog 34 c9:=⟨sizeOf34,isAgg34⟩
theorem Gx:dc prog 34 4 10:=cV underlying34 rfl sizeOf3 (by decide) rfl
theorem WU:dz prog 55 (aj .u32):=⟨sizeOf55,isAgg55⟩
theorem QJ:dc prog 34 1 1:=cV underlying34 rfl sizeOf3 (by decide) rfl
theorem QK:dc prog 34 2 2:=cV underlying34 rfl sizeOf32 (by decide) rfl
theorem QL:dc prog 34 3 6:=cV underlying34 rfl sizeOf32 (by decide) rfl
theorem Ar:dz prog 155 cW:=⟨sizeOf155,isAgg155⟩
def Nb:List Value:=[.int .i64 0,.int .i64 0,.bool false,.int .i64 0,.string (bts [])]
theorem EH:∀m,cW.R m Nb eo.zero:=λ_=>⟨⟨rfl,az (by decide)⟩,⟨⟨rfl,az (by decide)⟩,⟨rfl,⟨⟨rfl,az (by decide)⟩,⟨rfl,(by decide),(by decide)⟩⟩⟩⟩⟩
theorem Du:dc prog 155 0 0:=cV underlying155 rfl sizeOf3 (by decide) rfl
theorem EJ:pW prog 155 5 48:=⟨⟨t155,_,type155,rfl,rfl,rfl,rfl⟩⟩
theorem OV:dc prog 155 1 1:=cV underlying155 rfl sizeOf32 (by decide) rfl
def WV:List Value:=[.int .i64 0,.int .i64 0,.int .i64 0,.bool false,.int .i64 0,.string (bts []),.int .i64 0,.bool false,.int .i64 0,.string (bts []),.int .i64 0,.int .i64 0]
theorem QM:∀m,fZ.R m WV bY.zero:=λ_=>⟨⟨rfl,az (by decide)⟩,⟨⟨rfl,az (by decide)⟩,⟨⟨⟨rfl,az (by decide)⟩,⟨rfl,⟨⟨rfl,az (by decide)⟩,⟨rfl,(by decide),(by decide)⟩⟩⟩⟩,⟨⟨⟨rfl,az (by decide)⟩,⟨rfl,⟨⟨rfl,az (by decide)⟩,⟨rfl,(by decide),(by decide)⟩⟩⟩⟩,⟨⟨rfl,az (by decide)⟩,⟨rfl,az (by decide)⟩⟩⟩⟩⟩⟩
theorem WW:dz prog 37 fZ:=⟨sizeOf37,isAgg37⟩
theorem QN:dc prog 37 2 2:=cV underlying37 rfl sizeOf32 (by decide) rfl
theorem QO:dc prog 37 3 6:=cV underlying37 rfl sizeOf32 (by decide) rfl
theorem QP:dc prog 37 4 10:=cV underlying37 rfl sizeOf3 (by decide) rfl
theorem QQ:dc prog 37 1 1:=cV underlying37 rfl sizeOf3 (by decide) rfl
theorem Gy:dc prog 34 5 11:=cV underlying34 rfl sizeOf3 (by decide) rfl
theorem OW:dc prog 161 0 0:=cV underlying161 rfl sizeOf24 (by decide) rfl
theorem ML:dz prog 24 (kSl (aj .u8)):=⟨sizeOf24,isAgg24⟩
theorem OX:dc prog 161 1 1:=cV underlying161 rfl sizeOf4 (by decide) rfl
def UG:List Value:=[.slice none 0 0,.bool false]
theorem Nc:∀m,jD.R m UG ai.zero:=λ_=>⟨⟨none,0,0,rfl,rfl,Zw _,(by decide),rfl⟩,rfl⟩
theorem QR:dc prog 34 0 0:=cV underlying34 rfl sizeOf3 (by decide) rfl
theorem QS:dc prog 37 5 11:=cV underlying37 rfl sizeOf3 (by decide) rfl
theorem QT:dc prog 37 0 0:=cV underlying37 rfl sizeOf3 (by decide) rfl
theorem Nd (d:Nat)(w:World)(x y:Ap)(p0:∀n∈x.fText,0<=n/\n<256)(h:∀n∈y.fText,0<=n/\n<256):(Op.equalIn (d+10) 32 (.agg #[.int .i64 x.fKind,.bool x.fBool,.int .i64 x.fInt,.string (bts x.fText)]) (.agg #[.int .i64 y.fKind,.bool y.fBool,.int .i64 y.fInt,.string (bts y.fText)])).run prog w=.ok (decide (x=y)) w:=by
 have e:x=y↔x.fKind=y.fKind/\x.fBool=y.fBool/\x.fInt=y.fInt/\x.fText=y.fText:=by cases x;cases y;simp
 rw[run_equalIn_struct w (d+9) 32 _ _ underlying32 stoodInHeld32];simp only[Program.fieldsOf,underlying32,Op.eqFields];simp[part,run_equalIn_int,run_equalIn_bool',run_equalIn_string,zN p0 h];repeat' split
 all_goals simp_all
theorem QU{m:M}{cs:List Value}{x:bY}(h:fZ.R m cs x):cs=[.int .i64 x.fKind,.int .i64 x.fMany,.int .i64 x.fMin.fKind,.bool x.fMin.fBool,.int .i64 x.fMin.fInt,.string (bts x.fMin.fText),.int .i64 x.fMax.fKind,.bool x.fMax.fBool,.int .i64 x.fMax.fInt,.string (bts x.fMax.fText),.int .i64 x.fNulls,.int .i64 x.fBytes]/\(∀n∈x.fMin.fText,0<=n/\n<256)/\(∀n∈x.fMax.fText,0<=n/\n<256):=by
 obtain⟨h0,Z,J,W,h4,h5⟩:=h;refine⟨?_,(Dp J).2,(Dp W).2⟩;rw[←Z8 1 cs,show(cs).take 1=_ from h0.1,←Z8 1 ((cs).drop 1),show((cs).drop 1).take 1=_ from Z.1,←Z8 4 (((cs).drop 1).drop 1),show(((cs).drop 1).drop 1).take 4=_ from(Dp J).1,←Z8 4 ((((cs).drop 1).drop 1).drop 4),show((((cs).drop 1).drop 1).drop 4).take 4=_ from(Dp W).1,←Z8 1 (((((cs).drop 1).drop 1).drop 4).drop 4),show(((((cs).drop 1).drop 1).drop 4).drop 4).take 1=_ from h4.1,show(((((cs).drop 1).drop 1).drop 4).drop 4).drop 1=_ from h5.1];rfl
theorem WX:yx prog 37 fZ:=by
 refine⟨λm cs ds x y d w Z hy=>?_,λop o o' cs ds w=>?_⟩
 ·obtain⟨rfl,p0,p1⟩:=QU Z;obtain⟨rfl,J,W⟩:=QU hy;have e:x=y↔x.fKind=y.fKind/\x.fMany=y.fMany/\x.fMin=y.fMin/\x.fMax=y.fMax/\x.fNulls=y.fNulls/\x.fBytes=y.fBytes:=by cases x;cases y;simp
  have e2:=λw=>Nd (d+9) w x.fMin y.fMin p0 J;have h:=λw=>Nd (d+9) w x.fMax y.fMax p1 W;show(Op.equalIn (d+20) 37 (.agg #[_,_,_,_,_,_,_,_,_,_,_,_]) (.agg #[_,_,_,_,_,_,_,_,_,_,_,_])).run _ _=_;rw[run_equalIn_struct w (d+19) 37 _ _ underlying37 stoodInHeld37];simp only[Program.fieldsOf,underlying37,Op.eqFields];simp[part,run_equalIn_int,run_equalIn_bool',run_equalIn_string,e2,h];repeat' split
  all_goals simp_all
 ·show(eqGuard op 37 o o' (.agg _) (.agg _)).run _ _=_;cases op<;>simp[eqGuard]
theorem oZ:dz prog 59 ae:=⟨sizeOf59,isAgg59⟩
def zB:List Value:=[.int .u64 0,.int .u32 0,.slice none 0 0,.int .u64 0]
theorem vS:∀m,ae.R m zB aa.zero:=λ_=>⟨⟨⟨rfl,az (by decide)⟩,⟨rfl,az (by decide)⟩⟩,⟨⟨none,0,0,rfl,rfl,Zw _,(by decide),rfl⟩,⟨rfl,az (by decide)⟩⟩⟩
theorem nW:dc prog 59 1 2:=cV underlying59 rfl sizeOf22 (by decide) rfl
theorem IT:pW prog 59 4 48:=⟨⟨t59,_,type59,rfl,rfl,rfl,rfl⟩⟩
theorem zC:dc prog 57 0 0:=cV underlying57 rfl sizeOf54 (by decide) rfl
theorem KH:dc prog 57 1 1:=cV underlying57 rfl sizeOf55 (by decide) rfl
theorem ri:dz prog 49 (kSl (aj .i64)):=⟨sizeOf49,isAgg49⟩
theorem lz:dc prog 59 0 0:=cV underlying59 rfl sizeOf57 (by decide) rfl
theorem xZ:dz prog 57 bV:=⟨sizeOf57,isAgg57⟩
theorem Gz:dc prog 59 2 3:=cV underlying59 rfl sizeOf54 (by decide) rfl
theorem MM{m:M}{cs:List Value}{x:aO}(h:bV.R m cs x):cs=[.int .u64 x.fEpoch,.int .u32 x.fNumber]:=by
 obtain⟨W,J⟩:=h;skip;rw[←Z8 1 cs,show(cs).take 1=_ from W.1,show(cs).drop 1=_ from J.1];rfl
theorem QV:yx prog 57 bV:=by
 refine⟨λm cs ds x y d w J h=>?_,λop o o' cs ds w=>?_⟩
 ·obtain rfl:=MM J;obtain rfl:=MM h;have e:x=y↔x.fEpoch=y.fEpoch/\x.fNumber=y.fNumber:=by cases x;cases y;simp
  show(Op.equalIn (d+20) 57 (.agg #[_,_]) (.agg #[_,_])).run _ _=_;rw[run_equalIn_struct w (d+19) 57 _ _ underlying57 stoodInHeld57];simp only[Program.fieldsOf,underlying57,Op.eqFields];simp[part,run_equalIn_int,run_equalIn_bool',run_equalIn_string];repeat' split
  all_goals simp_all
 ·show(eqGuard op 57 o o' (.agg _) (.agg _)).run _ _=_;cases op<;>simp[eqGuard]
theorem UH:laidOutB prog=true:=by kernel_rfl
def GA (x:aO):Value:=.agg #[.int .u64 x.fEpoch,.int .u32 x.fNumber]
theorem QW{m:M}{v:Value}{x:aO}(h:RV bV m v x):v=GA x:=by
 obtain⟨cs,h,rfl⟩:=h;obtain rfl:=MM h;rfl
theorem WY{m:M}{v:Value}{x:aO}(h:RV bV m v x):∃l,keyOf prog 57 v=some l:=by rw[QW h];obtain⟨cs,h,rfl⟩:=h;obtain⟨W,J⟩:=h;exact Jl (d:=250) underlying57 (by decide) underlying54 underlying55 rfl rfl (by kernel_rfl) (by kernel_rfl) (by kernel_rfl) (by kernel_rfl) (by kernel_rfl) (MW W.2) (MW J.2)
theorem WZ{x y:aO}(h:GA x=GA y):x=y:=by obtain⟨Z,J⟩:=x;obtain⟨b0,W⟩:=y;simp[GA]at h;simp[h]
def IU:Ff prog 57 bV:=⟨GA,QW,WZ,deep_law_laid UH (m:=2) (by omega) (of_decide_eq_true (by kernel_rfl)) (by kernel_rfl) (by rw[underlying57]),WY⟩
def vp:List Value:=[.int .i64 0,.slice none 0 0,.slice none 0 0]
theorem EK:∀m,aJ.R m vp aq.zero:=λ_=>⟨⟨rfl,az (by decide)⟩,⟨⟨none,0,0,rfl,rfl,Zw _,(by decide),rfl⟩,⟨none,0,0,rfl,rfl,Zw _,(by decide),rfl⟩⟩⟩
theorem UJ:dz prog 178 kA4:=⟨sizeOf178,isAgg178⟩
theorem UK:yx prog 178 kA4:=WM underlying178 type5 (by kernel_rfl) underlying5 isAgg5 (by kernel_rfl)
theorem qt:dc prog 120 0 0:=cV underlying120 rfl sizeOf3 (by decide) rfl
theorem oK:dc prog 120 1 1:=cV underlying120 rfl sizeOf49 (by decide) rfl
theorem el3:pW prog 3 1 8:=⟨⟨t3,_,type3,rfl,rfl,rfl,rfl⟩⟩
theorem mO:dc prog 120 2 2:=cV underlying120 rfl sizeOf50 (by decide) rfl
theorem o4:dz prog 50 (kSl ae):=⟨sizeOf50,isAgg50⟩
def W3:List Value:=[.int .u64 0,.int .u32 0]
theorem IV:∀m,bV.R m W3 aO.zero:=λ_=>⟨⟨rfl,az (by decide)⟩,⟨rfl,az (by decide)⟩⟩
def vT:List Value:=[.int .i64 0,.slice none 0 0,.slice none 0 0]
theorem qh:∀m,f7.R m vT aX.zero:=λ_=>⟨⟨rfl,az (by decide)⟩,⟨⟨none,0,0,rfl,rfl,Zw _,(by decide),rfl⟩,⟨none,0,0,rfl,rfl,Zw _,(by decide),rfl⟩⟩⟩
theorem ya:dz prog 70 f7:=⟨sizeOf70,isAgg70⟩
theorem GB:dc prog 70 1 1:=cV underlying70 rfl sizeOf49 (by decide) rfl
theorem MN:dz prog 65 (kPt aJ):=⟨sizeOf65,isAgg65⟩
theorem uE:dc prog 70 2 2:=cV underlying70 rfl sizeOf50 (by decide) rfl
theorem KI:dc prog 70 0 0:=cV underlying70 rfl sizeOf3 (by decide) rfl
theorem W4:pW prog 22 1 24:=⟨⟨t22,_,type22,rfl,rfl,rfl,rfl⟩⟩
open Go.Proofs Tryz
def AT:Go.Shelf.Ren:=⟨fun|6=>148|15=>152|14=>178|28=>179|29=>154|20=>186|21=>187|22=>188|23=>189|24=>190|25=>191|26=>192|27=>193|46=>199|47=>200|48=>201|49=>202|50=>203|57=>204|n=>n,fun|22=>22|24=>32|25=>134|3=>3|39=>94|0=>0|53=>55|55=>54|4=>4|46=>219|45=>218|50=>78|5=>5|9=>9|66=>228|70=>231|76=>233|77=>234|n=>n,λn=>n⟩
theorem OY:SlLaysF0.n6 prog AT:={
 mixed:=by kernel_rfl
 f6:=⟨f148.name,by decide,func148.trans (congrArg some (by kernel_rfl))⟩
 f14:=⟨f178.name,by decide,func178.trans (congrArg some (by kernel_rfl))⟩
 f15:=func152.trans (congrArg some (by kernel_rfl))
 f20:=⟨f186.name,by decide,func186.trans (congrArg some (by kernel_rfl))⟩
 f21:=⟨f187.name,by decide,func187.trans (congrArg some (by kernel_rfl))⟩
 f22:=⟨f188.name,by decide,func188.trans (congrArg some (by kernel_rfl))⟩
 f23:=⟨f189.name,by decide,func189.trans (congrArg some (by kernel_rfl))⟩
 f24:=⟨f190.name,by decide,func190.trans (congrArg some (by kernel_rfl))⟩
 f25:=⟨f191.name,by decide,func191.trans (congrArg some (by kernel_rfl))⟩
 f26:=⟨f192.name,by decide,func192.trans (congrArg some (by kernel_rfl))⟩
 f27:=⟨f193.name,by decide,func193.trans (congrArg some (by kernel_rfl))⟩
 f28:=func179.trans (congrArg some (by kernel_rfl))
 f29:=func154.trans (congrArg some (by kernel_rfl))
 f46:=⟨f199.name,by decide,func199.trans (congrArg some (by kernel_rfl))⟩
 f47:=func200.trans (congrArg some (by kernel_rfl))
 f48:=func201.trans (congrArg some (by kernel_rfl))
 f49:=⟨f202.name,by decide,func202.trans (congrArg some (by kernel_rfl))⟩
 f50:=⟨f203.name,by decide,func203.trans (congrArg some (by kernel_rfl))⟩
 f57:=⟨f204.name,by decide,func204.trans (congrArg some (by kernel_rfl))⟩
 t0:=underlying0
 a0:=isAgg0
 z0:=sizeOf0
 v0:=zeroValue0
 t3:=underlying3
 a3:=isAgg3
 z3:=sizeOf3
 v3:=zeroValue3
 t4:=underlying4
 a4:=isAgg4
 z4:=sizeOf4
 v4:=zeroValue4
 t5:=underlying5
 a5:=isAgg5
 z5:=sizeOf5
 v5:=zeroValue5
 t9:=underlying9
 a9:=isAgg9
 z9:=sizeOf9
 v9:=zeroValue9
 t22:=underlying22
 a22:=isAgg22
 z22:=sizeOf22
 v22:=zeroValue22
 t25:=underlying134
 a25:=isAgg134
 z25:=sizeOf134
 v25:=zeroValue134
 t39:=underlying94
 a39:=isAgg94
 z39:=sizeOf94
 v39:=zeroValue94
 t45:=underlying218
 a45:=isAgg218
 z45:=sizeOf218
 v45:=zeroValue218
 t46:=underlying219
 a46:=isAgg219
 z46:=sizeOf219
 v46:=zeroValue219
 t50:=underlying78
 a50:=isAgg78
 z50:=sizeOf78
 v50:=zeroValue78
 t53:=underlying55
 a53:=isAgg55
 z53:=sizeOf55
 v53:=zeroValue55
 t55:=underlying54
 a55:=isAgg54
 z55:=sizeOf54
 v55:=zeroValue54
 t66:=underlying228
 a66:=isAgg228
 z66:=sizeOf228
 v66:=zeroValue228
 t70:=underlying231
 a70:=isAgg231
 z70:=sizeOf231
 v70:=zeroValue231
 t76:=underlying233
 a76:=isAgg233
 z76:=sizeOf233
 v76:=zeroValue233
 t77:=underlying234
 a77:=isAgg234
 z77:=sizeOf234
 v77:=zeroValue234}
set_option maxRecDepth 100000
open Go.Proofs Tryz
theorem UL:dz prog 161 jD:=⟨sizeOf161,isAgg161⟩
def W5:List Value:=[.pointer none]
theorem W6:∀m,(kPt aJ).R m W5 none:=λ_=>rfl
theorem UM:dz prog 120 aJ:=⟨sizeOf120,isAgg120⟩
def Sz:Sg:=WP [(32,⟨Ap,kAp⟩),(57,⟨aO,bV⟩),(59,⟨aa,ae⟩),(120,⟨aq,aJ⟩),(34,⟨bw,c9⟩),(161,⟨ai,jD⟩),(187,⟨aS,cm⟩),(37,⟨bY,fZ⟩),(155,⟨eo,cW⟩),(70,⟨aX,f7⟩),(65,⟨(Option aq),(kPt aJ)⟩),(76,⟨(List aa),kIt prog (Rv1 ae)⟩),(137,⟨(List Ap),kIt prog (Rv1 kAp)⟩),(174,⟨(List (List Ap)),kIt prog (Rv1 (kSl kAp))⟩)]
def ti2:TI prog Sz 2:=qy underlying2 sizeOf2 isAgg2 zeroValue2 rfl (by decide)
def ti3:TI prog Sz 3:=qy underlying3 sizeOf3 isAgg3 zeroValue3 rfl (by decide)
def ti4:TI prog Sz 4:=PM underlying4 sizeOf4 isAgg4 zeroValue4 rfl
def ti5:TI prog Sz 5:=qy underlying5 sizeOf5 isAgg5 zeroValue5 rfl (by decide)
def ti6:TI prog Sz 6:=qy underlying6 sizeOf6 isAgg6 zeroValue6 rfl (by decide)
def ti9:TI prog Sz 9:=Ik underlying9 sizeOf9 isAgg9 zeroValue9 rfl
def W7:TI prog Sz 10:=Ik underlying10 sizeOf10 isAgg10 zeroValue10 rfl
def W8:TI prog Sz 11:=Ik underlying11 sizeOf11 isAgg11 zeroValue11 rfl
def Xa:TI prog Sz 12:=qy underlying12 sizeOf12 isAgg12 zeroValue12 rfl (by decide)
def Xb:TI prog Sz 21:=qy underlying21 sizeOf21 isAgg21 zeroValue21 rfl (by decide)
def Xc:TI prog Sz 25:=qy underlying25 sizeOf25 isAgg25 zeroValue25 rfl (by decide)
def QX:TI prog Sz 54:=qy underlying54 sizeOf54 isAgg54 zeroValue54 rfl (by decide)
def QY:TI prog Sz 55:=qy underlying55 sizeOf55 isAgg55 zeroValue55 rfl (by decide)
def Xd:TI prog Sz 94:=qy underlying94 sizeOf94 isAgg94 zeroValue94 rfl (by decide)
def UN:TI prog Sz 218:=qy underlying218 sizeOf218 isAgg218 zeroValue218 rfl (by decide)
def Xe:TI prog Sz 24:=xf _ (slI ti5 _ 1 underlying24 sizeOf5 el5 type5 rfl rfl rfl) sizeOf24 isAgg24 zeroValue24 rfl
def QZ:TI prog Sz 32:=tY iA zeroValue32 Ap.zero xY
def Xf:TI prog Sz 49:=xf _ (slI ti3 _ 8 underlying49 sizeOf3 el3 type3 rfl rfl rfl) sizeOf49 isAgg49 zeroValue49 rfl
def Xg:TI prog Sz 57:=tY xZ zeroValue57 aO.zero IV
def UO:TI prog Sz 143:=xf _ (slI ti2 _ 8 underlying143 sizeOf2 el2 type2 rfl rfl rfl) sizeOf143 isAgg143 zeroValue143 rfl
def UP:TI prog Sz 189:=xf _ (slI QX _ 8 underlying189 sizeOf54 WT type54 rfl rfl rfl) sizeOf189 isAgg189 zeroValue189 rfl
def Q0:TI prog Sz 22:=xf _ (slI QZ _ 40 underlying22 sizeOf32 zy type32 rfl rfl rfl) sizeOf22 isAgg22 zeroValue22 rfl
def Xh:TI prog Sz 34:=tY Dt zeroValue34 bw.zero Ds
def Xi:TI prog Sz 37:=tY WW zeroValue37 bY.zero QM
def Nf:TI prog Sz 155:=tY Ar zeroValue155 eo.zero EH
def UQ:TI prog Sz 161:=tY UL zeroValue161 ai.zero Nc
def Ng:TI prog Sz 187:=tY UF zeroValue187 aS.zero IR
def Q1:TI prog Sz 59:=tY oZ zeroValue59 aa.zero vS
def UR:TI prog Sz 126:=xf _ (slI Q0 _ 24 underlying126 sizeOf22 W4 type22 rfl rfl rfl) sizeOf126 isAgg126 zeroValue126 rfl
def US:TI prog Sz 152:=xf _ (slI Nf _ 48 underlying152 sizeOf155 EJ type155 rfl rfl rfl) sizeOf152 isAgg152 zeroValue152 rfl
def UT:TI prog Sz 185:=xf _ (slI Ng _ 48 underlying185 sizeOf187 Na type187 rfl rfl rfl) sizeOf185 isAgg185 zeroValue185 rfl
def Xj:TI prog Sz 50:=xf _ (slI Q1 _ 48 underlying50 sizeOf59 IT type59 rfl rfl rfl) sizeOf50 isAgg50 zeroValue50 rfl
def Xk:TI prog Sz 70:=tY ya zeroValue70 aX.zero qh
def UU:TI prog Sz 120:=tY UM zeroValue120 aq.zero EK
def Xl:TI prog Sz 65:=tY MN zeroValue65 none W6
def UV:AI prog Sz 177:=arI QY 16 underlying177 sizeOf55 zeroValue177 rfl rfl
def UW:AI prog Sz 178:=arI ti5 4 underlying178 sizeOf5 zeroValue178 rfl rfl
def UX:AI prog Sz 224:=arI ti5 8 underlying224 sizeOf5 zeroValue224 rfl rfl
def Q2:FI prog Sz 32 0:=⟨(.int .i64),⟨0,λx=>x.fKind,λx y=>{x with fKind:=y},Kz,Qc⟩,CA⟩
def Q3:FI prog Sz 32 1:=⟨.bool,⟨1,λx=>x.fBool,λx y=>{x with fBool:=y},Qd,Qe⟩,QH⟩
def Q4:FI prog Sz 32 2:=⟨(.int .i64),⟨2,λx=>x.fInt,λx y=>{x with fInt:=y},wH,Qf⟩,nV⟩
def Q5:FI prog Sz 32 3:=⟨.str,⟨3,λx=>x.fText,λx y=>{x with fText:=y},Qg,Qh⟩,QI⟩
def Xm:BI prog Sz 32:=⟨_,[(0,1),(1,1),(2,1),(3,1)],Ap.zero,_,underlying32,rfl,zeroValue32,xY,rfl⟩
def Q6:FI prog Sz 57 0:=⟨(.int .u64),⟨0,λx=>x.fEpoch,λx y=>{x with fEpoch:=y},Cx,Gr⟩,zC⟩
def Q7:FI prog Sz 57 1:=⟨(.int .u32),⟨1,λx=>x.fNumber,λx y=>{x with fNumber:=y},QB,Gs⟩,KH⟩
def Xn:BI prog Sz 57:=⟨_,[(0,1),(1,1)],aO.zero,_,underlying57,rfl,zeroValue57,IV,rfl⟩
def Q8:FI prog Sz 59 0:=⟨(.st 57),⟨0,λx=>x.fId,λx y=>{x with fId:=y},sN,Cy⟩,lz⟩
def Q9:FI prog Sz 59 1:=⟨(.sl (.st 32)),⟨2,λx=>x.fRow,λx y=>{x with fRow:=y},KF,Gt⟩,nW⟩
def Ra:FI prog Sz 59 2:=⟨(.int .u64),⟨3,λx=>x.fDeleted,λx y=>{x with fDeleted:=y},QC,Gu⟩,Gz⟩
def Xo:BI prog Sz 59:=⟨_,[(0,2),(2,1),(3,1)],aa.zero,_,underlying59,rfl,zeroValue59,vS,rfl⟩
def OZ:FI prog Sz 120 0:=⟨(.int .i64),⟨0,λx=>x.fColumns,λx y=>{x with fColumns:=y},HM,HN⟩,qt⟩
def O0:FI prog Sz 120 1:=⟨(.sl (.int .i64)),⟨1,λx=>x.fSort,λx y=>{x with fSort:=y},wI,HO⟩,oK⟩
def O1:FI prog Sz 120 2:=⟨(.sl (.st 59)),⟨2,λx=>x.fL,λx y=>{x with fL:=y},qs,OU⟩,mO⟩
def UY:BI prog Sz 120:=⟨_,[(0,1),(1,1),(2,1)],aq.zero,_,underlying120,rfl,zeroValue120,EK,rfl⟩
def Rb:FI prog Sz 34 0:=⟨(.int .i64),⟨0,λx=>x.fKind,λx y=>{x with fKind:=y},Qi,KA⟩,QR⟩
def Rc:FI prog Sz 34 1:=⟨(.int .i64),⟨1,λx=>x.fMany,λx y=>{x with fMany:=y},Qj,KB⟩,QJ⟩
def Re:FI prog Sz 34 2:=⟨(.st 32),⟨2,λx=>x.fMin,λx y=>{x with fMin:=y},Qk,KC⟩,QK⟩
def Rf:FI prog Sz 34 3:=⟨(.st 32),⟨6,λx=>x.fMax,λx y=>{x with fMax:=y},Ql,KD⟩,QL⟩
def Rg:FI prog Sz 34 4:=⟨(.int .i64),⟨10,λx=>x.fNulls,λx y=>{x with fNulls:=y},Qm,KE⟩,Gx⟩
def Rh:FI prog Sz 34 5:=⟨(.int .i64),⟨11,λx=>x.fBytes,λx y=>{x with fBytes:=y},Qn,Qo⟩,Gy⟩
def Xp:BI prog Sz 34:=⟨_,[(0,1),(1,1),(2,4),(6,4),(10,1),(11,1)],bw.zero,_,underlying34,rfl,zeroValue34,Ds,rfl⟩
def O2:FI prog Sz 161 0:=⟨(.sl (.int .u8)),⟨0,λx=>x.fB,λx y=>{x with fB:=y},OQ,OR⟩,OW⟩
def O3:FI prog Sz 161 1:=⟨.bool,⟨1,λx=>x.fOk,λx y=>{x with fOk:=y},OS,OT⟩,OX⟩
def UZ:BI prog Sz 161:=⟨_,[(0,1),(1,1)],ai.zero,_,underlying161,rfl,zeroValue161,Nc,rfl⟩
def O4:FI prog Sz 187 0:=⟨(.int .i64),⟨0,λx=>x.fMany,λx y=>{x with fMany:=y},OM,Dm⟩,Dq⟩
def O5:FI prog Sz 187 1:=⟨(.st 32),⟨1,λx=>x.fValue,λx y=>{x with fValue:=y},ON,HK⟩,HP⟩
def U0:BI prog Sz 187:=⟨_,[(0,1),(1,4)],aS.zero,_,underlying187,rfl,zeroValue187,IR,rfl⟩
def Ri:FI prog Sz 37 0:=⟨(.int .i64),⟨0,λx=>x.fKind,λx y=>{x with fKind:=y},Qp,Qq⟩,QT⟩
def Rj:FI prog Sz 37 1:=⟨(.int .i64),⟨1,λx=>x.fMany,λx y=>{x with fMany:=y},Qr,Qs⟩,QQ⟩
def Rk:FI prog Sz 37 2:=⟨(.st 32),⟨2,λx=>x.fMin,λx y=>{x with fMin:=y},Qt,Qu⟩,QN⟩
def Rn:FI prog Sz 37 3:=⟨(.st 32),⟨6,λx=>x.fMax,λx y=>{x with fMax:=y},Qv,Qw⟩,QO⟩
def Ro:FI prog Sz 37 4:=⟨(.int .i64),⟨10,λx=>x.fNulls,λx y=>{x with fNulls:=y},Qx,Qy⟩,QP⟩
def Rp:FI prog Sz 37 5:=⟨(.int .i64),⟨11,λx=>x.fBytes,λx y=>{x with fBytes:=y},Qz,QA⟩,QS⟩
def Xq:BI prog Sz 37:=⟨_,[(0,1),(1,1),(2,4),(6,4),(10,1),(11,1)],bY.zero,_,underlying37,rfl,zeroValue37,QM,rfl⟩
def O6:FI prog Sz 155 0:=⟨(.int .i64),⟨0,λx=>x.fMany,λx y=>{x with fMany:=y},OO,Dn⟩,Du⟩
def O7:FI prog Sz 155 1:=⟨(.st 32),⟨1,λx=>x.fValue,λx y=>{x with fValue:=y},OP,HL⟩,OV⟩
def U3:BI prog Sz 155:=⟨_,[(0,1),(1,4)],eo.zero,_,underlying155,rfl,zeroValue155,EH,rfl⟩
def Rq:FI prog Sz 70 0:=⟨(.int .i64),⟨0,λx=>x.fColumns,λx y=>{x with fColumns:=y},QD,Gv⟩,KI⟩
def Rr:FI prog Sz 70 1:=⟨(.sl (.int .i64)),⟨1,λx=>x.fSort,λx y=>{x with fSort:=y},QE,KG⟩,GB⟩
def Ru:FI prog Sz 70 2:=⟨(.sl (.st 59)),⟨2,λx=>x.fL,λx y=>{x with fL:=y},QF,QG⟩,uE⟩
def Xr:BI prog Sz 70:=⟨_,[(0,1),(1,1),(2,1)],aX.zero,_,underlying70,rfl,zeroValue70,qh,rfl⟩
def Rw:EI prog Sz 32:=⟨inferInstanceAs (DecidableEq Ap),Gw,rfl⟩
def Rx:EI prog Sz 57:=⟨inferInstanceAs (DecidableEq aO),QV,rfl⟩
def Ry:EI prog Sz 37:=⟨inferInstanceAs (DecidableEq bY),WX,rfl⟩
def Xs:NI prog Sz 65:=⟨120,λx=>x,_,underlying65,λ_ _ _ h=>h⟩
def Γ:Tab prog Sz:=⟨Ab [⟨2,ti2⟩,⟨3,ti3⟩,⟨4,ti4⟩,⟨5,ti5⟩,⟨6,ti6⟩,⟨9,ti9⟩,⟨10,W7⟩,⟨11,W8⟩,⟨12,Xa⟩,⟨21,Xb⟩,⟨22,Q0⟩,⟨24,Xe⟩,⟨25,Xc⟩,⟨32,QZ⟩,⟨34,Xh⟩,⟨37,Xi⟩,⟨49,Xf⟩,⟨50,Xj⟩,⟨54,QX⟩,⟨55,QY⟩,⟨57,Xg⟩,⟨59,Q1⟩,⟨65,Xl⟩,⟨70,Xk⟩,⟨94,Xd⟩,⟨120,UU⟩,⟨126,UR⟩,⟨143,UO⟩,⟨152,US⟩,⟨155,Nf⟩,⟨161,UQ⟩,⟨185,UT⟩,⟨187,Ng⟩,⟨189,UP⟩,⟨218,UN⟩],Ab [⟨177,UV⟩,⟨178,UW⟩,⟨224,UX⟩],FK [⟨32,0,Q2⟩,⟨32,1,Q3⟩,⟨32,2,Q4⟩,⟨32,3,Q5⟩,⟨57,0,Q6⟩,⟨57,1,Q7⟩,⟨59,0,Q8⟩,⟨59,1,Q9⟩,⟨59,2,Ra⟩,⟨120,0,OZ⟩,⟨120,1,O0⟩,⟨120,2,O1⟩,⟨34,0,Rb⟩,⟨34,1,Rc⟩,⟨34,2,Re⟩,⟨34,3,Rf⟩,⟨34,4,Rg⟩,⟨34,5,Rh⟩,⟨161,0,O2⟩,⟨161,1,O3⟩,⟨187,0,O4⟩,⟨187,1,O5⟩,⟨37,0,Ri⟩,⟨37,1,Rj⟩,⟨37,2,Rk⟩,⟨37,3,Rn⟩,⟨37,4,Ro⟩,⟨37,5,Rp⟩,⟨155,0,O6⟩,⟨155,1,O7⟩,⟨70,0,Rq⟩,⟨70,1,Rr⟩,⟨70,2,Ru⟩],Ab [⟨32,Rw⟩,⟨57,Rx⟩,⟨37,Ry⟩],Ab [⟨32,Xm⟩,⟨57,Xn⟩,⟨59,Xo⟩,⟨120,UY⟩,⟨34,Xp⟩,⟨161,UZ⟩,⟨187,U0⟩,⟨37,Xq⟩,⟨155,U3⟩,⟨70,Xr⟩],Ab [⟨65,Xs⟩]⟩
def mC{f:FuncId}{ps:List Pm}{rs:List Rm}{g:dH Sz ps->Option (br Sz (gu ps rs))}(ok:Ctr Sz prog f ps rs g)(h:∀vs w,(callFunc f vs).run prog w=.ok (.enter f vs) w):CS prog Sz:=⟨f,ps,rs,g,ok,h⟩
theorem ncR{f:FuncId}{fn:Func}{n:Nat}{ps:List Pm}{rs:List Rm}{g:dH Sz ps->Option (br Sz (gu ps rs))}(D:List (CS prog Sz))(res:List Nat)(hf:prog.funcs[f]?=some fn)(Z:fn.ntmps=n)(A:An Sz (br Sz (gu ps rs)))(h:∀x,exF n Γ D (fn.body.getD .skip) ps rs res A x=g x)(hA:A.nc=true:=by exact rfl) (J:fn.body=some (fn.body.getD .skip):=by exact rfl) (W:Nat.ble ps.length n=true:=by exact rfl) (a0:fn.results.toList=res.map ResultVar.tmp:=by exact rfl):Ctr Sz prog f ps rs g:=Ctr.nc A hA mixed hf J Z W a0 h
theorem nxR{f:FuncId}{fn:Func}{n:Nat}{ps:List Pm}{rs:List Rm}{g:dH Sz ps->Option (br Sz (gu ps rs))}(D:List (CS prog Sz))(res:List ResultVar)(hf:prog.funcs[f]?=some fn)(Z:fn.ntmps=n)(A:An Sz (br Sz (gu ps rs)))(h:∀x,exX n Γ D (fn.body.getD .skip) ps rs res A x=g x)(hA:A.nc=true:=by exact rfl) (J:fn.body=some (fn.body.getD .skip):=by exact rfl) (W:Nat.ble ps.length n=true:=by exact rfl) (a0:fn.results.toList=res:=by exact rfl):Ctr Sz prog f ps rs g:=Ctr.nX A hA mixed hf J Z W a0 h
end
end Go.Proofs.YthbonoagbeilkaaGreat.Hay
