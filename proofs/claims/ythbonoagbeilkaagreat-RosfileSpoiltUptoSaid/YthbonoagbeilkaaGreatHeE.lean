import Derived.Test.YthbonoagbeilkaaGreatHcW
import Derived.Test.YthbonoagbeilkaaGreatExX
import Derived.Test.YthbonoagbeilkaaGreatProg
import Derived.Test.YthbonoagbeilkaaGreatHbM
import Derived.Shelf.SlSortCmp.NoneTotal
import Derived.Shelf.SlLaysF0
set_option linter.unusedVariables false
set_option linter.unusedSimpArgs false
namespace Go.Proofs.YthbonoagbeilkaaGreat.Hay
open Option renaming bind_some→Z0,all_some→Zk,map_some→X4,map_eq_some_iff→Xh
open List renaming getElem?_eq_getElem→Z1,length_append→Z2,drop_eq_getElem_cons→Z3,take_of_length_le→Z4,take_append_drop→Z5,drop_of_length_le→Z6,append_assoc→Z7,range→Z8,getElem_mem→Z9,map_append→Za,take_length→Zf,getElem_of_mem→Zg,eq_nil_of_length_eq_zero→Zh,all_eq_true→Zj,getElem?_eq_some_iff→Zn,foldl_cons→Zo,flatten_append→Zp,mem_range→Zq,contains_eq_mem→Zt,mem_of_getElem?→Zu,replicate→Zv,cons_append→Zw,map_congr_left→Zy,nil_append→Zz,append_nil→X3,drop_left'→X5,pairwise_iff_getElem→X7,mem_or_eq_of_mem_set→X8,getElem?_take_of_lt→X9,drop_left→Xa,length_eq_one_iff→Xb,length_take→Xd,length_drop→Xe,mem_append→Xg,foldl_nil→Xi,take_left→Xj,mem_cons→Xl,map_cons→Xm,mem_map→Xo
open Nat renaming le_refl→Zl,mod_two_eq_zero_or_one→Zx,strongRecOn→Xc,xor_comm→Xf
open Bool renaming eq_false_or_eq_true→Zd,not_eq_true'→Ze,and_eq_true→Zi,and_eq_false_iff→Zr,or_eq_false_iff→Zs,eq_iff_iff→X6
open Int renaming eq_ofNat_of_zero_le→Zb,emod_eq_of_lt→Zc
open BitVec renaming ofInt→Xp
open Prod renaming swap→Xn
open IntKind renaming i64→Zm,u8→Xk
section
variable {lt:aa→aa→Bool}{p:aa→aa→Option Int}
theorem PA (h : Swo lt) (hp : Cmp lt p) {self_ : List aa → Int → Int → Int → (aa → aa → Option Int) → Option (List aa)} {N : Nat} (hself : FV lt p self_ N) :
    FV lt p (cX self_) (N+1):=by
  intro L A B R a m b xs hA0 hB0 ha hm hb hxs hN hn hA hB;have hlen:xs.length=L.length+A.length+B.length+R.length:=by rw[hxs];simp;omega
  simp only[cX]
  by_cases hA1:A.length=1
  · rw [am (n := m - a) (by omega), if_pos (by simp; omega)]
    obtain⟨x,rfl⟩:=Xb.1 hA1;exact KQ h hp hB0 ha (by simpa using hm) (by simpa using hb) hxs hn hB
  rw[am (n:=m - a) (by omega),if_neg (by simp;omega)]
  by_cases hB1:B.length=1
  · rw [am (n := b - m) (by omega), if_pos (by simp; omega)]
    obtain⟨y,rfl⟩:=Xb.1 hB1;exact Jg h hp hA0 ha hm hxs hn hA
  rw[am (n:=b - m) (by omega),if_neg (by simp;omega)];have hM:Zm.wrap (ay .u64 (IntKind.u64.wrap (Zm.wrap (a+b))) 1)=(a+b)/2:=wL (by omega);have hNn:Zm.wrap ((a+b)/2+m)=(a+b)/2+m:=am (by omega)
  -- numbers
  obtain⟨aN,haN⟩:∃n:Nat,n=L.length:=⟨_,rfl⟩
  obtain⟨mN,hmN⟩:∃n:Nat,n=L.length+A.length:=⟨_,rfl⟩
  obtain⟨bN,hbN⟩:∃n:Nat,n=L.length+A.length+B.length:=⟨_,rfl⟩
  have ha':a=(aN:Int):=by omega
  have hm':m=(mN:Int):=by omega
  have hb':b=(bN:Int):=by omega
  obtain⟨mid,hmid⟩:∃n:Nat,n=(aN+bN)/2:=⟨_,rfl⟩
  have hmid':(a+b)/2=(mid:Int):=by omega
  rw[hmid'] at hM hNn
  -- the search
  have key: ∀lo0 hi0:Nat,aN≤lo0→lo0≤hi0→hi0≤mN→hi0≤mid→(lo0=aN∨lo0+bN=mid+mN)→(hi0=mN∨hi0=mid)→mid+mN≤lo0+bN→
      ∃T,cu xs a m b p self_ (lo0:Int) (hi0:Int)=some (L++T++R)∧Stb lt (A++B) T:=by
    intro lo0 hi0 q1 q2 q3 q4 q5 q6 q7
    obtain ⟨s,h1,h2,h3,h4,h5⟩:=AL (F:=fun s:(Int×Int)=>ct xs a m b p self_ s.1 s.2) (fun c=> !gx lt xs (mid+mN - 1 - c) c) lo0 hi0
      (λs=>cp xs a m b p self_ (s:Int)) (λlo hi g1 g2 g3=>by
        have hc:(lo+hi)/2<xs.length:=by omega
        have hd:mid+mN - 1 - (lo+hi)/2<xs.length:=by omega
        have ec:xs[(lo+hi)/2]? =some xs[(lo+hi)/2]:=Z1 hc;have ed:xs[mid+mN - 1 - (lo+hi)/2]? =some xs[mid+mN - 1 - (lo+hi)/2]:=Z1 hd;obtain⟨c,hc1,hc2⟩:=hp xs[mid+mN - 1 - (lo+hi)/2] xs[(lo+hi)/2];simp only[ct];rw[if_pos (by simp;omega),hM,wL (by omega),hNn,am (n:=(mid:Int)+m - 1) (by omega),am (n:=(mid:Int)+m - 1 - ((lo:Int)+hi)/2) (by omega),uh ed (by omega),uh ec (by omega),hc1,Z0,hc2,zH ed ec,am (by omega)]
        split<;>rfl)
      (λs g1 g2=>by
        simp only[ct]
        rw[if_neg (by simp)]) q2
    unfold cu;rw[h5,Pz (mid:=(mid:Int)) (e:=((mid+mN - s:Nat):Int)) hmid'.symm (by omega) (by omega) (by omega) (by omega) (by omega) (by omega) (by omega) (by omega) (by omega)];obtain⟨k1,hk1⟩:∃k,s=L.length+k:=⟨s - L.length,by omega⟩
    obtain⟨k2,hk2⟩:∃k,mid+mN - s=L.length+A.length+k:=⟨mid+mN - s - (L.length+A.length),by omega⟩
    have hkA:k1≤A.length:=by omega
    have hkB:k2≤B.length:=by omega
    obtain ⟨c1,c2⟩:=wM h hxs hA hB k1 k2 hkA hkB
      (by rcases h4 with h4 | h4
          · rcases q6 with q6 | q6
            ·right;left;omega
            ·left;omega
          · by_cases e1 : k2 = 0
            ·left;exact e1
            by_cases e2:k1=A.length
            ·right;left;exact e2
            right;right;refine⟨by omega,by omega,?_⟩;rw[show L.length+A.length+(k2 - 1)=mid+mN - 1 - s by omega,←hk1]
            simpa using h4)
      (by rcases h3 with h3 | h3
          · rcases q5 with q5 | q5
            ·left;omega
            ·right;left;omega
          · by_cases e1 : k1 = 0
            ·left;exact e1
            by_cases e2:k2=B.length
            ·right;left;exact e2
            right;right;refine⟨by omega,by omega,?_⟩;rw[show L.length+A.length+k2=mid+mN - 1 - (s - 1) by omega,show L.length+(k1 - 1)=s - 1 by omega]
            simpa using h3)
    have eA:A.take k1++A.drop k1=A:=Z5 _ _;have eB:B.take k2++B.drop k2=B:=Z5 _ _;have lA1:(A.take k1).length=k1:=by simp;omega
    have lA2:(A.drop k1).length=A.length - k1:=by simp
    have lB1:(B.take k2).length=k2:=by simp;omega
    have lB2:(B.drop k2).length=B.length - k2:=by simp
    have hx4:xs=L++A.take k1++A.drop k1++B.take k2++(B.drop k2++R):=by
      rw[hxs]
      conv=>lhs;rw[←eA,←eB]
      simp only[Z7]
    -- the turn
    have hrot:(if (s:Int)<m∧m<((mid+mN - s:Nat):Int) then cA xs s m ((mid+mN - s:Nat):Int) p else some xs)=some (L++A.take k1++B.take k2++(A.drop k1++B.drop k2++R)):=by
      split
      · rename_i hc
        rw [Me (A:=L++A.take k1) (X:=A.drop k1) (Y:=B.take k2) (C:=B.drop k2++R) (by rw [lA2];omega) (by rw [lB1];omega) (by rw [Z2,lA1];omega) (by rw [lA2];omega) (by rw [lB1];omega)
          hx4 (by omega)]
        simp
      · rename_i hc
        rw[hx4]
        by_cases e1:k1=A.length
        · have : A.drop k1 = [] := Z6 (by omega)
          rw[this];simp only[Z7,Zz,X3]
        · have e2 : k2 = 0 := by omega
          have:B.take k2=[]:=by rw[e2];rfl
          rw[this];simp only[Z7,Zz,X3]
    rw[hrot,Z0]
    -- ahead
    have h1':∃T1,(if a<(s:Int)∧(s:Int)<(mid:Int) then self_ (L++A.take k1++B.take k2++(A.drop k1++B.drop k2++R)) a s mid p else some (L++A.take k1++B.take k2++(A.drop k1++B.drop k2++R)))=some (L++T1++(A.drop k1++B.drop k2++R))∧Stb lt (A.take k1++B.take k2) T1:=by
      split
      · rename_i hc
        exact hself L (A.take k1) (B.take k2) _ a s mid _ (by omega) (by omega) ha (by rw[lA1];omega) (by rw[lA1,lB1];omega) rfl (by omega) (by simp only[Z2,lA1,lB1,lA2,lB2];omega) (hA.take _) (hB.take _)
      · rename_i hc
        refine⟨A.take k1++B.take k2,by simp,Stb.refl ?_⟩
        by_cases e1:k1=0
        ·rw[e1];simpa using hB.take k2
        · have e2 : k2 = 0 := by omega
          rw[e2];simpa using hA.take k1
    obtain⟨T1,e1,s1⟩:=h1';rw[e1,Z0];have lT1:T1.length=k1+k2:=by rw[s1.len h,Z2,lA1,lB1]
    have h2':∃T2,(if (mid:Int)<((mid+mN - s:Nat):Int)∧((mid+mN - s:Nat):Int)<b then self_ (L++T1++(A.drop k1++B.drop k2++R)) mid ((mid+mN - s:Nat):Int) b p else some (L++T1++(A.drop k1++B.drop k2++R)))=some (L++T1++T2++R)∧Stb lt (A.drop k1++B.drop k2) T2:=by
      split
      · rename_i hc
        exact hself (L++T1) (A.drop k1) (B.drop k2) R mid _ b _ (by omega) (by omega) (by rw[Z2,lT1];omega) (by rw[Z2,lT1,lA2];omega) (by rw[Z2,lT1,lA2,lB2];omega) (by simp) (by omega) (by simp only[Z2,lA2,lB2,lT1];omega) (hA.drop _) (hB.drop _)
      · rename_i hc
        refine⟨A.drop k1++B.drop k2,by simp,Stb.refl ?_⟩
        by_cases e1:k1=A.length
        ·rw[e1];simpa using hB.drop k2
        · have e2 : k2 = B.length := by omega
          rw[e2];simpa using hA.drop k1
    obtain⟨T2,e2,s2⟩:=h2';rw[e2];refine⟨T1++T2,by simp,?_⟩;have:=Stb.cat h s1 s2 (by rw[eA];exact hA) (by rw[eB];exact hB) c1 c2;rw[eA,eB] at this;exact this
  rw[hM]
  by_cases hmm:mid<mN
  · rw [if_pos (by simp; omega), hNn, am (by omega)]
    have:=key (mid+mN - bN) mid (by omega) (by omega) (by omega) (by omega) (Or.inr (by omega)) (Or.inr rfl) (by omega);rw[show((mid+mN - bN:Nat):Int)=(mid:Int)+m - b by omega] at this;exact this
  · rw [if_neg (by simp; omega)]
    have:=key aN mN (by omega) (by omega) (by omega) (by omega) (Or.inl rfl) (Or.inl rfl) (by omega);rw[←ha',←hm'] at this;exact this
theorem PB (h:Swo lt)(hp:Cmp lt p):∀n,FV lt p (cY n) n:=by
  intro n
  induction n with
  |zero=>intro L A B R a m b xs hA hB _ _ _ _ hN;omega
  |succ n ih=>exact PA h hp ih
theorem Hm (h:Swo lt) (hp:Cmp lt p) {L A B R xs:List aa} {a m b:Int} (hA0:0<A.length) (hB0:0<B.length) (ha:a=(L.length:Int)) (hm:m=(L.length:Int)+A.length) (hb:b=(L.length:Int)+A.length+B.length)
    (hxs:xs=L++A++B++R) (hn:xs.length<1152921504606846976) (hA:Srt lt A) (hB:Srt lt B):
    ∃T,du xs a m b p=some (L++T++R)∧Stb lt (A++B) T:=by
  unfold du;exact PB h hp _ L A B R a m b xs hA0 hB0 ha hm hb hxs (by rw[hxs];simp;omega) hn hA hB
end
set_option linter.unusedVariables false
set_option linter.unusedSimpArgs false
inductive Bls {α:Type} (lt:α→α→Bool) (k:Nat):List α→List α→Prop
 |last {l l':List α} (h:l.length≤k) (s:Stb lt l l'):Bls lt k l l'
 |more {l l' t t':List α} (h:l.length=k) (s:Stb lt l l') (ht:Bls lt k t t'):Bls lt k (l++t) (l'++t')
section
variable {α:Type}{lt:α→α→Bool}
theorem Stb.nil:Stb lt ([]:List α) []:=⟨List.Pairwise.nil,λ_=>rfl⟩
theorem Bls.len (h:Swo lt){k:Nat}{l l':List α}(hb:Bls lt k l l'):l'.length=l.length:=by
 induction hb with
 |last _ s=>exact s.len h
 |more _ s _ ih=>rw[Z2,Z2,s.len h,ih]
theorem Bls.done (h:Swo lt){k:Nat}(hk:0<k){l l':List α}(hb:Bls lt k l l')(hl:l.length≤k):Stb lt l l':=by
 cases hb with
 |last _ s=>exact s
 | @more l l' t t' h1 s ht=>
  rw[Z2] at hl;have:t=[]:=Zh (by omega);subst this;have:t'=[]:=Zh (by rw[ht.len h];rfl);subst this;simpa using s
theorem Bls.split (h:Swo lt){k:Nat}{l l':List α}(hb:Bls lt k l l')(hl:k≤l.length):∃l1 l2 l1' l2',l=l1++l2∧l'=l1'++l2'∧l1.length=k∧Stb lt l1 l1'∧Bls lt k l2 l2':=by
 cases hb with
 |last h1 s=>exact⟨l,[],l',[],by simp,by simp,by omega,s,.last (by simp) Stb.nil⟩
 | @more l l' t t' h1 s ht=>exact⟨l,t,l',t',rfl,rfl,h1,s,ht⟩
end
section
variable {lt:aa→aa→Bool}{p:aa→aa→Option Int}
theorem PC (h:Swo lt) (hp:Cmp lt p) (n:Int) (hn:n<1152921504606846976): ∀(k:Nat) (X D:List aa) (a:Int) (xs:List aa),X.length=k→a=(D.length:Int)→n=(D.length:Int)+X.length→xs=D++X→
  ∃X',Bls lt 20 X X'∧au (fun s:(Int×Int×List aa)=>bC n p s.1 s.2.1 s.2.2) (a,a+20,xs)=
   au (λs:(Int×List aa)=>a7 n p s.1 s.2) (20,D++X'):=by
 intro k
 induction k using Xc with
 | _ k ih =>
  intro X D a xs hk ha hN hxs
  by_cases hX:20≤X.length
  ·have e:X=X.take 20++X.drop 20:=(Z5 _ _).symm
   obtain⟨T,h1,h2⟩:=Hl h hp D (X.take 20) (X.drop 20) (a:=a) (b:=a+20) (xs:=xs) ha (by simp;omega) (by omega) (by rw[hxs];simp);have hlT:=h2.len h;rw[Xd] at hlT
   have hst:bC n p a (a+20) xs=some (.inl (a+20,a+20+20,(D++T)++X.drop 20)):=by
    simp only[bC];rw[if_pos (by simp;omega),h1,Z0,am (by omega)]
   obtain⟨X',h3,h4⟩:=ih (X.length - 20) (by omega) (X.drop 20) (D++T) (a+20) _ (by simp) (by rw[Z2];omega) (by rw[Z2,Xe];omega) rfl;refine⟨T++X',?_,?_⟩
   ·have:=Bls.more (by rw [Xd];omega) h2 h3
    rw[←e] at this;exact this
   ·rw[bL hst,h4,Z7]
  ·obtain ⟨T,h1,h2⟩:=Hl h hp D X [] (a:=a) (b:=n) (xs:=xs) ha hN (by omega) (by rw [hxs];simp)
   refine⟨T,.last (by omega) h2,?_⟩;rw[pp]
   have:bC n p a (a+20) xs=(au (λs:(Int×List aa)=>a7 n p s.1 s.2) (20,D++T)).map Sum.inr:=by
    simp only[bC,d7];rw[if_neg (by simp;omega),h1,Z0,X3]
   simp only[this];cases au (λs:(Int×List aa)=>a7 n p s.1 s.2) (20,D++T)<;>rfl
theorem PD (h:Swo lt) (hp:Cmp lt p) (n:Int) (hn:n<288230376151711744) (bs:Nat) (h0:0<bs) (hbs:(bs:Int)<n): ∀(k:Nat) (X0 X D:List aa) (a b:Int) (xs:List aa),X.length=k→a=(D.length:Int)→b=a+2*bs→n=(D.length:Int)+X.length→xs=D++X→Bls lt bs X0 X→
  ∃X',Bls lt (2*bs) X0 X'∧au (λs:(Int×Int×List aa)=>bP n p bs s.1 s.2.1 s.2.2) (a,b,xs)=some (.inl (((2*bs:Nat):Int),D++X')):=by
 intro k
 induction k using Xc with
 | _ k ih =>
  intro X0 X D a b xs hk ha hb hN hxs hbl;have hl:=hbl.len h;have hxl:xs.length<1152921504606846976:=by rw[hxs,Z2];omega
  by_cases hX:2*bs≤X.length
  ·obtain ⟨l1,l2,l1',l2',e1,e1',hl1,s1,hb2⟩:=hbl.split h (by omega)
   have hl2:=hb2.len h;have q1:l1'.length=bs:=by rw[s1.len h,hl1]
   have q2:X.length=l1'.length+l2'.length:=by rw[e1',Z2]
   obtain⟨l3,l4,l3',l4',e2,e2',hl3,s3,hb4⟩:=hb2.split h (by omega);have q3:l3'.length=bs:=by rw[s3.len h,hl3]
   have q4:l2'.length=l3'.length+l4'.length:=by rw[e2',Z2]
   obtain⟨T,h1,h2⟩:=Hm h hp (L:=D) (A:=l1') (B:=l3') (R:=l4') (a:=a) (m:=a+bs) (b:=b) (xs:=xs) (by omega) (by omega) ha (by omega) (by omega) (by rw[hxs,e1',e2'];simp) hxl s1.srt s3.srt;have hlT:=h2.len h;rw[Z2] at hlT
   have hst:bP n p bs a b xs=some (.inl (b,b+2*bs,(D++T)++l4')):=by
    simp only[bP];rw[if_pos (by simp;omega),am (n:=a+bs) (by omega),h1,Z0,am (n:=2*(bs:Int)) (by omega),am (by omega)]
   obtain⟨X',h3,h4⟩:=ih l4'.length (by omega) l4 l4' (D++T) b (b+2*bs) _ rfl (by rw[Z2];omega) rfl (by rw[Z2];omega) rfl hb4;refine⟨T++X',?_,?_⟩
   ·rw [e1,e2, ←Z7]
    exact Bls.more (by rw[Z2];omega) (h2.trans λc=>by simp[s1.flt,s3.flt]) h3
   ·rw[bL hst,h4,Z7]
  ·by_cases hX2:bs<X.length
   ·obtain ⟨l1,l2,l1',l2',e1,e1',hl1,s1,hb2⟩:=hbl.split h (by omega)
    have hl2:=hb2.len h;have q1:l1'.length=bs:=by rw[s1.len h,hl1]
    have q2:X.length=l1'.length+l2'.length:=by rw[e1',Z2]
    have s2:=hb2.done h h0 (by omega);obtain⟨T,h1,h2⟩:=Hm h hp (L:=D) (A:=l1') (B:=l2') (R:=[]) (a:=a) (m:=a+bs) (b:=n) (xs:=xs) (by omega) (by omega) ha (by omega) (by omega) (by rw[hxs,e1'];simp) hxl s1.srt s2.srt;refine⟨T,.last (by omega) ?_,?_⟩
    ·rw [e1]
     exact h2.trans λc=>by simp[s1.flt,s2.flt]
    ·apply aZ
     simp only[bP,dh,cD];rw[if_neg (by simp;omega),am (n:=a+bs) (by omega),if_pos (by simp;omega),h1,Z0,am (by omega)];simp[Int.mul_comm]
   ·refine ⟨X,.last (by omega) (hbl.done h h0 (by omega)),?_⟩
    apply aZ;simp only[bP,dh,cD];rw[if_neg (by simp;omega),am (n:=a+bs) (by omega),if_neg (by simp;omega),am (by omega),hxs];simp[Int.mul_comm]
theorem PE (h:Swo lt) (hp:Cmp lt p) (n:Int) (hn:n<288230376151711744) (X0:List aa) (hX0:n=(X0.length:Int)): ∀(k bs:Nat) (X:List aa),(X0.length - bs)=k→0<bs→Bls lt bs X0 X→
  ∃X',au (λs:(Int×List aa)=>a7 n p s.1 s.2) ((bs:Int),X)=some X'∧Stb lt X0 X':=by
 intro k
 induction k using Xc with
 | _ k ih =>
  intro bs X hk h0 hbl;have hl:=hbl.len h
  by_cases hb:(bs:Int)<n
  ·obtain ⟨X',h1,h2⟩:=PD h hp n hn bs h0 hb X.length X0 X [] 0 (2*bs) X rfl rfl (by simp) (by simp;omega) (by simp) hbl
   have hst:a7 n p bs X=some (.inl (((2*bs:Nat):Int),X')):=by
    simp only[a7];rw[if_pos (by simp;omega),am (by omega),h2,Zz]
   obtain⟨X2,h3,h4⟩:=ih (X0.length - 2*bs) (by omega) (2*bs) X' rfl (by omega) h1;exact⟨X2,by rw[bL hst];exact h3,h4⟩
  ·refine ⟨X,?_,hbl.done h h0 (by omega)⟩
   apply aZ;simp only[a7];rw[if_neg (by simp;omega)]
   rfl
theorem Hn (h:Swo lt)(hp:Cmp lt p)(X:List aa)(hn:X.length<288230376151711744):∃X',dF X p=some X'∧Stb lt X X':=by
 obtain⟨X1,h1,h2⟩:=PC h hp (X.length:Int) (by omega) X.length X [] 0 X rfl rfl (by simp) rfl;obtain⟨X2,h3,h4⟩:=PE h hp (X.length:Int) (by omega) X rfl _ 20 X1 rfl (by omega) h1;refine⟨X2,?_,h4⟩;unfold dF eS;have h2:au (λs:(Int×Int×List aa)=>bC (X.length:Int) p s.1 s.2.1 s.2.2) (0,20,X)=_:=h2;rw[h2,Zz];have h3:au (λs:(Int×List aa)=>a7 (X.length:Int) p s.1 s.2) (20,X1)=_:=h3;rw[h3]
 rfl
end
set_option linter.unusedVariables false
set_option linter.unusedSimpArgs false
theorem jT {σ β:Type}{f:σ→Option (σ⊕β)}{s:σ}{b:Option β}(S:Nat→σ)(n:Nat)(h0:s=S 0)(step:∀i,i<n→f (S i)=some (.inl (S (i+1))))(fin:f (S n)=b.map Sum.inr):au f s=b:=by
 have key:∀i,i≤n→au f s=au f (S i):=by
  intro i
  induction i with
  |zero=>intro _;rw[h0]
  |succ i ih=>intro h;rw[ih (by omega),bL (step i (by omega))]
 rw[key n (Zl n),pp,fin];cases b<;>rfl
section
variable {α β:Type}
theorem Swo.comap {lt:α→α→Bool} (h:Swo lt) (f:β→α):Swo fun a b=>lt (f a) (f b):=
 ⟨λa=>h.irr _,λa b c=>h.tr _ _ _,λa b c=>h.inc _ _ _⟩
def pP (l1 l2:α→α→Bool)(a b:α):Bool:=l1 a b||(!l1 b a&&l2 a b)
theorem Swo.lex {l1 l2:α→α→Bool}(h1:Swo l1)(h2:Swo l2):Swo (pP l1 l2):=by
 refine⟨λa=>by simp[pP,h1.irr,h2.irr],λa b c hab hbc=>?_,λa b c hab hbc=>?_⟩
 ·simp only [pP,Bool.or_eq_true,Zi,Ze] at*
  rcases hab with hab|⟨nba,hab⟩<;>rcases hbc with hbc|⟨ncb,hbc⟩
  ·exact Or.inl (h1.tr _ _ _ hab hbc)
  ·left
   cases hac:l1 a c with
   |true=>rfl
   |false=>rw[h1.inc a c b hac ncb] at hab;cases hab
  ·left
   cases hac:l1 a c with
   |true=>rfl
   |false=>rw[h1.inc b a c nba hac] at hbc;cases hbc
  ·exact Or.inr ⟨h1.inc c b a ncb nba,h2.tr _ _ _ hab hbc⟩
 ·simp only [pP,Zs,Zr,Bool.not_eq_false'] at*
  refine⟨h1.inc _ _ _ hab.1 hbc.1,?_⟩;rcases hab.2 with h3|h3
  ·left
   cases hca:l1 c a with
   |true=>rfl
   |false=>rw[h1.inc b c a hbc.1 hca] at h3;cases h3
  ·rcases hbc.2 with h4|h4
   ·left
    cases hca:l1 c a with
    |true=>rfl
    |false=>rw[h1.inc c a b hca hab.1] at h4;cases h4
   ·right;exact h2.inc _ _ _ h3 h4
def lexL (lt:α→α→Bool):List α→List α→Bool
 |_,[]=>false
 |[],_::_=>true
 |a::x,b::y=>lt a b||(!lt b a&&lexL lt x y)
theorem Swo.lexL {lt:α→α→Bool}(h:Swo lt):Swo (lexL lt):=by
 refine⟨?_,?_,?_⟩
 ·intro a
  induction a with
  |nil=>rfl
  |cons a x ih=>simp[Hay.lexL,h.irr,ih]
 ·intro a
  induction a with
  |nil=>
   intro b c hab hbc;cases c with
   |nil=>cases b<;>simp[Hay.lexL] at hbc
   |cons c z=>rfl
  | cons a x ih =>
   intro b c hab hbc;cases b with
   |nil=>simp[Hay.lexL] at hab
   | cons b y =>
    cases c with
    |nil=>simp[Hay.lexL] at hbc
    | cons c z =>
     simp only[Hay.lexL,Bool.or_eq_true,Zi,Ze] at*;rcases hab with hab|⟨nba,hab⟩<;>rcases hbc with hbc|⟨ncb,hbc⟩
     ·exact Or.inl (h.tr _ _ _ hab hbc)
     ·left
      cases hac:lt a c with
      |true=>rfl
      |false=>rw[h.inc a c b hac ncb] at hab;cases hab
     ·left
      cases hac:lt a c with
      |true=>rfl
      |false=>rw[h.inc b a c nba hac] at hbc;cases hbc
     ·exact Or.inr ⟨h.inc c b a ncb nba,ih _ _ hab hbc⟩
 ·intro a
  induction a with
  |nil=>
   intro b c hab hbc;cases b with
   |nil=>exact hbc
   |cons b y=>simp[Hay.lexL] at hab
  | cons a x ih =>
   intro b c hab hbc;cases c with
   |nil=>rfl
   | cons c z =>
    cases b with
    |nil=>simp[Hay.lexL] at hbc
    | cons b y =>
     simp only[Hay.lexL,Zs,Zr,Bool.not_eq_false'] at*;refine⟨h.inc _ _ _ hab.1 hbc.1,?_⟩;rcases hab.2 with h3|h3
     ·left
      cases hca:lt c a with
      |true=>rfl
      |false=>rw[h.inc b c a hbc.1 hca] at h3;cases h3
     ·rcases hbc.2 with h4|h4
      ·left
       cases hca:lt c a with
       |true=>rfl
       |false=>rw[h.inc c a b hca hab.1] at h4;cases h4
      ·right;exact ih _ _ h3 h4
theorem RG:Swo fun a b:Int=>decide (a<b):=
 ⟨λa=>by simp,λa b c h1 h2=>by simp at*;omega,λa b c h1 h2=>by simp at*;omega⟩
theorem xy: ∀s u:List Int,ltB s u=lexL (fun a b:Int=>decide (a<b)) s u
 |s,[]=>by cases s<;>rfl
 |[],_::_=>rfl
 | a :: x, b :: y => by
  simp only[ltB,lexL,xy x y]
  by_cases h1:a<b
  ·simp[h1]
  ·by_cases h2:b<a
   ·have:a≠b:=by omega
    simp[h1,h2,this]
   ·have:a=b:=by omega
    simp[this]
theorem RH:Swo ltB:=by
 have h:=RG.lexL;exact⟨λa=>by rw[xy];exact h.irr a,λa b c=>by simp only[xy];exact h.tr a b c,λa b c=>by simp only[xy];exact h.inc a b c⟩
def sgn (lt:α→α→Bool)(a b:α):Int:=if lt a b then -1 else if lt b a then 1 else 0
theorem Mg {lt:α→α→Bool}{a b:α}:decide (sgn lt a b<0)=lt a b:=by
 unfold sgn;cases lt a b
 ·cases lt b a<;>simp
 ·simp
theorem u7 {l1 l2:α→α→Bool}(h1:Swo l1){a b:α}:sgn (pP l1 l2) a b=if sgn l1 a b≠0 then sgn l1 a b else sgn l2 a b:=by
 unfold sgn pP;cases e1:l1 a b
 ·cases e2:l1 b a
  ·simp
  ·simp
 ·simp
theorem Dn {lt:α→α→Bool}(h:Swo lt){a b:α}{x y:List α}:sgn (lexL lt) (a::x) (b::y)=if sgn lt a b≠0 then sgn lt a b else sgn (lexL lt) x y:=by
 by_cases e1:lt a b=true
 ·simp[sgn,lexL,e1]
 ·by_cases e2:lt b a=true
  ·simp[sgn,lexL,e1,e2]
  ·simp[sgn,lexL,e1,e2]
end
def vk2 (v:Ap):Int:=if v.fKind=1 then (if v.fBool then 1 else 0) else if v.fKind=2 then v.fInt else 0
def vk3 (v:Ap):List Int:=if v.fKind=3 then v.fText else []
def vlt:Ap→Ap→Bool:=
 pP (λa b=>decide (a.fKind<b.fKind)) (pP (λa b=>decide (vk2 a<vk2 b)) (λa b=>ltB (vk3 a) (vk3 b)))
theorem EM:Swo vlt:=(RG.comap λv:Ap=>v.fKind).lex ((RG.comap vk2).lex (RH.comap vk3))
theorem Do (a b:Ap):rp a b=some (vlt a b):=by
 unfold rp vlt pP
 by_cases hk:a.fKind=b.fKind
 ·rw [if_neg (by simp [hk])]
  by_cases h1:b.fKind=1
  ·simp only [kW,vk2,vk3,hk,h1]
   cases ha:a.fBool<;>cases hb:b.fBool<;>simp[ltB]
  ·by_cases h2:b.fKind=2
   ·simp only [kW,vk2,vk3,hk,h2]
    simp[ltB]
   ·by_cases h3:b.fKind=3
    ·simp only [kW,oU,vk2,vk3,hk,h3]
     simp
    ·simp only [kW,oU,vk2,vk3,hk]
     simp[h1,h2,h3,ltB]
 ·rw [if_pos (by simp [hk])]
  by_cases hl:a.fKind<b.fKind
  ·simp[hl]
  ·have:b.fKind<a.fKind:=by omega
   simp[hl,this]
theorem BP (a b:Ap):jK a b=some (sgn vlt a b):=by
 unfold jK sgn;rw[Do,Do,Z0,Z0];cases vlt a b<;>cases vlt b a<;>rfl
theorem JO (a b:Int):it a b=some (sgn (λa b:Int=>decide (a<b)) a b):=by
 simp only[it,lq,sgn,Z0,bne_self_eq_false]
 by_cases h1:a<b<;>by_cases h2:b<a<;>simp[h1,h2]
theorem KR (a b:Int):iI a b=some (sgn (λa b:Int=>decide (a<b)) a b):=by
 simp only[iI,jJ,sgn,Z0,bne_self_eq_false]
 by_cases h1:a<b<;>by_cases h2:b<a<;>simp[h1,h2]
theorem PF (a b:Int):ij a b=some (sgn (λa b:Int=>decide (a<b)) a b):=by
 simp only[ij,k9,sgn,Z0,bne_self_eq_false]
 by_cases h1:a<b<;>by_cases h2:b<a<;>simp[h1,h2]
theorem PG (a b:Int):ik a b=some (sgn (λa b:Int=>decide (a<b)) a b):=by
 simp only[ik,la,sgn,Z0,bne_self_eq_false]
 by_cases h1:a<b<;>by_cases h2:b<a<;>simp[h1,h2]
theorem BQ (a b:Ap):cB a b=some (sgn vlt a b):=by
 unfold cB vlt;rw[u7 (RG.comap λv:Ap=>v.fKind),u7 (RG.comap vk2)]
 by_cases hk:a.fKind=b.fKind
 ·rw [if_neg (by simp [hk])]
  have e0:sgn (λa b:Ap=>decide (a.fKind<b.fKind)) a b=0:=by simp[sgn,hk]
  rw[e0];simp only[ne_eq,not_true_eq_false,if_false]
  by_cases h1:b.fKind=1
  ·simp only [fu,vk2,vk3,hk,h1,sgn]
   cases ha:a.fBool<;>cases hb:b.fBool<;>simp[ltB]
  ·by_cases h2:b.fKind=2
   ·have ka:a.fKind=2:=hk.trans h2
    have a2:vk2 a=a.fInt:=by simp[vk2,ka]
    have b2:vk2 b=b.fInt:=by simp[vk2,h2]
    have a3:vk3 a=[]:=by simp[vk3,ka]
    have b3:vk3 b=[]:=by simp[vk3,h2]
    rw[if_neg (by simp[ka]),fu,if_neg (by simp),if_pos (by simp[ka]),KR];simp only[sgn,a2,b2,a3,b3,ltB]
    by_cases q1:a.fInt<b.fInt<;>by_cases q2:b.fInt<a.fInt<;>simp[q1,q2]
   ·by_cases h3:b.fKind=3
    ·have ka:a.fKind=3:=hk.trans h3
     have a2:vk2 a=0:=by simp[vk2,ka]
     have b2:vk2 b=0:=by simp[vk2,h3]
     have a3:vk3 a=a.fText:=by simp[vk3,ka]
     have b3:vk3 b=b.fText:=by simp[vk3,h3]
     rw[if_neg (by simp[ka]),fu,if_neg (by simp),if_neg (by simp[ka]),if_pos (by simp[ka]),lX,ew,Z0,Z0,td];simp only[sgn,a2,b2,a3,b3];simp
    ·have ka:a.fKind≠1∧a.fKind≠2∧a.fKind≠3:=by rw [hk];exact ⟨h1,h2,h3⟩
     have a2:vk2 a=0:=by simp[vk2,ka]
     have b2:vk2 b=0:=by simp[vk2,h1,h2]
     have a3:vk3 a=[]:=by simp[vk3,ka]
     have b3:vk3 b=[]:=by simp[vk3,h3]
     rw[if_neg (by simp[ka]),fu,if_neg (by simp),if_neg (by simp[ka]),if_neg (by simp[ka])];simp only[sgn,a2,b2,a3,b3,ltB];simp
 ·rw [if_pos (by simp [hk]),JO,Z0]
  have:sgn (λa b:Ap=>decide (a.fKind<b.fKind)) a b≠0:=by
   unfold sgn
   by_cases hl:a.fKind<b.fKind
   ·simp[hl]
   ·have:b.fKind<a.fKind:=by omega
    simp[hl,this]
  rw[if_pos this]
  rfl
def rlt:List Ap→List Ap→Bool:=lexL vlt
theorem RI:Swo rlt:=EM.lexL
theorem FW {s t:List Ap}(hs:s.length<4611686018427387904)(ht:t.length<4611686018427387904):oY s t=some (sgn rlt s t):=by
 unfold oY;refine oA (λi=>∃k:Nat,i=(k:Int)∧k≤s.length∧k≤t.length∧sgn rlt (s.drop k) (t.drop k)=sgn rlt s t) (λi=>s.length - i.toNat) ?_ ⟨0,rfl,by simp,by simp,by simp⟩;rintro i ⟨k,rfl,h1,h2,h3⟩;simp only[vr]
 by_cases hk:k<s.length∧k<t.length
 ·obtain ⟨hk1,hk2⟩:=hk
  rw[if_pos (by split<;>simp<;>omega),az hk1,Z0,az hk2,Z0,BQ,Z0];rw[Z3 hk1,Z3 hk2,rlt,Dn EM] at h3
  by_cases hc:sgn vlt s[k] t[k]=0
  ·left
   rw[if_neg (by simp[hc])];refine⟨_,rfl,⟨k+1,by rw[am (by omega)];rfl,by omega,by omega,?_⟩,?_⟩
   ·rw[if_neg (by simp[hc])] at h3;exact h3
   ·rw[am (by omega)];omega
  ·right
   rw[if_pos (by simp[hc])];rw[if_pos hc] at h3;rw[h3];rfl
 ·right
  rw[if_neg (by split<;>simp<;>omega),vq,JO,Z0,←h3]
  have key:∀(x y:List Ap),(x=[]∨y=[])→sgn rlt x y=sgn (λa b:Int=>decide (a<b)) (x.length:Int) (y.length:Int):=by
   intro x y hxy;rcases hxy with rfl|rfl
   ·cases y<;>simp[sgn,rlt,lexL]<;>omega
   ·cases x<;>simp[sgn,rlt,lexL]<;>omega
  rw[key]
  ·have e1:((s.length:Int)<t.length)↔(((s.length - k:Nat):Int)<((t.length - k:Nat):Int)):=by omega
   have e2:((t.length:Int)<s.length)↔(((t.length - k:Nat):Int)<((s.length - k:Nat):Int)):=by omega
   simp only[sgn,Xe,decide_eq_true_eq,e1,e2,X4]
  ·by_cases q:k<s.length
   ·right;exact Z6 (by omega)
   ·left;exact Z6 (by omega)
theorem FX {s t:List Ap}(hs:s.length<4611686018427387904)(ht:t.length<4611686018427387904):Al s t=some (sgn rlt s t):=by
 unfold Al;refine oA (λi=>∃k:Nat,i=(k:Int)∧k≤s.length∧k≤t.length∧sgn rlt (s.drop k) (t.drop k)=sgn rlt s t) (λi=>s.length - i.toNat) ?_ ⟨0,rfl,by simp,by simp,by simp⟩;rintro i ⟨k,rfl,h1,h2,h3⟩;simp only[zl]
 by_cases hk1:k<s.length
 ·rw [if_pos (by simp;omega)]
  by_cases hk2:k<t.length
  ·rw [if_neg (by simp;omega),az hk1,Z0,az hk2,Z0,BP,Z0]
   rw[Z3 hk1,Z3 hk2,rlt,Dn EM] at h3
   by_cases hc:sgn vlt s[k] t[k]=0
   ·left
    rw[if_neg (by simp[hc])];refine⟨_,rfl,⟨k+1,by rw[am (by omega)];rfl,by omega,by omega,?_⟩,?_⟩
    ·rw[if_neg (by simp[hc])] at h3;exact h3
    ·rw[am (by omega)];omega
   ·right
    rw[if_pos (by simp[hc])];rw[if_pos hc] at h3;rw[h3];rfl
  ·right
   have:k=t.length:=by omega
   rw[if_pos (by simp;omega),←h3,this,List.drop_length,Z3 (by omega)];simp[sgn,rlt,lexL]
 ·right
  rw[if_neg (by simp;omega),←h3,Z6 (by omega:s.length≤k),zk]
  by_cases hk2:k<t.length
  ·rw [if_pos (by simp;omega),Z3 hk2]
   simp[sgn,rlt,lexL]
  ·rw [if_neg (by simp;omega),Z6 (by omega:t.length≤k)]
   simp[sgn,rlt,lexL]
def jU (cs:List Int)(row:List Ap):List Ap:=cs.map λc=>if 0≤c∧c<(row.length:Int) then row.getD c.toNat Ap.zero else Ap.zero
theorem s4 (cs:List Int)(row:List Ap):(jU cs row).length=cs.length:=by simp[jU]
theorem Ho {α:Type}{xs:List α}{i:Int}(d:α)(h:0≤i∧i<(xs.length:Int)):idx xs i=some (xs.getD i.toNat d):=by
 obtain⟨n,rfl⟩:=Zb h.1;have hn:n<xs.length:=by omega
 rw[az hn];simp[hn]
theorem Dp {f:List Ap×Int→Option ((List Ap×Int)⊕List Ap)} {cs:List Int} {row:List Ap} {g:Int→Ap}
  (step:∀(i:Nat) (l:List Ap) (h:i<cs.length),l.length=i→f (l,(i:Int))=some (.inl (l++[g cs[i]],((i+1:Nat):Int)))) (fin:∀l,f (l,(cs.length:Int))=some (.inr l)):au f ([],0)=some (cs.map g):=by
 refine jT (λi=>((cs.take i).map g,(i:Int))) cs.length (by simp) (λi hi=>?_) ?_
 ·show f ((cs.take i).map g,(i:Int))=_
  have e:(cs.take (i+1)).map g=(cs.take i).map g++[g cs[i]]:=by rw[List.take_add_one,Z1 hi,Za];rfl
  rw[step i _ hi (by simp;omega),e]
 ·show f ((cs.take cs.length).map g,(cs.length:Int))=_
  rw[fin,Zf];rfl
theorem Hp {cs:List Int}{row:List Ap}(hc:cs.length≤3518437208883):lK cs row=some (jU cs row):=by
 unfold lK jU;refine Dp (row:=row) (λi l hi hl=>?_) (λl=>?_)
 ·simp only [pH]
  rw[if_pos (by simpa using hi),az hi,Z0,kO,Z0]
  have hj:∀x,mB l (i:Int) x=some (.inl (l++[x],((i+1:Nat):Int))):=by
   intro x;unfold mB;rw[aH (by simp;omega),Z0,am (by omega)]
   rfl
  by_cases h0:0≤cs[i]
  ·rw [if_pos (by simp [h0])]
   unfold mD
   by_cases h1:cs[i]<(row.length:Int)
   ·rw[if_pos (by simp[h1]),Ho Ap.zero ⟨h0,h1⟩,Z0,hj,if_pos ⟨h0,h1⟩]
   ·rw[if_neg (by simp;omega),hj,if_neg (by omega)];rfl
  ·rw [if_neg (by simp;omega)]
   unfold mD;rw[if_neg (by simp),hj,if_neg (by omega)];rfl
 ·simp only [pH]
  rw[if_neg (by simp)];rfl
theorem BA {cs:List Int}{row:List Ap}(hc:cs.length≤3518437208883):zj cs row=some (jU cs row):=by
 unfold zj jU;refine Dp (row:=row) (λi l hi hl=>?_) (λl=>?_)
 ·simp only [wm]
  rw[if_pos (by simpa using hi),az hi,Z0]
  have hj:∀x,sP l (i:Int) x=some (.inl (l++[x],((i+1:Nat):Int))):=by
   intro x;unfold sP;rw[aH (by simp;omega),Z0,am (by omega)]
   rfl
  by_cases h0:0≤cs[i]
  ·rw [if_pos (by simp [h0]),Z0]
   unfold sQ
   by_cases h1:cs[i]<(row.length:Int)
   ·rw[if_pos (by simp[h1]),az hi,Z0,Ho Ap.zero ⟨h0,h1⟩,Z0,hj,if_pos ⟨h0,h1⟩]
   ·rw[if_neg (by simp;omega),hj,if_neg (by omega)];rfl
  ·rw [if_neg (by simp;omega)]
   unfold sQ;rw[if_neg (by simp),hj,if_neg (by omega)];rfl
 ·simp only [wm]
  rw[if_neg (by simp)];rfl
def ilt:aL→aL→Bool:=pP (λa b=>decide (a.fEpoch<b.fEpoch)) (λa b=>decide (a.fNumber<b.fNumber))
theorem RJ:Swo ilt:=(RG.comap λv:aL=>v.fEpoch).lex (RG.comap λv:aL=>v.fNumber)
def qlt (cs:List Int):aa→aa→Bool:=pP (λa b=>rlt (jU cs a.fRow) (jU cs b.fRow)) (λa b=>ilt a.fId b.fId)
theorem iB (cs:List Int):Swo (qlt cs):=(RI.comap λv:aa=>jU cs v.fRow).lex (RJ.comap λv:aa=>v.fId)
theorem BB (a b:Int):mE [a,b]=some (if a≠0 then a else b):=by
 unfold mE;have e0:idx [a,b] 0=some a:=rfl;have e1:idx [a,b] 1=some b:=rfl
 by_cases ha:a=0
 ·have h0:gE [a,b] 0=some (.inl 1):=by
   simp only[gE];rw[if_pos (by simp),e0,Z0,if_neg (by simp[ha])];rfl
  rw[bL h0]
  by_cases hb:b=0
  ·have h1:gE [a,b] 1=some (.inl 2):=by
    simp only[gE];rw[if_pos (by simp),e1,Z0,if_neg (by simp[hb])];rfl
   rw[bL h1];apply aZ;simp only[gE];rw[if_neg (by simp),ha,hb];rfl
  ·apply aZ
   simp only[gE];rw[if_pos (by simp),e1,Z0,if_pos (by simp[hb]),if_neg (by simp[ha])];rfl
 ·apply aZ
  simp only[gE];rw[if_pos (by simp),e0,Z0,if_pos (by simp[ha]),if_pos ha];rfl
theorem Jh (a b:aL):lx a b=some (sgn ilt a b):=by
 unfold lx ilt;rw[PF,Z0,PG,Z0,BB,Z0,u7 (RG.comap λv:aL=>v.fEpoch)]
 rfl
theorem FY {cs:List Int}(hc:cs.length≤3518437208883)(a b:aa):eG a b cs=some (sgn (qlt cs) a b):=by
 unfold eG qlt;rw[Hp hc,Z0,Hp hc,Z0,FW (by rw[s4];omega) (by rw[s4];omega),Z0,Jh,Z0,BB,Z0,u7 (RI.comap λv:aa=>jU cs v.fRow)]
 rfl
theorem FZ {cs:List Int}(hc:cs.length≤3518437208883):Cmp (qlt cs) (λa b=>eG a b cs):=λa b=>⟨_,FY hc a b,Mg⟩
theorem Dq (a b:aL):wo a b=some (ilt a b):=by
 unfold wo ilt pP
 by_cases h:a.fEpoch=b.fEpoch
 ·rw[if_neg (by simp[h])];simp[h]
 ·rw [if_pos (by simp [h])]
  by_cases hl:a.fEpoch<b.fEpoch
  ·simp[hl]
  ·have:b.fEpoch<a.fEpoch:=by omega
   simp[hl,this]
theorem BD {cs:List Int}(hc:cs.length≤3518437208883)(a b:aa):wq cs a b=some (qlt cs a b):=by
 unfold wq qlt pP;rw[BA hc,Z0,BA hc,Z0,FX (by rw[s4];omega) (by rw[s4];omega),Z0,Dq];unfold sgn;cases e1:rlt (jU cs a.fRow) (jU cs b.fRow)
 ·cases e2:rlt (jU cs b.fRow) (jU cs a.fRow)
  ·simp[e1,e2]
  ·simp[e1,e2]
 ·simp[e1]
set_option linter.unusedVariables false
set_option linter.unusedSimpArgs false
def Rok (l:List aa):Prop:= ∀v∈l,v.fRow.length≤1048576
theorem own_eq {v:aa}(h:v.fRow.length≤1048576):nz v=some v:=by
  unfold nz ic;rw[aH (by simp;omega)];simp
theorem jV {α:Type}{xs:List α}{i:Nat}(h:i<xs.length):xs.take (i+1)=xs.take i++[xs[i]]:=by
  rw[List.take_add_one,Z1 h];rfl
theorem BE {cs:List Int}{xs:List aa}(hc:cs.length≤1048576)(hx:xs.length≤1048576)(hr:Rok xs):∃T,fG cs xs=some T∧Stb (qlt cs) xs T:=by
  obtain⟨T,h1,h2⟩:=Hn (iB cs) (FZ (cs:=cs) (by omega)) xs (by omega);refine⟨T,?_,h2⟩;unfold fG;refine(jT (λi=>((i:Int),xs.take i)) xs.length (by simp) (λi hi=>?_) (b:=iJ cs xs) ?_).trans ?_
  · simp only [iK]
    rw[if_pos (by simpa using hi),az hi,Z0,own_eq (hr _ (Z9 hi)),Z0,aH (by simp;omega),Z0,jV hi,am (by omega)]
    rfl
  · simp only [iK]
    rw[if_neg (by simp),Zf]
  · unfold iJ
    rw[h1];rfl
theorem Dr {cs : List Int} {xs : List aa} (hc : cs.length ≤ 1048576) (hx : xs.length ≤ 1048576) :∃ T, wu cs xs = some T ∧ Stb (qlt cs) xs T := by
  unfold wu;refine gH (λs=>∃k:Nat,s.2=(k:Int)∧k≤xs.length∧Stb (qlt cs) (xs.take k) s.1) (λs=>xs.length - s.2.toNat) (λT=>Stb (qlt cs) xs T) ?_ ⟨0,rfl,by simp,Stb.nil⟩;rintro ⟨out,i⟩ ⟨k,rfl,hk,hs⟩;simp only at hk hs;have hol:=hs.len (iB cs);rw[Xd] at hol;simp only[wt]
  by_cases hkx:k<xs.length
  · left
    rw[if_pos (by simpa using hkx)]
    have inner: ∀(n:Nat) (S1 S2:List aa),S1.length=n→out=S1++S2→(∀s∈S2,qlt cs xs[k] s=true)→
        ∃T,au (λs:Int=>kE cs xs out (k:Int) s) (n:Int)=some (.inl (T,((k+1:Nat):Int)))∧Stb (qlt cs) (out++[xs[k]]) T:=by
      intro n
      induction n with
      | zero =>
        intro S1 S2 hn ho h2;obtain rfl:=Zh hn;have hst:=Stb.ins (iB cs) (S1:=[]) (S2:=S2) (v:=xs[k]) (by rw[←ho];exact hs.srt) h2 (by simp);rw[←ho] at hst;refine⟨_,?_,hst⟩;apply aZ;simp only[kE];rw[if_neg (by simp),oZ];have e1:sub out 0 ((0:Nat):Int)=some ((out.take 0).drop 0):=d3 (lo:=0) (hi:=0) (by omega) (by omega);have e2:sub out ((0:Nat):Int) (out.length:Int)=some ((out.take out.length).drop 0):=d3 (lo:=0) (hi:=out.length) (by omega) (by omega);rw[e1,Z0,aH (by simp),Z0,az hkx,Z0,aH (by simp),Z0,e2,Z0,aH (by simp;omega),Z0,rQ,am (by omega)];simp[ho]
      | succ n ih =>
        intro S1 S2 hn ho h2;obtain⟨S1',s,rfl,hn'⟩:=AK hn;have hol2:out.length=n+1+S2.length:=by rw[ho];simp;omega
        have hs1:out[n]? =some s:=by rw[ho,←hn'];simp
        obtain⟨hsl,hsx⟩:=Zn.1 hs1;cases hl:qlt cs xs[k] s with
        | true =>
          have hst:kE cs xs out (k:Int) ((n+1:Nat):Int)=some (.inl (n:Int)):=by
            simp only[kE];rw[if_pos (by simp),az hkx,Z0,am (by omega),show((n+1:Nat):Int) - 1=(n:Int) by omega,az hsl,Z0,hsx,BD (by omega),Z0,hl]
            rfl
          rw[bL hst]
          exact ih S1' (s::S2) hn' (by rw[ho];simp) (by
            intro x hx;rcases Xl.1 hx with rfl|hx
            ·exact hl
            ·exact h2 x hx)
        | false =>
          have hsrt:Srt (qlt cs) ((S1'++[s])++S2):=by rw[←ho];exact hs.srt
          have hst:=Stb.ins (iB cs) (v:=xs[k]) hsrt h2 (CC (iB cs) (List.Pairwise.sublist (List.sublist_append_left _ _) hsrt) hl);rw[←ho] at hst;refine⟨_,?_,hst⟩;apply aZ;simp only[kE];rw[if_pos (by simp),az hkx,Z0,am (by omega),show((n+1:Nat):Int) - 1=(n:Int) by omega,az hsl,Z0,hsx,BD (by omega),Z0,hl];rw[if_pos (by rfl),oZ];have e1:sub out 0 ((n+1:Nat):Int)=some ((out.take (n+1)).drop 0):=d3 (lo:=0) (hi:=n+1) (by omega) (by omega);have e2:sub out ((n+1:Nat):Int) (out.length:Int)=some ((out.take out.length).drop (n+1)):=d3 (lo:=n+1) (hi:=out.length) (by omega) (by omega)
          rw[e1,Z0,aH (by simp;omega),Z0,az hkx,Z0,aH (by simp;omega),Z0,e2,Z0,aH (by simp;omega),Z0,rQ,am (by omega)];have t1:out.take (n+1)=S1'++[s]:=by rw[ho];exact List.take_left' hn
          have t2:out.drop (n+1)=S2:=by rw[ho];exact X5 hn
          rw[Zf,t2,List.drop_zero,t1];simp
    obtain⟨T,h1,h2⟩:=inner out.length out [] rfl (by simp) (by simp);refine⟨(T,((k+1:Nat):Int)),h1,⟨k+1,rfl,hkx,?_⟩,by simp;omega⟩;rw[jV hkx];exact hs.app h2
  · right
    rw[if_neg (by simp;omega)];refine⟨out,rfl,?_⟩;rwa[Z4 (by omega)] at hs
theorem Rok.flat {ls:List (List aa)}(h:∀l∈ls,Rok l):Rok ls.flatten:=by
  intro v hv;obtain⟨l,hl,hv⟩:=List.mem_flatten.1 hv;exact h l hl v hv
set_option linter.unusedVariables false
set_option linter.unusedSimpArgs false
theorem qw {σ β:Type} {f:σ→Option (σ⊕β)} {s:σ} (S:Nat→σ) (n:Nat) (good:Nat→Bool) (b0:β) (K:Option β) (h0:s=S 0) (step: ∀i,i<n→good i=true→f (S i)=some (.inl (S (i+1)))) (out: ∀i,i<n→good i=false→f (S i)=some (.inr b0))
  (fin:f (S n)=K.map Sum.inr):au f s=if (Z8 n).all good then K else some b0:=by
 have key:∀k i:Nat,i+k=n→au f (S i)=if (List.range' i k).all good then K else some b0:=by
  intro k
  induction k with
  |zero=>
   intro i hi;obtain rfl:i=n:=by omega
   rw[pp,fin];cases K<;>rfl
  |succ k ih=>
   intro i hi;rw[List.range'_succ,List.all_cons];cases hg:good i with
   |true=>rw[bL (step i (by omega) hg),ih (i+1) (by omega),Bool.true_and]
   |false=>rw[aZ (out i (by omega) hg)];simp
 rw[h0,key n 0 (by omega),List.range_eq_range']
structure mK (v:aa):Prop where
 ep:0≤v.fId.fEpoch∧v.fId.fEpoch<18446744073709551616
 nu:0≤v.fId.fNumber∧v.fId.fNumber<4294967296
 de:0≤v.fDeleted∧v.fDeleted<18446744073709551616
 row:∀x∈v.fRow,VOK x
 len:v.fRow.length≤1048576
theorem Hq {xs:List Int}{n:Int}(h:xs.length≤1048576):∃i,lc xs n=some i∧decide (0≤i)=xs.contains n:=by
 unfold lc
 have key :∀ k i : Nat, i + k = xs.length →∃ r, au (λs : Int => gL xs n s) (i : Int) = some r ∧ decide (0 ≤ r) = (xs.drop i).contains n := by
  intro k
  induction k with
  |zero=>
   intro i hi;refine⟨-1,?_,by rw[Z6 (by omega)];rfl⟩;apply aZ;simp only[gL];rw[if_neg (by simp;omega)];rfl
  | succ k ih =>
   intro i hi;have hlt:i<xs.length:=by omega
   rw[Z3 hlt]
   by_cases he:n=xs[i]
   ·refine ⟨(i:Int),?_,by rw [List.contains_cons,he,beq_self_eq_true,Bool.true_or];simp⟩
    apply aZ;simp only[gL];rw[if_pos (by simpa using hlt),az hlt,Z0,if_pos (by simp[he])];rfl
   ·obtain ⟨r,h1,h2⟩:=ih (i+1) (by omega)
    refine⟨r,?_,?_⟩
    ·rw [bL (s':=((i+1:Nat):Int))]
     ·exact h1
     ·simp only [gL]
      rw[if_pos (by simpa using hlt),az hlt,Z0,if_neg (by simp[he]),am (by omega)];rfl
    ·have e1:(n==xs[i])=false:=by simpa using he
     rw[h2,List.contains_cons,e1,Bool.false_or]
 obtain⟨r,h1,h2⟩:=key xs.length 0 (by omega);exact⟨r,h1,by simpa using h2⟩
theorem Ds {xs:List Int}{n:Int}(h:xs.length≤1048576):gM xs n=some (xs.contains n):=by
 obtain⟨i,h1,h2⟩:=Hq (n:=n) h;unfold gM;rw[h1,Z0,h2]
def se (cols:Int) (v:aa):Bool:=
 v.fRow.all right&&(decide ((v.fRow.length:Int)=cols)&&(decide (1≤v.fId.fEpoch)&&(decide (v.fId.fEpoch≤9223372036854775807)&& !(decide (v.fDeleted≠0)&&(decide (v.fDeleted≤v.fId.fEpoch)||decide (9223372036854775807<v.fDeleted))))))
theorem Hr {cols:Int}{v:aa}(h:v.fRow.length≤1048576):ly cols v=some (se cols v):=by
 unfold ly
 have hj:∀x,jo cols v x=some (decide ((v.fRow.length:Int)=cols)&&(decide (1≤v.fId.fEpoch)&&(decide (v.fId.fEpoch≤9223372036854775807)&& !x))):=by
  intro x;unfold jo jn
  by_cases h1:(v.fRow.length:Int)=cols<;>by_cases h2:1≤v.fId.fEpoch<;>by_cases h3:v.fId.fEpoch≤9223372036854775807<;>simp[h1,h2,h3]
 have hK:ld cols v=some (decide ((v.fRow.length:Int)=cols)&&(decide (1≤v.fId.fEpoch)&&(decide (v.fId.fEpoch≤9223372036854775807)&& !(decide (v.fDeleted≠0)&&(decide (v.fDeleted≤v.fId.fEpoch)||decide (9223372036854775807<v.fDeleted)))))):=by
  unfold ld;simp only[hj]
  by_cases h1:v.fDeleted=0<;>by_cases h2:v.fDeleted≤v.fId.fEpoch<;>simp[h1,h2]
 refine(qw (λi=>(i:Int)) v.fRow.length (λi=>match v.fRow[i]? with|some x=>right x|none=>true) false (ld cols v) rfl (λi hi hg=>?_) (λi hi hg=>?_) ?_).trans ?_
 ·simp only [Z1 hi] at hg
  simp only[lf];rw[if_pos (by simpa using hi),az hi,Z0,i8,Z0,hg,if_neg (by simp),am (by omega)];rfl
 ·simp only [Z1 hi] at hg
  simp only[lf];rw[if_pos (by simpa using hi),az hi,Z0,i8,Z0,hg,if_pos (by simp)];rfl
 ·simp only [lf]
  rw[if_neg (by simp)]
 ·have e:(Z8 v.fRow.length).all (λi=>match v.fRow[i]? with|some x=>right x|none=>true)=v.fRow.all right:=by
   rw[X6];simp only[Zj,Zq];constructor
   ·intro h x hx
    obtain⟨i,hi,rfl⟩:=Zg hx;have:=h i hi;rwa[Z1 hi] at this
   ·intro h i hi
    rw[Z1 hi];exact h _ (Z9 hi)
  rw[e,hK];unfold se;cases v.fRow.all right<;>simp
def rf (cols:Int)(srt:List Int)(i:Nat):Bool:=match srt[i]? with
 |some n=>decide (0≤n)&&(decide (n<cols)&& !(srt.take i).contains n)
 |none=>true
def qg (cols:Int)(l:List aa)(i:Nat):Bool:=match l[i]? with
 |some v=>se cols v&& !((l.take i).map (·.fId)).contains v.fId
 |none=>true
def rg (cols:Int)(srt:List Int):Bool:=(Z8 srt.length).all (rf cols srt)
def ph (cols:Int)(l:List aa):Bool:=(Z8 l.length).all (qg cols l)
def tK (cols:Int) (srt:List Int) (l:List aa):Int:=
 if cols<1∨8<cols then 1 else if rg cols srt then (if 4096<l.length then 81 else if ph cols l then 0 else 81) else 1
def mL (l:List aa)(i:Nat):List aL:=((l.take i).map (·.fId)).reverse
theorem Ji {l:List aL}{x:aL}(h:l.length≤1048576):decide (1<jz (x::l) x)=l.contains x:=by
 unfold jz;have h1:(x::l).count x=l.count x+1:=by simp
 have h2:l.count x≤l.length:=List.count_le_length;rw[h1,am (by omega)]
 by_cases hm:x∈l
 ·have:0<l.count x:=List.count_pos_iff.2 hm
  simp[hm];omega
 ·have:l.count x=0:=List.count_eq_zero.2 hm
  simp[hm,this]
theorem Dt {cols:Int} {l:List aa} (hl:l.length≤4096) (hv: ∀v∈l,mK v):
  au (λs:(Int×List aL)=>dv cols l s.1 s.2) (0,([]:List aL))=if ph cols l then some 0 else some 81:=by
 have hj:∀(i:Nat) (hi:i<l.length) b,fH (i:Int) (mL l i) l[i] b=if b then some (.inr 81) else some (.inl (((i+1:Nat):Int),mL l (i+1))):=by
  intro i hi b;unfold fH;cases b
  ·rw [if_neg (by simp),if_neg (by simp),am (by omega)]
   have:mL l (i+1)=l[i].fId::mL l i:=by
    unfold mL;rw[jV hi,Za,List.reverse_append];rfl
   rw[this];rfl
  ·rw[if_pos rfl,if_pos rfl];rfl
 have hb:∀(i:Nat) (hi:i<l.length),dv cols l (i:Int) (mL l i)=if qg cols l i then some (.inl (((i+1:Nat):Int),mL l (i+1))) else some (.inr 81):=by
  intro i hi;have hlen:=(hv _ (Z9 hi)).len;simp only[dv];rw[if_pos (by simpa using hi),az hi,Z0,Hr hlen,Z0,hj i hi,hj i hi,Ji (by simp[mL];omega)];unfold qg;rw[Z1 hi];dsimp only
  have hc:(mL l i).contains l[i].fId=((l.take i).map (·.fId)).contains l[i].fId:=by
   unfold mL;rw[X6];simp
  rw[hc];rcases Zd (((l.take i).map (·.fId)).contains l[i].fId) with hq|hq<;>rcases Zd (se cols l[i]) with hz|hz<;>simp only[hq,hz]<;>rfl
 refine qw (λi=>((i:Int),mL l i)) l.length (qg cols l) 81 (some 0) rfl (λi hi hg=>?_) (λi hi hg=>?_) ?_
 ·show dv cols l (i:Int) (mL l i)=_
  rw[hb i hi,hg];rfl
 ·show dv cols l (i:Int) (mL l i)=_
  rw[hb i hi,hg];rfl
 ·simp only [dv]
  rw[if_neg (by simp)];rfl
theorem u9 {cols:Int}{srt:List Int}{l:List aa}(hs:srt.length≤1048576)(hv:∀v∈l,mK v):eu cols srt l=some (tK cols srt l):=by
 have h2:eH cols l=some (if 4096<l.length then 81 else if ph cols l then 0 else 81):=by
  unfold eH
  by_cases h:4096<l.length
  ·rw[if_pos (by simp;omega),if_pos h]
  ·rw [if_neg (by simp;omega),if_neg h,Dt (by omega) hv]
   cases ph cols l<;>rfl
 have hj:∀i:Nat,i<srt.length→∀b,eI (i:Int) b=if b then some (.inr 1) else some (.inl ((i+1:Nat):Int)):=by
  intro i hi b;unfold eI;cases b
  ·rw[if_neg (by simp),if_neg (by simp),am (by omega)];rfl
  ·rfl
 have h1 :∀ b, fJ cols srt l b = if b then some 1 else if rg cols srt then eH cols l else some 1 := by
  intro b;unfold fJ;cases b
  ·rw [if_neg (by simp), if_neg (by simp)]
   have hb:∀(i:Nat) (hi:i<srt.length),fI cols srt l (i:Int)=if rf cols srt i then some (.inl ((i+1:Nat):Int)) else some (.inr 1):=by
    intro i hi;simp only[fI];rw[if_pos (by simpa using hi),az hi,Z0]
    have hsb:sub srt 0 (i:Int)=some (srt.take i):=by
     have:=d3 (xs:=srt) (lo:=0) (hi:=i) (by omega) (by omega);simpa using this
    rw[hsb,Z0,Ds (by simp;omega),Z0];simp only[hj i hi];unfold rf;rw[Z1 hi];dsimp only
    by_cases q1:srt[i]<0
    ·have q4: ¬ 0≤srt[i]:=by omega
     simp[q1,q4]
    ·by_cases q2:cols≤srt[i]
     ·have q3: ¬ srt[i]<cols:=by omega
      simp[q1,q2,q3]
     ·have q3:srt[i]<cols:=by omega
      have q4:0≤srt[i]:=by omega
      rw[if_neg (by simp[q1]),if_neg (by simp[q2])];rcases Zd ((srt.take i).contains srt[i]) with hq|hq<;>simp only[hq,decide_eq_true q3,decide_eq_true q4]<;>rfl
   refine qw (λi=>(i:Int)) srt.length (rf cols srt) 1 (eH cols l) rfl (λi hi hg=>?_) (λi hi hg=>?_) ?_
   ·rw[hb i hi,hg];rfl
   ·rw[hb i hi,hg];rfl
   ·simp only [fI]
    rw[if_neg (by simp)]
  ·rfl
 unfold eu tK;simp only[h1,h2]
 by_cases q1:cols<1
 ·simp[q1]
 ·by_cases q2:8<cols
  ·simp[q1,q2]
  ·simp only [q1,q2,decide_false,Bool.false_eq_true,if_false,or_self]
   cases rg cols srt<;>simp
set_option linter.unusedVariables false
set_option linter.unusedSimpArgs false
theorem Du {α:Type} [DecidableEq α]{l:List α}{i:Nat}{x:α}(h:i≤l.length):(Z8 i).all (λk=>(l[k]?).all λy=> !decide (y=x))= !(l.take i).contains x:=by
 rw[X6];simp only[Zj,Zq,Ze,Zt,decide_eq_false_iff_not];constructor
 ·intro h1 hm
  obtain⟨k,hk,he⟩:=Zg hm;have hk':k<i:=by simp at hk;omega
  have h2:=h1 k hk'
  have h3:l[k]? =some x:=by
   rw[Z1 (by omega)];simpa using he
  rw[h3,Zk] at h2;simp at h2
 ·intro h1 k hk
  have hkl:k<l.length:=by omega
  rw[Z1 hkl,Zk];simp only[Ze,decide_eq_false_iff_not];intro e;apply h1;rw[←e];exact Zu (i:=k) (by rw[X9 hk,Z1 hkl])
theorem Jj {α:Type}(l:List α)(p:α→Bool):(Z8 l.length).all (λi=>(l[i]?).all λx=>p x)=l.all p:=by
 rw[X6];simp only[Zj,Zq];constructor
 ·intro h x hx
  obtain⟨i,hi,rfl⟩:=Zg hx;have:=h i hi;rwa[Z1 hi,Zk] at this
 ·intro h i hi
  rw[Z1 hi,Zk];exact h _ (Z9 hi)
theorem Dv {cols:Int} {l:List aa} (hl:l.length≤4096) (hv: ∀v∈l,mK v) (i:Nat) (hi:i<l.length):
  nV cols l (i:Int)=if qg cols l i then some (.inl ((i+1:Nat):Int)) else some (.inr 81):=by
 have hok:=hv _ (Z9 hi);have hlen:=hok.len
 have h6:lz l (i:Int) l[i]=if !((l.take i).map (·.fId)).contains l[i].fId then some (.inl ((i+1:Nat):Int)) else some (.inr 81):=by
  have hrow:((l.take i).map (·.fId))=(l.map (·.fId)).take i:=by simp
  have ha:=Du (l:=l.map (·.fId)) (i:=i) (x:=l[i].fId) (by simp;omega);rw[hrow,←ha];unfold lz
  have e:(Z8 i).all (λk=>((l.map (·.fId))[k]?).all λy=> !decide (y=l[i].fId))=(Z8 i).all (λk=>(l[k]?).all λy=> !decide (y.fId=l[i].fId)):=by
   congr 1;funext k;rw[List.getElem?_map];cases l[k]? <;>rfl
  rw[e];refine qw (λk=>(k:Int)) i (λk=>(l[k]?).all λy=> !decide (y.fId=l[i].fId)) (Sum.inr 81) (some (.inl ((i+1:Nat):Int))) rfl (λk hk hg=>?_) (λk hk hg=>?_) ?_
  ·have hkl:k<l.length:=by omega
   simp only[Z1 hkl,Zk] at hg;simp only[nS];rw[if_pos (by simpa using hk),az hkl,Z0,if_neg (by simpa using hg),am (by omega)];rfl
  ·have hkl:k<l.length:=by omega
   simp only[Z1 hkl,Zk] at hg;simp only[nS];rw[if_pos (by simpa using hk),az hkl,Z0,if_pos (by simpa using hg)];rfl
  ·simp only [nS]
   rw[if_neg (by simp),vt,am (by omega)];rfl
 have h5:∀b,gG l (i:Int) l[i] b=if b then some (.inr 81) else if l[i].fRow.all right then lz l (i:Int) l[i] else some (.inr 81):=by
  intro b;unfold gG;cases b
  ·rw [if_neg (by simp),if_neg (by simp), ←Jj]
   refine qw (λk=>(k:Int)) l[i].fRow.length (λk=>(l[i].fRow[k]?).all λx=>right x) (Sum.inr 81) (lz l (i:Int) l[i]) rfl (λk hk hg=>?_) (λk hk hg=>?_) ?_
   ·simp only [Z1 hk,Zk] at hg
    simp only[nU];rw[if_pos (by simpa using hk),az hk,Z0,o7,Z0,hg,if_neg (by simp),am (by omega)];rfl
   ·simp only [Z1 hk,Zk] at hg
    simp only[nU];rw[if_pos (by simpa using hk),az hk,Z0,o7,Z0,hg,if_pos (by simp)];rfl
   ·simp only [nU]
    rw[if_neg (by simp)]
  ·rfl
 simp only[nV];rw[if_pos (by simpa using hi),az hi,Z0];simp only[h5,h6];unfold qg se;rw[Z1 hi];dsimp only;have he:=hok.ep;have hd:=hok.de
 rcases Zd (((l.take i).map (·.fId)).contains l[i].fId) with hq|hq<;>rcases Zd (l[i].fRow.all right) with hz|hz<;>simp only [hq,hz]<;>
  by_cases c1:(l[i].fRow.length:Int)=cols<;>by_cases c2:l[i].fId.fEpoch=0<;>by_cases c3:9223372036854775807<l[i].fId.fEpoch<;>by_cases c4:9223372036854775807<l[i].fDeleted<;>by_cases c5:l[i].fDeleted=0<;>by_cases c6:l[i].fDeleted≤l[i].fId.fEpoch<;>
  simp[c1,c2,c3,c4,c5,c6]<;>omega
theorem KS {cols:Int}{srt:List Int}{l:List aa}(hs:srt.length≤1048576)(hv:∀v∈l,mK v):uQ cols srt l=some (tK cols srt l):=by
 have h2:lA cols l=some (if 4096<l.length then 81 else if ph cols l then 0 else 81):=by
  unfold lA
  by_cases h:4096<l.length
  ·rw[if_pos (by simp;omega),if_pos h]
  ·rw [if_neg (by simp;omega),if_neg h]
   refine(qw (λi=>(i:Int)) l.length (qg cols l) 81 (some 0) rfl (λi hi hg=>?_) (λi hi hg=>?_) ?_).trans ?_
   ·rw[Dv (by omega) hv i hi,hg];rfl
   ·rw[Dv (by omega) hv i hi,hg];rfl
   ·simp only [nV]
    rw[if_neg (by simp)];rfl
   ·show (if ph cols l then some 0 else some 81)=_
    cases ph cols l<;>rfl
 have h8:∀(i:Nat) (hi:i<srt.length) b,nY srt (i:Int) b=if b then some (.inr 1) else if !(srt.take i).contains srt[i] then some (.inl ((i+1:Nat):Int)) else some (.inr 1):=by
  intro i hi b;unfold nY;cases b
  ·rw [if_neg (by simp),if_neg (by simp), ←Du (by omega)]
   refine qw (λk=>(k:Int)) i (λk=>(srt[k]?).all λy=> !decide (y=srt[i])) (Sum.inr 1) (some (.inl ((i+1:Nat):Int))) rfl (λk hk hg=>?_) (λk hk hg=>?_) ?_
   ·have hkl:k<srt.length:=by omega
    simp only[Z1 hkl,Zk] at hg;simp only[nW];rw[if_pos (by simpa using hk),az hkl,Z0,az hi,Z0,if_neg (by simpa using hg),am (by omega)];rfl
   ·have hkl:k<srt.length:=by omega
    simp only[Z1 hkl,Zk] at hg;simp only[nW];rw[if_pos (by simpa using hk),az hkl,Z0,az hi,Z0,if_pos (by simpa using hg)];rfl
   ·simp only [nW]
    rw[if_neg (by simp),vu,am (by omega)];rfl
  ·rfl
 have h1 :∀ b, n5 cols srt l b = if b then some 1 else if rg cols srt then lA cols l else some 1 := by
  intro b;unfold n5;cases b
  ·rw [if_neg (by simp), if_neg (by simp)]
   have hb:∀(i:Nat) (hi:i<srt.length),nZ cols srt l (i:Int)=if rf cols srt i then some (.inl ((i+1:Nat):Int)) else some (.inr 1):=by
    intro i hi;simp only[nZ];rw[if_pos (by simpa using hi),az hi,Z0,Z0];simp only[h8 i hi];unfold rf;rw[Z1 hi];dsimp only
    by_cases q1:srt[i]<0
    ·have q4: ¬ 0≤srt[i]:=by omega
     simp[q1,q4]
    ·by_cases q2:cols≤srt[i]
     ·have q3: ¬ srt[i]<cols:=by omega
      simp[q1,q2,q3]
     ·have q3:srt[i]<cols:=by omega
      have q4:0≤srt[i]:=by omega
      rw[if_neg (by simp[q1]),if_neg (by simp[q2])];rcases Zd ((srt.take i).contains srt[i]) with hq|hq<;>simp only[hq,decide_eq_true q3,decide_eq_true q4]<;>rfl
   refine qw (λi=>(i:Int)) srt.length (rf cols srt) 1 (lA cols l) rfl (λi hi hg=>?_) (λi hi hg=>?_) ?_
   ·rw[hb i hi,hg];rfl
   ·rw[hb i hi,hg];rfl
   ·simp only [nZ]
    rw[if_neg (by simp)]
  ·rfl
 unfold uQ tK;simp only[h1,h2]
 by_cases q1:cols<1
 ·simp[q1]
 ·by_cases q2:8<cols
  ·simp[q1,q2]
  ·simp only [q1,q2,decide_false,Bool.false_eq_true,if_false,or_self]
   cases rg cols srt<;>simp
structure pQ (cols:Int) (srt:List Int) (l:List aa):Prop where
 co:1≤cols∧cols≤8
 so:rg cols srt=true
 le:l.length≤4096
 ro:ph cols l=true
theorem QK {cols:Int}{srt:List Int}{l:List aa}:tK cols srt l=0↔pQ cols srt l:=by
 unfold tK;constructor
 ·intro h
  by_cases c1:cols<1∨8<cols
  ·rw[if_pos c1] at h;cases h
  ·rw [if_neg c1] at h
   cases c2:rg cols srt with
   |false=>rw[c2] at h;cases h
   | true =>
    rw[c2,if_pos rfl] at h
    by_cases c3:4096<l.length
    ·rw[if_pos c3] at h;cases h
    ·rw [if_neg c3] at h
     cases c4:ph cols l with
     |false=>rw[c4] at h;cases h
     |true=>exact⟨by omega,c2,by omega,c4⟩
 ·intro h
  have h1:=h.co;have h2:=h.le;rw[if_neg (by omega),h.so,if_pos rfl,if_neg (by omega),h.ro,if_pos rfl]
theorem pQ.ver {cols:Int}{srt:List Int}{l:List aa}(h:pQ cols srt l):∀v∈l,se cols v=true:=by
 intro v hv;obtain⟨i,hi,rfl⟩:=Zg hv;have h1:=Zj.1 h.ro i (Zq.2 hi);unfold qg at h1;rw[Z1 hi] at h1;simp only[Zi] at h1;exact h1.1
theorem qx {cols:Int}{v:aa}(hv:mK v)(h:se cols v=true):(∀x∈v.fRow,Rgt x)∧(v.fRow.length:Int)=cols∧1≤v.fId.fEpoch∧v.fId.fEpoch≤9223372036854775807∧(v.fDeleted=0∨v.fId.fEpoch<v.fDeleted∧v.fDeleted≤9223372036854775807):=by
 unfold se at h;simp only[Zi,decide_eq_true_eq,Ze,Zr,Zs,decide_eq_false_iff_not,Zj] at h;obtain⟨h1,h2,h3,h4,h5⟩:=h;refine⟨λx hx=>Rgt.of (hv.row x hx) (h1 x hx),h2,h3,h4,?_⟩;rcases h5 with h5|h5
 ·left;simpa using h5
 ·right;omega
set_option linter.unusedVariables false
set_option linter.unusedSimpArgs false
structure CV (cols:Int) (l:List aa):Prop where
 co:1≤cols∧cols≤8
 le:l.length≤4096
 ok:∀v∈l,mK v∧se cols v=true
theorem CV.of {cols:Int}{srt:List Int}{l:List aa}(h:pQ cols srt l)(hv:∀v∈l,mK v):CV cols l:=⟨h.co,h.le,λv hm=>⟨hv v hm,h.ver v hm⟩⟩
theorem CV.mem {cols:Int}{l l':List aa}(h:CV cols l)(hl:l'.length=l.length)(hm:∀v∈l',v∈l):CV cols l':=⟨h.co,by rw[hl];exact h.le,λv hv=>h.ok v (hm v hv)⟩
def gy (cols:Int) (n:Nat) (v:aa):Ap:=
 if (n:Int)<cols then v.fRow.getD n lh else if (n:Int)=cols then iU v.fId.fEpoch else if (n:Int)=cols+1 then iU v.fId.fNumber else iU v.fDeleted
def kI (cols:Int)(n:Nat)(l:List aa):List Ap:=l.map (gy cols n)
theorem EN {cols:Int}{l:List aa}(h:CV cols l){v:aa}(hv:v∈l)(n:Nat):Rgt (gy cols n v):=by
 obtain⟨h1,h2⟩:=h.ok v hv;obtain⟨h3,h4,h5,h6,h7⟩:=qx h1 h2;unfold gy;split
 ·have hn:n<v.fRow.length:=by omega
  have:v.fRow.getD n lh=v.fRow[n]:=by simp[hn]
  rw[this];exact h3 _ (Z9 hn)
 ·have hd:=h1.de
  have hn:=h1.nu;split
  ·exact Rgt.int _ (by unfold cW;omega)
  ·split
   ·exact Rgt.int _ (by unfold cW;omega)
   ·exact Rgt.int _ (by unfold cW;omega)
theorem EO {cols:Int} {n:Nat} {l:List aa} {f:List Ap×Int→Option ((List Ap×Int)⊕List Ap)} (hl:l.length≤4096)
  (step:∀(i:Nat) (h:i<l.length) (x:List Ap),x.length=i→f (x,(i:Int))=some (.inl (x++[gy cols n l[i]],((i+1:Nat):Int)))) (fin:∀x,f (x,(l.length:Int))=some (.inr x)):au f ([],0)=some (kI cols n l):=by
 refine jT (λi=>((l.take i).map (gy cols n),(i:Int))) l.length (by simp) (λi hi=>?_) ?_
 ·show f ((l.take i).map (gy cols n),(i:Int))=_
  rw[step i hi _ (by simp;omega),jV hi,Za]
  rfl
 ·show f ((l.take l.length).map (gy cols n),(l.length:Int))=_
  rw[fin,Zf];rfl
theorem Hs {cols:Int}{n:Nat}{l:List aa}(h:CV cols l)(hn:(n:Int)<cols+3):gS cols (n:Int) l=some (kI cols n l):=by
 have hle:=h.le;have hco:=h.co;unfold gS;refine EO hle (λi hi x hx=>?_) (λx=>?_)
 ·obtain ⟨h1,h2⟩:=h.ok _ (Z9 hi)
  obtain⟨h3,h4,h5,h6,h7⟩:=qx h1 h2;have hd:=h1.de;have hnu:=h1.nu;simp only[mX,eE,Z0];have hj:∀z,gB (i:Int) z=some (.inl (z,((i+1:Nat):Int))):=λz=>by unfold gB;rw[am (by omega)];rfl
  have ha:∀y:Ap,app 3518437208883 x [y]=some (x++[y]):=λy=>aH (by simp;omega);rw[if_pos (by simpa using hi),az hi,Z0,am (n:=(n:Int) - cols) (by omega)];simp only[ha,Z0,hj];unfold gy
  by_cases c1:(n:Int)=cols
  ·rw[if_pos (by simp;omega),if_neg (by omega),if_pos c1,am (by omega)]
  ·rw [if_neg (by simp;omega)]
   by_cases c2:(n:Int)=cols+1
   ·rw[if_pos (by simp;omega),if_neg (by omega),if_neg c1,if_pos c2,am (by omega)]
   ·rw [if_neg (by simp;omega)]
    by_cases c3:(n:Int)=cols+2
    ·rw[if_pos (by simp;omega),if_neg (by omega),if_neg c1,if_neg c2,am (by omega)]
    ·have hr:n<l[i].fRow.length:=by omega
     rw[if_neg (by simp;omega),if_pos (by omega),az hr,Z0];simp[hr]
 ·simp only [mX]
  rw[if_neg (by simp)];rfl
theorem F0 {cols:Int}{n:Nat}{l:List aa}(h:CV cols l)(hn:(n:Int)<cols+3):wv cols (n:Int) l=some (kI cols n l):=by
 have hle:=h.le;have hco:=h.co;unfold wv;refine EO hle (λi hi x hx=>?_) (λx=>?_)
 ·obtain ⟨h1,h2⟩:=h.ok _ (Z9 hi)
  obtain⟨h3,h4,h5,h6,h7⟩:=qx h1 h2;have hd:=h1.de;have hnu:=h1.nu;simp only[rR];have hj:∀z,kF (i:Int) z=some (.inl (z,((i+1:Nat):Int))):=λz=>by unfold kF;rw[am (by omega)];rfl
  have ha:∀y:Ap,app 3518437208883 x [y]=some (x++[y]):=λy=>aH (by simp;omega);rw[if_pos (by simpa using hi),az hi,Z0,am (n:=cols+1) (by omega)];simp only[ha,Z0,hj];unfold gy
  by_cases c0:(n:Int)<cols
  ·have hr:n<l[i].fRow.length:=by omega
   rw[if_pos (by simpa using c0),if_pos c0,az hr,Z0];simp[hr]
  ·rw [if_neg (by simpa using c0),if_neg c0]
   by_cases c1:(n:Int)=cols
   ·rw[if_pos (by simpa using c1),if_pos c1,am (by omega)]
   ·rw [if_neg (by simpa using c1),if_neg c1]
    by_cases c2:(n:Int)=cols+1
    ·rw[if_pos (by simpa using c2),if_pos c2,am (by omega)]
    ·rw[if_neg (by simpa using c2),if_neg c2,am (by omega)]
 ·simp only [rR]
  rw[if_neg (by simp)];rfl
def cQ (l:List Ap)(i:Nat):List Ap:=(l.drop (64*i)).take 64
def io (l:List Ap):Nat:=(l.length+63)/64
def jr (l:List Ap):List (List Ap):=(Z8 (io l)).map (cQ l)
theorem pi (i:Nat):Z8 (i+1)=Z8 i++[i]:=List.range_succ
theorem Dw {l:List Ap}{i:Nat}(hi:i<io l)(hl:l.length≤4096):(l.take (min l.length (64*i+64))).drop (64*i)=cQ l i:=by
 unfold cQ io at*;rw[List.drop_take];rcases Nat.le_total l.length (64*i+64) with h|h
 ·rw[Nat.min_eq_left h,Z4 (by simp),Z4 (by simp;omega)]
 ·rw [Nat.min_eq_right h]
  congr 1;omega
theorem Jk {l:List Ap}(hl:l.length≤4096):il l 64=some (jr l):=by
 unfold il;rw[if_neg (by simp)];unfold iu ga gr
 have:au (λs:Int×List (List Ap)=>cK (λ(s:List (List Ap)) x=>some (s++[x],true)) l 64 s.1 s.2) (0,[])=some (jr l):=by
  refine jT (λi=>(((64*i:Nat):Int),(Z8 i).map (cQ l))) (io l) (by simp) (λi hi=>?_) ?_
  ·have hlt:64*i<l.length:=by unfold io at hi;omega
   simp only[cK]
   have h1:sub l ((64*i:Nat):Int) (l.length:Int)=some (l.drop (64*i)):=by
    have:=d3 (xs:=l) (lo:=64*i) (hi:=l.length) (by omega) (Zl _);rwa[Zf] at this
   have h2:sub l ((64*i:Nat):Int) (Zm.wrap (((64*i:Nat):Int)+(if ((l.drop (64*i)).length:Int)<64 then ((l.drop (64*i)).length:Int) else 64)))=some (cQ l i):=by
    have e:Zm.wrap (((64*i:Nat):Int)+(if ((l.drop (64*i)).length:Int)<64 then ((l.drop (64*i)).length:Int) else 64))=((min l.length (64*i+64):Nat):Int):=by
     rw[Xe];split<;>rw[am (by omega)]<;>omega
    rw[e,d3 (by omega) (by omega),Dw hi hl]
   rw[if_pos (by simp;omega),h1,Z0,h2,Z0,Z0,if_neg (by simp),am (by omega),pi,Za];congr 2
  ·have hge:l.length≤64*io l:=by unfold io;omega
   simp only[cK];rw[if_neg (by simp;omega)];rfl
 rw[this];rfl
def yG (kind:Int)(p:List Ap):Int:=if (enc kind p).2=0 then kind else -1
noncomputable def fy (kind:Int) (p:List Ap):List Int:=(wr (yG kind p) p).1
noncomputable def qh (kind:Int) (l:List Ap):List Int:=((jr l).map (fy kind)).flatten
theorem xz {kind:Int}{p:List Ap}(h:∀v∈p,VOK v):Byt (fy kind p)∧(fy kind p).length≤100000:=by
 unfold fy
 by_cases hw:(wr (yG kind p) p).2=0
 ·exact He h hw
 ·have:(wr (yG kind p) p).1=[]:=by
   unfold wr at hw ⊢;split
   ·rfl
   ·rename_i h1
    rw[if_neg h1] at hw;split
    ·rfl
    ·rename_i h2;rw[if_neg h2] at hw;exact absurd rfl hw
  rw[this];exact⟨λc hc=>by simp at hc,by simp⟩
theorem sg {l:List Ap}{i:Nat}{v:Ap}(h:v∈cQ l i):v∈l:=List.mem_of_mem_drop (List.mem_of_mem_take h)
theorem yH (l:List Ap)(i:Nat):(cQ l i).length≤64:=by unfold cQ;simp;omega
theorem wN {kind:Int}{l:List Ap}(h:∀v∈l,VOK v):∀k,Byt ((((Z8 k).map (cQ l)).map (fy kind)).flatten)∧((((Z8 k).map (cQ l)).map (fy kind)).flatten).length≤100000*k:=by
 intro k
 induction k with
 |zero=>exact⟨λc hc=>by simp at hc,by simp⟩
 |succ k ih=>
  have hb:=xz (kind:=kind) (p:=cQ l k) (λv hv=>h v (sg hv));rw[pi,Za,Za,Zp];simp only[Xm,List.map_nil,List.flatten_singleton];refine⟨λc hc=>?_,by rw[Z2];omega⟩;rcases Xg.1 hc with hc|hc
  ·exact ih.1 c hc
  ·exact hb.1 c hc
theorem va {kind:Int}{l:List Ap}(h:∀v∈l,VOK v)(hl:l.length≤4096):Byt (qh kind l)∧(qh kind l).length≤6400000:=by
 have:=wN (kind:=kind) h (io l);refine⟨this.1,Nat.le_trans this.2 ?_⟩;unfold io;omega
theorem Ht {kind:Int}{l:List Ap}(h:∀v∈l,VOK v)(hl:l.length≤4096):gT kind l=some (qh kind l):=by
 have hstep:∀(out:List Int) (p:List Ap),(∀v∈p,VOK v)→p.length≤64→out.length≤10000000→eX kind out p=some (out++fy kind p,true):=by
  intro out p hp hpl ho;have hb:=(xz (kind:=kind) hp).2
  have hj:∀k,(wr k p).1.length≤100000→gC out p k=some (out++(wr k p).1,true):=λk hk=>by
   unfold gC;rw[I5 k hp (by omega),Z0,aH (by omega),Z0]
  simp only[eX,qY];rw[sW kind hp (by omega),Z0,Z0];unfold fy yG at*
  by_cases hc:(enc kind p).2=0
  ·rw [if_pos hc] at hb ⊢
   rw[if_neg (by simp[hc]),hj _ hb]
  ·rw [if_neg hc] at hb ⊢
   rw[if_pos (by simp[hc]),hj _ hb]
 unfold gT;rw[Jk hl,Z0]
 have key:∀(k i:Nat),i+k=io l→fT (λ(s:List Int) (x:List Ap)=>eX kind s x) ((((Z8 i).map (cQ l)).map (fy kind)).flatten) ((List.range' i k).map (cQ l))=some (qh kind l,true):=by
  intro k
  induction k with
  |zero=>
   intro i hi;obtain rfl:i=io l:=by omega
   rfl
  | succ k ih =>
   intro i hi;rw[List.range'_succ,Xm];have hb:=wN (kind:=kind) h i;have hi':i<64:=by unfold io at hi;omega
   simp only[fT];rw[hstep _ _ (λv hv=>h v (sg hv)) (yH l i) (by omega),Z0,if_pos rfl]
   have e:(((Z8 i).map (cQ l)).map (fy kind)).flatten++fy kind (cQ l i)=(((Z8 (i+1)).map (cQ l)).map (fy kind)).flatten:=by
    rw[pi,Za,Za,Zp];simp
   rw[e];exact ih (i+1) (by omega)
 have:=key (io l) 0 (by omega);rw[←List.range_eq_range'] at this;have h0:(((Z8 0).map (cQ l)).map (fy kind)).flatten=[]:=rfl;rw[h0] at this;unfold jr;rw[this,Z0,if_pos rfl]
theorem F1 {kind:Int}{l:List Ap}(h:∀v∈l,VOK v)(hl:l.length≤4096):ww kind l=some (qh kind l):=by
 unfold ww;refine jT (λi=>((((Z8 i).map (cQ l)).map (fy kind)).flatten,((64*i:Nat):Int))) (io l) (by simp) (λi hi=>?_) ?_
 ·have hlt:64*i<l.length:=by unfold io at hi;omega
  have hb:=wN (kind:=kind) h i;have hp:∀v∈cQ l i,VOK v:=λv hv=>h v (sg hv);have hpl:=yH l i;have hbb:=(xz (kind:=kind) hp).2;have hi':i<64:=by omega
  have h2:sub l ((64*i:Nat):Int) (if (l.length:Int)<Zm.wrap (((64*i:Nat):Int)+64) then (l.length:Int) else Zm.wrap (((64*i:Nat):Int)+64))=some (cQ l i):=by
   have e:(if (l.length:Int)<Zm.wrap (((64*i:Nat):Int)+64) then (l.length:Int) else Zm.wrap (((64*i:Nat):Int)+64))=((min l.length (64*i+64):Nat):Int):=by
    rw[am (by omega)];split<;>omega
   rw[e,d3 (by omega) (by omega),Dw hi hl]
  have e:(((Z8 i).map (cQ l)).map (fy kind)).flatten++fy kind (cQ l i)=(((Z8 (i+1)).map (cQ l)).map (fy kind)).flatten:=by
   rw[pi,Za,Za,Zp];simp
  have hj:∀k,(wr k (cQ l i)).1.length≤100000→o4 ((((Z8 i).map (cQ l)).map (fy kind)).flatten) ((64*i:Nat):Int) (cQ l i) k=some (.inl ((((Z8 i).map (cQ l)).map (fy kind)).flatten++(wr k (cQ l i)).1,((64*(i+1):Nat):Int))):=λk hk=>by
   unfold o4;rw[Hi k hp (by omega),Z0,aH (by omega),Z0,am (by omega)]
   rfl
  simp only[rS];rw[if_pos (by simp;omega),h2,Z0,qK kind hp (by omega),Z0,←e];unfold fy yG at*
  by_cases hc:(enc kind (cQ l i)).2=0
  ·rw [if_pos hc] at hbb ⊢
   rw[if_neg (by simp[hc]),hj _ hbb]
  ·rw [if_neg hc] at hbb ⊢
   rw[if_pos (by simp[hc]),hj _ hbb]
 ·have hge:l.length≤64*io l:=by unfold io;omega
  simp only[rS];rw[if_neg (by simp;omega)];rfl
set_option linter.unusedVariables false
set_option linter.unusedSimpArgs false
theorem AM {b:List Int}{n:Int}(h:b.length≤1000000000):ff b n=some (b++be4 n):=by
 unfold ff;have e1:ay .i64 n 24=n/2^24:=FP (k:=24) (by decide);have e2:ay .i64 n 16=n/2^16:=FP (k:=16) (by decide);have e3:ay .i64 n 8=n/2^8:=FP (k:=8) (by decide);rw[aH (by simp;omega),Z0,e1,e2,e3,bj,bj,bj,bj]
 rfl
def l8 (cols:Int)(srt:List Int):List Int:=[72,65,89,49,Xk.wrap cols,Xk.wrap (srt.length:Int)]
def nmB (cols:Int)(srt:List Int)(m:Int):List Int:=l8 cols srt++srt.map Xk.wrap++be4 m
def gJ (cols:Int)(kinds:List Int)(n:Nat):Int:=if (n:Int)<cols∧n<kinds.length then kinds.getD n 0 else -1
noncomputable def lR (cols:Int) (kinds:List Int) (T:List aa) (n:Nat):List Int:=
 be4 ((qh (gJ cols kinds n) (kI cols n T)).length:Int)++qh (gJ cols kinds n) (kI cols n T)
noncomputable def d8 (cols:Int) (kinds:List Int) (T:List aa) (k:Nat):List Int:=((Z8 k).map (lR cols kinds T)).flatten
noncomputable def iE (cols:Int) (srt kinds:List Int) (T:List aa):List Int:=nmB cols srt (T.length:Int)++d8 cols kinds T (cols+3).toNat
noncomputable def ip (cols:Int) (srt kinds:List Int) (T:List aa):List Int:=iE cols srt kinds T++be4 (iW (iE cols srt kinds T))
theorem wO (cols:Int)(kinds:List Int)(T:List aa)(k:Nat):d8 cols kinds T (k+1)=d8 cols kinds T k++lR cols kinds T k:=by
 unfold d8;rw[pi,Za,Zp];simp
theorem xA {cols:Int}{n:Nat}{T:List aa}(h:CV cols T):(∀v∈kI cols n T,VOK v)∧(kI cols n T).length≤4096:=by
 refine⟨λv hv=>?_,by unfold kI;simpa using h.le⟩;obtain⟨x,hx,rfl⟩:=Xo.1 hv;exact(EN h hx n).ok
theorem Dx (n:Int):0≤Xk.wrap n∧Xk.wrap n<256:=by rw[bj];omega
theorem ui {a b:List Int}(ha:Byt a)(hb:Byt b):Byt (a++b):=λc hc=>by
 rcases Xg.1 hc with hc|hc
 ·exact ha c hc
 ·exact hb c hc
theorem EP {cols:Int}{kinds:List Int}{T:List aa}(h:CV cols T)(n:Nat):Byt (lR cols kinds T n)∧(lR cols kinds T n).length≤6400004:=by
 obtain⟨h1,h2⟩:=xA (n:=n) h;obtain⟨h3,h4⟩:=va (kind:=gJ cols kinds n) h1 h2;unfold lR;exact⟨ui (pO _) h3,by rw[Z2,da];omega⟩
theorem vb {cols:Int}{kinds:List Int}{T:List aa}(h:CV cols T):∀k,Byt (d8 cols kinds T k)∧(d8 cols kinds T k).length≤6400004*k:=by
 intro k
 induction k with
 |zero=>exact⟨λc hc=>by simp[d8] at hc,by simp[d8]⟩
 |succ k ih=>
  have hs:=EP (kinds:=kinds) h k;rw[wO];exact⟨ui ih.1 hs.1,by rw[Z2];omega⟩
theorem Mi (cols:Int)(srt:List Int)(m:Int):Byt (nmB cols srt m):=by
 unfold nmB l8;refine ui (ui ?_ ?_) (pO m)
 ·intro c hc
  have h1:=Dx cols;have h2:=Dx (srt.length:Int);simp only[Xl,List.not_mem_nil,or_false] at hc;rcases hc with rfl|rfl|rfl|rfl|rfl|rfl<;>omega
 ·intro c hc
  obtain⟨x,_,rfl⟩:=Xo.1 hc;exact Dx x
theorem Dy (cols:Int)(srt:List Int)(m:Int):(nmB cols srt m).length=10+srt.length:=by
 unfold nmB l8;simp[da];omega
theorem xB {cols:Int}{srt kinds:List Int}{T:List aa}(h:CV cols T)(hs:srt.length≤1048576):Byt (iE cols srt kinds T)∧(iE cols srt kinds T).length≤100000000:=by
 have h1:=vb (kinds:=kinds) h (cols+3).toNat;have hco:=h.co;have hn:=Dy cols srt (T.length:Int);unfold iE;refine⟨ui (Mi _ _ _) h1.1,?_⟩;rw[Z2,hn];have:(cols+3).toNat≤11:=by omega
 have:6400004*(cols+3).toNat≤6400004*11:=Nat.mul_le_mul_left _ this;omega
theorem KT {cols:Int} {srt kinds:List Int} {T:List aa} (h:CV cols T) (hs:srt.length≤1048576) (hk:kinds.length≤1048576):
  au (λs:(List Int×Int)=>dW cols kinds T s.1 s.2) (nmB cols srt (T.length:Int),0)=some (ip cols srt kinds T,0):=by
 have hco:=h.co;have hbod:=xB (srt:=srt) (kinds:=kinds) h hs;have hnm:=Dy cols srt (T.length:Int);refine jT (λn=>(nmB cols srt (T.length:Int)++d8 cols kinds T n,(n:Int))) (cols+3).toNat (by simp[d8]) (λn hn=>?_) ?_
 ·have hss:=vb (kinds:=kinds) h n
  have hn11:n<11:=by omega
  have hlen:(nmB cols srt (T.length:Int)++d8 cols kinds T n).length≤200000000:=by rw[Z2,hnm];omega
  obtain⟨hv,hl⟩:=xA (n:=n) h;obtain⟨hb1,hb2⟩:=va (kind:=gJ cols kinds n) hv hl
  have hj4:eJ cols T (nmB cols srt (T.length:Int)++d8 cols kinds T n) (n:Int) (gJ cols kinds n)=some (.inl (nmB cols srt (T.length:Int)++d8 cols kinds T (n+1),((n+1:Nat):Int))):=by
   unfold eJ;rw[Hs h (by omega),Z0,Ht hv hl,Z0,AM (by omega),Z0,aH (by rw[Z2,da];omega),Z0,am (by omega),wO];unfold lR;simp only[Z7]
   rfl
  have hj3:∀b,(b=true↔n<kinds.length)→(n:Int)<cols→dV cols kinds T (nmB cols srt (T.length:Int)++d8 cols kinds T n) (n:Int) b=some (.inl (nmB cols srt (T.length:Int)++d8 cols kinds T (n+1),((n+1:Nat):Int))):=by
   intro b hb hc;unfold dV;cases b with
   |true=>
    have hlt:=hb.1 rfl;rw[if_pos rfl,az hlt,Z0];have:gJ cols kinds n=kinds[n]:=by unfold gJ;rw[if_pos ⟨hc,hlt⟩];simp[hlt]
    rw[←this,hj4]
   | false =>
    rw[if_neg (by simp)]
    have:gJ cols kinds n= -1:=by
     unfold gJ;rw[if_neg (λhh=>by have:=hb.2 hh.2;cases this)]
    rw[←this,hj4]
  simp only[dW];rw[am (by omega),if_pos (by simp;omega)]
  by_cases hc:(n:Int)<cols
  ·rw [if_pos (by simpa using hc)]
   exact hj3 _ (by simp) hc
  ·rw [if_neg (by simpa using hc)]
   unfold dV;rw[if_neg (by simp)];have:gJ cols kinds n= -1:=by unfold gJ;rw[if_neg (λhh=>hc hh.1)]
   rw[←this,hj4]
 ·simp only [dW]
  rw[am (by omega),if_neg (by simp;omega)];show(dU (iE cols srt kinds T)).map Sum.inr=_;unfold dU;obtain⟨h1,h2⟩:=sa (b:=iE cols srt kinds T) (by omega);unfold U32 at h2;rw[h1,Z0,am (by omega),AM (by omega)]
  rfl
theorem Jl {cols:Int} {srt kinds:List Int} {T:List aa} (h:CV cols T) (hs:srt.length≤1048576) (hk:kinds.length≤1048576):
  au (λs:(List Int×Int)=>qe cols kinds T s.1 s.2) (nmB cols srt (T.length:Int),0)=some (ip cols srt kinds T,0):=by
 have hco:=h.co;have hbod:=xB (srt:=srt) (kinds:=kinds) h hs;have hnm:=Dy cols srt (T.length:Int);refine jT (λn=>(nmB cols srt (T.length:Int)++d8 cols kinds T n,(n:Int))) (cols+3).toNat (by simp[d8]) (λn hn=>?_) ?_
 ·have hss:=vb (kinds:=kinds) h n
  have hn11:n<11:=by omega
  have hlen:(nmB cols srt (T.length:Int)++d8 cols kinds T n).length≤200000000:=by rw[Z2,hnm];omega
  obtain⟨hv,hl⟩:=xA (n:=n) h;obtain⟨hb1,hb2⟩:=va (kind:=gJ cols kinds n) hv hl
  have hj4:qd cols T (nmB cols srt (T.length:Int)++d8 cols kinds T n) (n:Int) (gJ cols kinds n)=some (.inl (nmB cols srt (T.length:Int)++d8 cols kinds T (n+1),((n+1:Nat):Int))):=by
   unfold qd;rw[F0 h (by omega),Z0,F1 hv hl,Z0,bD,Zc (by omega) (by omega),re (by omega),Z0,aH (by rw[da];omega),Z0,aH (by rw[Z2,da];omega),Z0,am (by omega),wO];unfold lR;simp only[Z7]
   rfl
  have hj3:∀b,(b=true↔n<kinds.length)→(n:Int)<cols→nB cols kinds T (nmB cols srt (T.length:Int)++d8 cols kinds T n) (n:Int) b=some (.inl (nmB cols srt (T.length:Int)++d8 cols kinds T (n+1),((n+1:Nat):Int))):=by
   intro b hb hc;unfold nB;cases b with
   |true=>
    have hlt:=hb.1 rfl;rw[if_pos rfl,az hlt,Z0];have:gJ cols kinds n=kinds[n]:=by unfold gJ;rw[if_pos ⟨hc,hlt⟩];simp[hlt]
    rw[←this,hj4]
   | false =>
    rw[if_neg (by simp)]
    have:gJ cols kinds n= -1:=by
     unfold gJ;rw[if_neg (λhh=>by have:=hb.2 hh.2;cases this)]
    rw[←this,hj4]
  simp only[qe];rw[am (by omega),if_pos (by simp;omega)]
  by_cases hc:(n:Int)<cols
  ·rw [if_pos (by simpa using hc)]
   exact hj3 _ (by simp) hc
  ·rw [if_neg (by simpa using hc)]
   unfold nB;rw[if_neg (by simp)];have:gJ cols kinds n= -1:=by unfold gJ;rw[if_neg (λhh=>hc hh.1)]
   rw[←this,hj4]
 ·simp only [qe]
  rw[am (by omega),if_neg (by simp;omega)];show(tF (iE cols srt kinds T)).map Sum.inr=_;unfold tF;obtain⟨h1,h2⟩:=sa (b:=iE cols srt kinds T) (by omega);unfold U32 at h2;rw[EL hbod.1 (by omega),Z0,bD,Zc (by omega) (by omega),re (by omega),Z0,aH (by rw[da];omega)]
  rfl
theorem BF {cols:Int} {srt kinds:List Int} {l:List aa} (hs:srt.length≤1048576) (hk:kinds.length≤1048576) (hv: ∀v∈l,mK v):
  (tK cols srt l≠0∧gF cols srt kinds l=some ([],tK cols srt l)∧yv cols srt kinds l=some ([],tK cols srt l))∨
  (pQ cols srt l∧∃T,Stb (qlt srt) l T∧CV cols T∧gF cols srt kinds l=some (ip cols srt kinds T,0)∧yv cols srt kinds l=some (ip cols srt kinds T,0)):=by
 unfold gF yv;rw[u9 hs hv,KS hs hv,Z0,Z0]
 by_cases hr:tK cols srt l=0
 ·right
  have hA:=QK.1 hr;have hle:=hA.le;have hrk:Rok l:=λv hm=>(hv v hm).len;obtain⟨T,h1,h2⟩:=BE (cs:=srt) (xs:=l) hs (by omega) hrk;obtain⟨T',h3,h4⟩:=Dr (cs:=srt) (xs:=l) hs (by omega);obtain rfl:=h4.unique (iB srt) h2;have hT:CV cols T':=(CV.of hA hv).mem (h2.len (iB srt)) (λv hm=>(h2.mem (iB srt)).1 hm);have hTl:=h2.len (iB srt);refine⟨hA,T',h2,hT,?_,?_⟩
  ·rw [if_neg (by simp [hr]),h1,Z0,aH (by simp),Z0]
   refine(jT (λi=>(l8 cols srt++(srt.take i).map Xk.wrap,(i:Int))) srt.length (by simp[l8]) (λi hi=>?_) (b:=dX cols kinds T' (l8 cols srt++srt.map Xk.wrap)) ?_).trans ?_
   ·simp only [eK]
    rw[if_pos (by simpa using hi),az hi,Z0,aH (by simp[l8];omega),Z0,am (by omega),jV hi,Za];simp only[Z7]
    rfl
   ·simp only [eK]
    rw[if_neg (by simp),Zf]
   ·unfold dX
    rw[AM (by simp[l8];omega),Z0];exact KT hT hs hk
  ·rw [if_neg (by simp [hr]),h3,Z0]
   refine(jT (λi=>(l8 cols srt++(srt.take i).map Xk.wrap,(i:Int))) srt.length (by simp[l8]) (λi hi=>?_) (b:=tG cols kinds l T' (l8 cols srt++srt.map Xk.wrap)) ?_).trans ?_
   ·simp only [tH]
    rw[if_pos (by simpa using hi),az hi,Z0,aH (by simp[l8];omega),Z0,am (by omega),jV hi,Za];simp only[Z7]
    rfl
   ·simp only [tH]
    rw[if_neg (by simp),Zf]
   ·unfold tG
    rw[bD,Zc (by omega) (by omega),re (by omega),Z0,aH (by simp[l8,da];omega),Z0];have:=Jl (srt:=srt) (kinds:=kinds) hT hs hk;rw[hTl] at this;exact this
 ·left
  exact⟨hr,by rw[if_pos (by simpa using hr)],by rw[if_pos (by simpa using hr)]⟩
set_option linter.unusedVariables false
set_option linter.unusedSimpArgs false
theorem orS {a b:Nat}(k:Nat)(hb:b<2^k)(h:2^k*a+b<4294967296):bOr .i64 ((2^k*a:Nat):Int) (b:Int)=((2^k*a+b:Nat):Int):=by
 unfold bOr
 have h1:(Xp Zm.bits ((2^k*a:Nat):Int)).toNat=2^k*a:=by
  show(Xp 64 ((2^k*a:Nat):Int)).toNat=2^k*a;rw[BitVec.toNat_ofInt];omega
 have h2:(Xp Zm.bits (b:Int)).toNat=b:=by
  show(Xp 64 (b:Int)).toNat=b;rw[BitVec.toNat_ofInt];omega
 rw[BitVec.toNat_or,h1,h2,←Nat.two_pow_add_eq_or_of_lt hb,am (by omega)]
theorem shI {a:Nat}(k:Nat)(hk:k≤24)(ha:a<256):dx .i64 (a:Int) (k:Int)=((2^k*a:Nat):Int):=by
 unfold dx;have e:min ((k:Int)).toNat Zm.bits=k:=by simp[IntKind.bits];omega
 have h2:2^k≤2^24:=Nat.pow_le_pow_right (by decide) hk;have h3:2^k*a≤2^24*255:=Nat.mul_le_mul h2 (by omega);rw[e,show(a:Int)*2^k=((2^k*a:Nat):Int) by rw[Nat.mul_comm];push_cast;rfl,am (by omega)]
theorem zI {a b c d:Int}{t:List Int}(ha:0≤a∧a<256)(hb:0≤b∧b<256)(hc:0≤c∧c<256)(hd:0≤d∧d<256):dp (a::b::c::d::t)=some (dA [a,b,c,d]):=by
 have e0:idx (a::b::c::d::t) 0=some a:=az (xs:=a::b::c::d::t) (i:=0) (by simp);have e1:idx (a::b::c::d::t) 1=some b:=az (xs:=a::b::c::d::t) (i:=1) (by simp);have e2:idx (a::b::c::d::t) 2=some c:=az (xs:=a::b::c::d::t) (i:=2) (by simp);have e3:idx (a::b::c::d::t) 3=some d:=az (xs:=a::b::c::d::t) (i:=3) (by simp);unfold dp;rw[e0,Z0,e1,Z0,e2,Z0,e3,Z0,am (by omega),am (by omega),am (by omega),am (by omega)];obtain⟨a,rfl⟩:=Zb ha.1;obtain⟨b,rfl⟩:=Zb hb.1;obtain⟨c,rfl⟩:=Zb hc.1;obtain⟨d,rfl⟩:=Zb hd.1;have s1:=shI (a:=a) 24 (by omega) (by omega);have s2:=shI (a:=b) 16 (by omega) (by omega)
 have s3:=shI (a:=c) 8 (by omega) (by omega);rw[show((24:Nat):Int)=24 from rfl] at s1;rw[show((16:Nat):Int)=16 from rfl] at s2;rw[show((8:Nat):Int)=8 from rfl] at s3;rw[s1,s2,s3,orS 24 (by omega) (by omega),show 2^24*a+2^16*b=2^16*(2^8*a+b) by omega,orS 16 (by omega) (by omega),show 2^16*(2^8*a+b)+2^8*c=2^8*(2^8*(2^8*a+b)+c) by omega,orS 8 (by omega) (by omega)];unfold dA;simp only[Zo,Xi];congr 1;omega
theorem D8 {b:List Int}(hb:Byt b)(h:4≤b.length):dp b=some (dA (b.take 4)):=by
 match b,h with
 |a::b::c::d::t,_=>exact zI hb.head hb.tail.head hb.tail.tail.head hb.tail.tail.tail.head
theorem vc {n:Int}(h:U32 n)(t:List Int):dp (be4 n++t)=some n:=by
 have:=yF h;unfold be4 at*;rw[Zw,Zw,Zw,Zw,zI (by omega) (by omega) (by omega) (by omega),this]
theorem Hu {kind:Int}{p:List Ap}(h:∀v∈p,Rgt v)(hp:p≠[])(hl:p.length≤64):(wr (yG kind p) p).2=0:=by
 have key:∀k,(enc (kH k p) p).2=0→(wr k p).2=0:=λk hk=>by
  unfold wr;rw[if_neg hp,if_neg (by simpa using hk)]
 apply key;unfold yG;split
 ·rename_i he
  unfold kH;rw[if_neg]
  ·exact he
  ·rintro rfl
   unfold enc at he;rw[if_pos (by omega)] at he;cases he
 ·unfold kH
  rw[if_pos rfl,RF.1];unfold enc;have hr:p.all right=true:=Zj.2 λv hv=>(h v hv).right;rw[if_neg (by omega),if_neg (by omega),if_neg (by simp[hr]),if_neg (λhh=>by omega),if_neg hp]
theorem Jm {kind:Int}{p:List Ap}(h:∀v∈p,Rgt v)(hp:p≠[])(hl:p.length≤64){t:List Int}(ht:Byt t)(htl:t.length≤900000000000):k8 (fy kind p++t)=some (p,((fy kind p).length:Int),0):=by
 unfold fy;exact KO (λv hv=>(h v hv).ok) (Hu h hp hl) ht htl
theorem KU {kind:Int}{p:List Ap}(h:∀v∈p,Rgt v)(hp:p≠[])(hl:p.length≤64):0<(fy kind p).length:=by
 unfold fy;obtain⟨k,_,_,_,_,hw,_⟩:=Dk (λv hv=>(h v hv).ok) (Hu (kind:=kind) h hp hl);rw[hw];unfold mJ;simp[da]
theorem BG {kind:Int}{l:List Ap}{i:Nat}(hi:i<io l):(((jr l).drop i).map (fy kind)).flatten=fy kind (cQ l i)++(((jr l).drop (i+1)).map (fy kind)).flatten:=by
 have hc:i<(jr l).length:=by unfold jr;simpa using hi
 rw[Z3 hc];have:(jr l)[i]=cQ l i:=by simp[jr]
 rw[this];rfl
theorem Hv {kind:Int}{l:List Ap}(h:∀v∈l,VOK v)(hl:l.length≤4096):∀k i:Nat,i+k=io l→Byt ((((jr l).drop i).map (fy kind)).flatten)∧((((jr l).drop i).map (fy kind)).flatten).length≤100000*k:=by
 intro k
 induction k with
 |zero=>
  intro i hi;rw[Z6 (by unfold jr;simp;omega)];exact⟨.nil,by simp⟩
 |succ k ih=>
  intro i hi;have hb:=xz (kind:=kind) (p:=cQ l i) (λv hv=>h v (sg hv));have:=ih (i+1) (by omega);rw[BG (by omega)];exact⟨hb.1.app this.1,by rw[Z2];omega⟩
theorem Hw {kind:Int}{l:List Ap}(h:∀v∈l,Rgt v)(hl:l.length≤4096):i6 (qh kind l) (l.length:Int)=some (l,true):=by
 unfold i6;have hv:∀v∈l,VOK v:=λv hv=>(h v hv).ok;refine jT (λi=>((((jr l).drop i).map (fy kind)).flatten,l.take (64*i))) (io l) (by simp[qh]) (λi hi=>?_) ?_
 ·have hlt:64*i<l.length:=by unfold io at hi;omega
  have hp:∀v∈cQ l i,Rgt v:=λv hv=>h v (sg hv);have hpl:=yH l i;have hplen:(cQ l i).length=min 64 (l.length - 64*i):=by unfold cQ;simp
  have hne:cQ l i≠[]:=λe=>by rw[e] at hplen;simp at hplen;omega
  have hpos:=KU (kind:=kind) hp hne hpl;obtain⟨hd1,hd2⟩:=Hv (kind:=kind) hv hl (io l - (i+1)) (i+1) (by omega);have hcb:io l≤64:=by unfold io;omega
  have htl:(l.take (64*i)).length=64*i:=by simp;omega
  have ht:l.take (64*(i+1))=l.take (64*i)++cQ l i:=by unfold cQ;rw[←List.take_add];congr 1
  simp only[iN];rw[BG hi,if_pos (by simp;omega),Jm hp hne hpl hd1 (by omega),Z0,if_neg (by simp),htl,am (by omega)]
  have hm:(((cQ l i).length:Int) != (if (l.length:Int) - ((64*i:Nat):Int)<64 then (l.length:Int) - ((64*i:Nat):Int) else 64))=false:=by
   rw[hplen];simp;split<;>omega
  dsimp only;rw[hm];unfold iM;rw[if_neg (by simp)];dsimp only;rw[aH (by rw[htl];omega),Z0,gw (by simp),Z0,Xa,ht]
 ·have hge:l.length≤64*io l:=by unfold io;omega
  simp only[iN];rw[Z6 (by unfold jr;simp),if_neg (by simp),Z4 hge];unfold ko;simp
def tkV (cols:Int) (n:Nat) (v:aa):aa:=
 ⟨⟨if cols<(n:Int) then v.fId.fEpoch else 0,if cols+1<(n:Int) then v.fId.fNumber else 0⟩,v.fRow.take n,if cols+2<(n:Int) then v.fDeleted else 0⟩
theorem KV {cols:Int}(hc:1≤cols)(v:aa):tkV cols 0 v=aa.zero:=by
 unfold tkV;rw[if_neg (by omega),if_neg (by omega),if_neg (by omega)]
 rfl
theorem Mj {cols:Int}{v:aa}(hc:1≤cols)(h:(v.fRow.length:Int)=cols):tkV cols (cols+3).toNat v=v:=by
 unfold tkV;rw[if_pos (by omega),if_pos (by omega),if_pos (by omega),Z4 (by omega)]
theorem Mk {α:Type}{A B:List α}{x:α}{i:Nat}(h:A.length=i):(A++x::B)[i]? =some x:=by simp[←h]
theorem Jn {α:Type}{A B:List α}{x y:α}{i:Nat}(h:A.length=i):(A++x::B).set i y=A++y::B:=by simp[←h]
theorem Jo {cols:Int} {srt:List Int} {T:List aa} (h:CV cols T) {n:Nat} (hn:(n:Int)<cols+3):
  iO ⟨cols,srt,[]⟩ (T.map (tkV cols n)) (n:Int) (kI cols n T)=some (true,T.map (tkV cols (n+1))):=by
 have hle:=h.le;have hco:=h.co;have hcl:(kI cols n T).length=T.length:=by simp[kI]
 unfold iO;refine jT (λi=>((i:Int),(T.take i).map (tkV cols (n+1))++(T.drop i).map (tkV cols n))) T.length (by simp) (λi hi=>?_) ?_
 ·obtain ⟨h1,h2⟩:=h.ok _ (Z9 hi)
  obtain⟨h3,h4,h5,h6,h7⟩:=qx h1 h2;have hde:=h1.de;have hnu:=h1.nu;have hAl:((T.take i).map (tkV cols (n+1))).length=i:=by simp;omega
  obtain⟨A,hA⟩:∃A,A=(T.take i).map (tkV cols (n+1)):=⟨_,rfl⟩
  obtain⟨B,hB⟩:∃B,B=(T.drop (i+1)).map (tkV cols n):=⟨_,rfl⟩
  have hS:(T.take i).map (tkV cols (n+1))++(T.drop i).map (tkV cols n)=A++tkV cols n T[i]::B:=by
   rw[Z3 hi,Xm,hA,hB]
  have hS':(T.take (i+1)).map (tkV cols (n+1))++(T.drop (i+1)).map (tkV cols n)=A++tkV cols (n+1) T[i]::B:=by
   rw[jV hi,Za,hA,hB];simp
  have hAl':A.length=i:=by rw[hA];exact hAl
  have hx:(A++tkV cols n T[i]::B)[i]? =some (tkV cols n T[i]):=Mk hAl';have hset:∀y,(A++tkV cols n T[i]::B).set i y=A++y::B:=λy=>Jn hAl'
  have hc:idx (kI cols n T) (i:Int)=some (gy cols n T[i]):=by
   rw[az (by omega)];simp[kI]
  show dZ ⟨cols,srt,[]⟩ (n:Int) (kI cols n T) (i:Int) ((T.take i).map (tkV cols (n+1))++(T.drop i).map (tkV cols n))=some (.inl (((i+1:Nat):Int),(T.take (i+1)).map (tkV cols (n+1))++(T.drop (i+1)).map (tkV cols n)));rw[hS,hS'];unfold dZ;rw[if_pos (by simp;omega),hc,Z0,mI (by simp;omega),Z0]
  have h3':∀z,dw (i:Int) z=some (.inl (((i+1:Nat):Int),z)):=λz=>by
   unfold dw;rw[am (by omega)];rfl
  have hj2 : dY ⟨cols, srt, []⟩ (n : Int) (i : Int) (A ++ tkV cols n T[i] :: B) (gy cols n T[i]) i false = some (.inl (((i + 1 : Nat) : Int), A ++ tkV cols (n + 1) T[i] :: B)) := by
   unfold dY;dsimp only;rw[if_neg (by simp),am (by omega),hx];simp only[Z0,hset,h3']
   by_cases c1:(n:Int)=cols
   ·rw [if_pos (by simp;omega)]
    have hcell:gy cols n T[i]=iU T[i].fId.fEpoch:=by unfold gy;rw[if_neg (by omega),if_pos c1]
    rw[hcell,bD];unfold tkV;dsimp only[iU];rw[Zc (by omega) (by omega),Z4 (by omega),Z4 (by omega)];have a0:(cols<(n:Int))=False:=eq_false (by omega);have b0:(cols<((n+1:Nat):Int))=True:=eq_true (by omega);have a1:(cols+1<(n:Int))=False:=eq_false (by omega);have b1:(cols+1<((n+1:Nat):Int))=False:=eq_false (by omega);have a2:(cols+2<(n:Int))=False:=eq_false (by omega);have b2:(cols+2<((n+1:Nat):Int))=False:=eq_false (by omega);simp only[a0,b0,a1,b1,a2,b2,if_true,if_false]
   ·rw [if_neg (by simp; omega)]
    by_cases c2:(n:Int)=cols+1
    ·rw [if_pos (by simp;omega)]
     have hcell:gy cols n T[i]=iU T[i].fId.fNumber:=by unfold gy;rw[if_neg (by omega),if_neg c1,if_pos c2]
     rw[hcell,lM];unfold tkV;dsimp only[iU];rw[if_neg (by simp;omega),Zc (by omega) (by omega),Z4 (by omega),Z4 (by omega)];have a0:(cols<(n:Int))=True:=eq_true (by omega);have b0:(cols<((n+1:Nat):Int))=True:=eq_true (by omega);have a1:(cols+1<(n:Int))=False:=eq_false (by omega);have b1:(cols+1<((n+1:Nat):Int))=True:=eq_true (by omega);have a2:(cols+2<(n:Int))=False:=eq_false (by omega);have b2:(cols+2<((n+1:Nat):Int))=False:=eq_false (by omega);simp only[a0,b0,a1,b1,a2,b2,if_true,if_false]
    ·rw [if_neg (by simp;omega)]
     by_cases c3:(n:Int)=cols+2
     ·rw [if_pos (by simp;omega)]
      have hcell:gy cols n T[i]=iU T[i].fDeleted:=by unfold gy;rw[if_neg (by omega),if_neg c1,if_neg c2]
      rw[hcell,bD];unfold tkV;dsimp only[iU];rw[Zc (by omega) (by omega),Z4 (by omega),Z4 (by omega)];have a0:(cols<(n:Int))=True:=eq_true (by omega);have b0:(cols<((n+1:Nat):Int))=True:=eq_true (by omega);have a1:(cols+1<(n:Int))=True:=eq_true (by omega);have b1:(cols+1<((n+1:Nat):Int))=True:=eq_true (by omega);have a2:(cols+2<(n:Int))=False:=eq_false (by omega);have b2:(cols+2<((n+1:Nat):Int))=True:=eq_true (by omega);simp only[a0,b0,a1,b1,a2,b2,if_true,if_false]
     ·rw [if_neg (by simp;omega)]
      have hr:n<T[i].fRow.length:=by omega
      have e:T[i].fRow.take (n+1)=T[i].fRow.take n++[gy cols n T[i]]:=by
       unfold gy;rw[jV hr,if_pos (by omega)];simp[hr]
      have hxl:(tkV cols n T[i]).fRow.length≤1048576:=by
       have:=h1.len;unfold tkV;simp;omega
      rw[aH (by simp;omega),Z0]
      have:tkV cols (n+1) T[i]={ tkV cols n T[i] with fRow:=(tkV cols n T[i]).fRow++[gy cols n T[i]] }:=by
       unfold tkV;dsimp only;rw[e,if_neg (by omega),if_neg (by omega),if_neg (by omega),if_neg (by omega),if_neg (by omega),if_neg (by omega)]
      rw[this]
  by_cases hnc:cols≤(n:Int)
  ·rw [if_pos (by simpa using hnc)]
   have hk:(gy cols n T[i]).fKind=2∧0≤(gy cols n T[i]).fInt:=by
    unfold gy;rw[if_neg (by omega)];split
    ·exact⟨rfl,by simp only[iU];omega⟩
    ·split
     ·exact⟨rfl,by simp only[iU];omega⟩
     ·exact⟨rfl,by simp only[iU];omega⟩
   rw[if_neg (by simp[hk.1]),decide_eq_false (by omega)];exact hj2
  ·rw [if_neg (by simpa using hnc)]
   exact hj2
 ·show dZ ⟨cols,srt,[]⟩ (n:Int) (kI cols n T) (T.length:Int) ((T.take T.length).map (tkV cols (n+1))++(T.drop T.length).map (tkV cols n))=_
  unfold dZ;rw[if_neg (by simp;omega),Zf,List.drop_length];unfold iT;simp
set_option linter.unusedVariables false
set_option linter.unusedSimpArgs false
theorem nodup_iff {α:Type} [DecidableEq α](l:List α):l.Nodup↔ ∀(i:Nat) (h:i<l.length),(l.take i).contains l[i]=false:=by
 unfold List.Nodup;rw[X7];constructor
 ·intro h i hi
  rw[Zt,decide_eq_false_iff_not];intro hm;obtain⟨k,hk,he⟩:=Zg hm;have hk':k<i:=by simp at hk;omega
  have:=h k i (by omega) hi hk';apply this;rw[←he];simp
 ·intro h i j hi hj hij e
  have:=h j hj;rw[Zt,decide_eq_false_iff_not] at this;apply this;rw[←e];exact Zu (i:=i) (by rw[X9 hij,Z1 hi])
theorem QT {cols:Int}{srt:List Int}:rg cols srt=true↔(∀s∈srt,0≤s∧s<cols)∧srt.Nodup:=by
 unfold rg;rw[nodup_iff];simp only[Zj,Zq];constructor
 ·intro h
  have key:∀(i:Nat) (hi:i<srt.length),0≤srt[i]∧srt[i]<cols∧(srt.take i).contains srt[i]=false:=by
   intro i hi;have:=h i hi;unfold rf at this;rw[Z1 hi] at this;simp only[Zi,decide_eq_true_eq,Ze] at this;exact this
  refine⟨λs hs=>?_,λi hi=>(key i hi).2.2⟩;obtain⟨i,hi,rfl⟩:=Zg hs;exact⟨(key i hi).1,(key i hi).2.1⟩
 ·rintro ⟨h1,h2⟩ i hi
  unfold rf;rw[Z1 hi];simp only[Zi,decide_eq_true_eq,Ze];have:=h1 _ (Z9 hi);exact⟨this.1,this.2,h2 i hi⟩
theorem QU {cols:Int}{l:List aa}:ph cols l=true↔(∀v∈l,se cols v=true)∧(l.map (·.fId)).Nodup:=by
 unfold ph;rw[nodup_iff];simp only[Zj,Zq,List.length_map,List.getElem_map];constructor
 ·intro h
  have key:∀(i:Nat) (hi:i<l.length),se cols l[i]=true∧((l.take i).map (·.fId)).contains l[i].fId=false:=by
   intro i hi;have:=h i hi;unfold qg at this;rw[Z1 hi] at this;simp only[Zi,Ze] at this;exact this
  refine⟨λs hs=>?_,λi hi=>?_⟩
  ·obtain ⟨i,hi,rfl⟩:=Zg hs
   exact(key i hi).1
  ·have:=(key i hi).2
   rw[List.map_take] at this;exact this
 ·rintro ⟨h1,h2⟩ i hi
  unfold qg;rw[Z1 hi];simp only[Zi,Ze];refine⟨h1 _ (Z9 hi),?_⟩;have:=h2 i hi;rw[List.map_take];exact this
theorem Jp:∀(n:Nat) (l:List Int),l.Nodup→(∀s∈l,0≤s∧s<(n:Int))→l.length≤n:=by
 intro n
 induction n with
 |zero=>
  intro l _ h;cases l with
  |nil=>simp
  |cons a l=>have:=h a (by simp);omega
 | succ n ih =>
  intro l hn h
  have h1:=ih (l.filter λx=> !decide (x=(n:Int))) (hn.filter _) (λs hs=>by
   obtain⟨hm,hq⟩:=List.mem_filter.1 hs;have:=h s hm;have:s≠(n:Int):=by simpa using hq
   omega)
  have h2:l.count (n:Int)≤1:=List.nodup_iff_count.1 hn _;have h3:=List.length_eq_countP_add_countP (p:=λx=> !decide (x=(n:Int))) (l:=l);rw[List.countP_eq_length_filter] at h3
  have h4:List.countP (λa=>decide ¬((!decide (a=(n:Int)))=true)) l=l.count (n:Int):=by
   unfold List.count;congr 1;funext a
   by_cases e:a=(n:Int)<;>simp[e]
  omega
theorem pQ.srt_le {cols:Int}{srt:List Int}{l:List aa}(h:pQ cols srt l):srt.length≤8:=by
 obtain⟨h1,h2⟩:=QT.1 h.so;have hc:=h.co;exact Jp 8 srt h2 λs hs=>by have:=h1 s hs;omega
theorem pQ.stb {cols:Int}{srt:List Int}{l T:List aa}(h:pQ cols srt l)(hs:Stb (qlt srt) l T):pQ cols srt T:=by
 have hp:=hs.perm (iB srt);obtain⟨h1,h2⟩:=QU.1 h.ro;refine⟨h.co,h.so,by rw[hp.length_eq];exact h.le,QU.2 ⟨λv hv=>h1 v (hp.mem_iff.1 hv),?_⟩⟩;exact(hp.map _).nodup_iff.2 h2
theorem pQ.none {cols:Int}{srt:List Int}{l:List aa}(h:pQ cols srt l):pQ cols srt []:=⟨h.co,h.so,by simp,rfl⟩
theorem pQ.id_srt {cols:Int}{srt:List Int}{l:List aa}(h:pQ cols srt l):srt.map Xk.wrap=srt:=by
 obtain⟨h1,_⟩:=QT.1 h.so;have hc:=h.co;rw[Zy (g:=id),List.map_id];intro s hs;have:=h1 s hs;rw[bj,Zc (by omega) (by omega)];rfl
theorem Jq {cols:Int} {srt kinds:List Int} {T:List aa} (h:pQ cols srt T) (hs:Byt (d8 cols kinds T (cols+3).toNat)∧(d8 cols kinds T (cols+3).toNat).length≤100000000):
  iL (iE cols srt kinds T)=some ((T.length:Int),d8 cols kinds T (cols+3).toNat,true,⟨cols,srt,[]⟩):=by
 have hco:=h.co;have hle:=h.le;have hsl:=h.srt_le;obtain⟨hs1,hs2⟩:=hs;obtain⟨S,hS⟩:∃S,S=d8 cols kinds T (cols+3).toNat:=⟨_,rfl⟩
 rw[←hS] at hs1 hs2 ⊢
 have hb:iE cols srt kinds T=72::65::89::49::cols::(srt.length:Int)::(srt++(be4 (T.length:Int)++S)):=by
  unfold iE nmB l8;rw[h.id_srt,bj,bj,Zc (by omega) (by omega),Zc (by omega) (by omega),←hS];simp
 rw[hb];obtain⟨p,hp⟩:∃p,p=72::65::89::49::cols::(srt.length:Int)::(srt++(be4 (T.length:Int)++S)):=⟨_,rfl⟩
 rw[←hp];have hpl:p.length=6+(srt.length+(4+S.length)):=by rw[hp];simp[da];omega
 have e1:sub p 0 4=some [72,65,89,49]:=by
  have:=d3 (xs:=p) (lo:=0) (hi:=4) (by omega) (by omega);rw[hp] at this ⊢;exact this
 have i4:idx p 4=some cols:=by rw[hp];exact az (i:=4) (by simp)
 have i5:idx p 5=some (srt.length:Int):=by rw[hp];exact az (i:=5) (by simp)
 have e2:sub p 6 (p.length:Int)=some (srt++(be4 (T.length:Int)++S)):=by
  have:=gw (xs:=p) (k:=6) (by omega);rw[show((6:Nat):Int)=6 from rfl] at this;rw[this,hp];rfl
 have hrl:(srt++(be4 (T.length:Int)++S)).length=srt.length+(4+S.length):=by simp[da]
 have e3:sub (srt++(be4 (T.length:Int)++S)) 0 (srt.length:Int)=some srt:=by
  have:=d3 (xs:=srt++(be4 (T.length:Int)++S)) (lo:=0) (hi:=srt.length) (by omega) (by omega);rw[Xj] at this;exact this
 have hw:Zm.wrap (srt.length:Int)=(srt.length:Int):=am (by omega);have hw4:Zm.wrap ((srt.length:Int)+4)=((srt.length+4:Nat):Int):=by rw[am (by omega)];omega
 unfold iL;rw[if_neg (by simp;omega),e1,Z0];show eT p (!decide ((72,65,89,49)=((72,65,89,49):Int×Int×Int×Int)))=_;unfold eT;rw[if_neg (by simp),i4,Z0,i5,Z0,e2,Z0,hw,hw4,hrl,if_neg (by simp;omega),e3,Z0];refine jT (λi=>((i:Int),(⟨cols,srt.take i,[]⟩:aI))) srt.length ?_ (λi hi=>?_) ?_
 ·rw[am (by omega)];rfl
 ·simp only [gu]
  obtain⟨hr,_⟩:=QT.1 h.so;have:=hr _ (Z9 hi);rw[if_pos (by simpa using hi),az hi,Z0,aH (by simp;omega),Z0,am (by omega),am (by omega),jV hi]
  rfl
 ·simp only [gu]
  rw[if_neg (by simp),Zf];unfold iS
  have e4:sub (srt++(be4 (T.length:Int)++S)) (srt.length:Int) ((srt++(be4 (T.length:Int)++S)).length:Int)=some (be4 (T.length:Int)++S):=by
   rw[gw (by simp),Xa]
  have e5:sub (srt++(be4 (T.length:Int)++S)) ((srt.length+4:Nat):Int) ((srt++(be4 (T.length:Int)++S)).length:Int)=some S:=by
   rw[gw (by omega),←Z7,X5 (by simp[da])]
  rw[hw,hw4,e4,Z0,vc (by unfold U32;omega),Z0,e5,Z0];dsimp only;rw[u9 (by omega) (by simp),Z0,QK.2 h.none,if_pos (by simp)];unfold gt;rw[decide_eq_true (by omega)]
theorem AN {xs:List aa}(h:xs.length≤1048576):eL xs xs ez=some true:=by
 unfold eL;rw[if_neg (by simp)];refine jT (λi=>(i:Int)) xs.length rfl (λi hi=>?_) ?_
 ·simp only [im]
  rw[if_pos (by simpa using hi),az hi,Z0,Z0];simp only[ez];rw[Z0,if_neg (by simp),am (by omega)];rfl
 ·simp only [im]
  rw[if_neg (by simp)];rfl
theorem Jr {cols:Int} {srt kinds:List Int} {T:List aa} (h:pQ cols srt T) (hv: ∀v∈T,mK v) (hS:Srt (qlt srt) T) (hk:kinds.length≤1048576):
  fg (ip cols srt kinds T)=some (some ⟨cols,srt,T⟩,0):=by
 have hco:=h.co;have hle:=h.le;have hsl:=h.srt_le;have hC:CV cols T:=CV.of h hv;obtain⟨hb1,hb2⟩:=xB (srt:=srt) (kinds:=kinds) hC (by omega);obtain⟨hs1,hs2⟩:=sa (b:=iE cols srt kinds T) (by omega);obtain⟨hs3,hs4⟩:=vb (kinds:=kinds) hC (cols+3).toNat;have hk11:(cols+3).toNat≤11:=by omega
 have hs5:(d8 cols kinds T (cols+3).toNat).length≤100000000:=Nat.le_trans hs4 (by omega);have hpl:(ip cols srt kinds T).length=(iE cols srt kinds T).length+4:=by unfold ip;rw[Z2,da]
 have hw:Zm.wrap (((ip cols srt kinds T).length:Int) - 4)=((iE cols srt kinds T).length:Int):=by rw[hpl,am (by omega)];omega
 have e1:sub (ip cols srt kinds T) ((iE cols srt kinds T).length:Int) ((ip cols srt kinds T).length:Int)=some (be4 (iW (iE cols srt kinds T))):=by
  rw[gw (by omega)];unfold ip;rw[Xa]
 have e2:sub (ip cols srt kinds T) 0 ((iE cols srt kinds T).length:Int)=some (iE cols srt kinds T):=by
  have:=d3 (xs:=ip cols srt kinds T) (lo:=0) (hi:=(iE cols srt kinds T).length) (by omega) (by omega);have e:(ip cols srt kinds T).take (iE cols srt kinds T).length=iE cols srt kinds T:=by unfold ip;rw[Xj]
  rw[e] at this;exact this
 have hnum:=vc hs2 [];rw[X3] at hnum
 have hsw:Zm.wrap (iW (iE cols srt kinds T))=iW (iE cols srt kinds T):=by
  unfold U32 at hs2;rw[am (by omega)]
 unfold fg;rw[if_neg (by simp;omega),hw,e1,Z0,hnum,Z0,e2,Z0,hs1,Z0,hsw];unfold jP;rw[if_neg (by simp),hw,e2,Z0,Jq h ⟨hs3,hs5⟩,Z0,if_neg (by simp)];dsimp only
 have hmk:mk 5864062014805 (T.length:Int) aa.zero=some (T.map (tkV cols 0)):=by
  rw[uU (by omega),Zy (g:=λ_=>aa.zero) (λv _=>KV hco.1 v),List.map_const']
 rw[hmk,Z0]
 have hdr:∀n,n<(cols+3).toNat→(((Z8 (cols+3).toNat).drop n).map (lR cols kinds T)).flatten=lR cols kinds T n++(((Z8 (cols+3).toNat).drop (n+1)).map (lR cols kinds T)).flatten:=by
  intro n hn;rw[Z3 (by simpa using hn)];simp
 have hdl:∀k n:Nat,n+k=(cols+3).toNat→((((Z8 (cols+3).toNat).drop n).map (lR cols kinds T)).flatten).length≤6400004*k:=by
  intro k
  induction k with
  |zero=>intro n hn;rw[Z6 (by simp;omega)];simp
  |succ k ih=>
   intro n hn;rw[hdr n (by omega),Z2];have:=(EP (kinds:=kinds) hC n).2;have:=ih (n+1) (by omega);omega
 refine jT (λn=>((((Z8 (cols+3).toNat).drop n).map (lR cols kinds T)).flatten,(n:Int),T.map (tkV cols n))) (cols+3).toNat (by simp[d8]) (λn hn=>?_) ?_
 ·have hrl:=hdl ((cols+3).toNat - (n+1)) (n+1) (by omega)
  have hrl2:6400004*((cols+3).toNat - (n+1))≤6400004*11:=Nat.mul_le_mul_left _ (by omega);obtain⟨R,hR⟩:∃R,R=(((Z8 (cols+3).toNat).drop (n+1)).map (lR cols kinds T)).flatten:=⟨_,rfl⟩
  obtain⟨B,hB⟩:∃B,B=qh (gJ cols kinds n) (kI cols n T):=⟨_,rfl⟩
  obtain⟨hcv,hcl⟩:=xA (n:=n) hC;have hBl:=(va (kind:=gJ cols kinds n) hcv hcl).2;rw[←hB] at hBl;rw[←hR] at hrl;show gv ((T.length:Int),d8 cols kinds T (cols+3).toNat,true,⟨cols,srt,[]⟩) ((((Z8 (cols+3).toNat).drop n).map (lR cols kinds T)).flatten) (n:Int) (T.map (tkV cols n))=some (.inl ((((Z8 (cols+3).toNat).drop (n+1)).map (lR cols kinds T)).flatten,((n+1:Nat):Int),T.map (tkV cols (n+1))))
  have hx:(((Z8 (cols+3).toNat).drop n).map (lR cols kinds T)).flatten=be4 (B.length:Int)++(B++R):=by
   rw[hdr n hn,←hR];unfold lR;rw[←hB,Z7]
  rw[hx,←hR];obtain⟨X,hX⟩:∃X,X=be4 (B.length:Int)++(B++R):=⟨_,rfl⟩
  have hXl:X.length=4+(B.length+R.length):=by rw[hX];simp[da]
  have hn4:dp X=some (B.length:Int):=by rw[hX];exact vc (by unfold U32;omega) _
  have hw4:Zm.wrap (4+(B.length:Int))=((4+B.length:Nat):Int):=by rw[am (by omega)];omega
  have s1:sub X 4 ((4+B.length:Nat):Int)=some B:=by
   have:=d3 (xs:=X) (lo:=4) (hi:=4+B.length) (by omega) (by omega);rw[show((4:Nat):Int)=4 from rfl] at this;rw[this,hX,←Z7,List.take_left' (by simp[da]),X5 (da _)]
  have s2:sub X ((4+B.length:Nat):Int) (X.length:Int)=some R:=by
   rw[gw (by omega),hX,←Z7,X5 (by simp[da])]
  have hval:i6 B (T.length:Int)=some (kI cols n T,true):=by
   have hcr:∀v∈kI cols n T,Rgt v:=λv hv=>by
    obtain⟨x,hx,rfl⟩:=Xo.1 hv;exact EN hC hx n
   have:=Hw (kind:=gJ cols kinds n) hcr hcl;rw[←hB] at this;rw[show(kI cols n T).length=T.length by simp[kI]] at this;exact this
  rw[←hX];unfold gv;dsimp only;rw[am (by omega),if_pos (by simp;omega),if_neg (by simp;omega),hn4,Z0,hw4,decide_eq_false (by omega)];unfold jO;rw[if_neg (by simp),hn4,Z0,hw4,s1,Z0];dsimp only;rw[hval,Z0,if_neg (by simp)];dsimp only;rw[Jo hC (by omega),Z0];unfold jN;rw[if_neg (by simp),hw4,s2,Z0,am (by omega)]
  rfl
 ·show gv ((T.length:Int),d8 cols kinds T (cols+3).toNat,true,⟨cols,srt,[]⟩) ((((Z8 (cols+3).toNat).drop (cols+3).toNat).map (lR cols kinds T)).flatten) ((cols+3).toNat:Int) (T.map (tkV cols (cols+3).toNat))=_
  have hT:T.map (tkV cols (cols+3).toNat)=T:=by
   rw[Zy (g:=id) (λv hm=>?_),List.map_id];obtain⟨h1,h2⟩:=hC.ok v hm;exact Mj hco.1 (qx h1 h2).2.1
  rw[hT,Z6 (by simp)];unfold gv;dsimp only;rw[am (by omega),if_neg (by simp;omega)];have hrk:Rok T:=λv hm=>(hv v hm).len;obtain⟨T',h1,h2⟩:=BE (cs:=srt) (xs:=T) (by omega) (by omega) hrk;obtain rfl:=h2.unique (iB srt) (Stb.refl hS)
  have hso:gN (some ⟨cols,srt,T'⟩)=some true:=by
   unfold gN;simp only[Z0];rw[h1,Z0,AN (by omega)]
   rfl
  unfold lY;rw[if_neg (by simp)];simp only[Z0];rw[u9 (by omega) hv,Z0,QK.2 h,if_neg (by simp),hso,Z0]
  rfl
set_option linter.unusedVariables false
set_option linter.unusedSimpArgs false
def atB (l:List aa)(id:aL):Option Nat:=l.findIdx? λv=>decide (v.fId=id)
theorem Hx {l : List aa} {id : aL} (h : l.length ≤ 1048576) : eM l (λy => cZ y id) = some (((atB l id).map λi : Nat =>(i : Int)).getD (-1)) := by
  unfold eM
  have key:∀k i:Nat,i+k=l.length→au (λs:Int=>dR l (λy=>cZ y id) s) (i:Int)=some (((atB (l.drop i) id).map λj=>((i+j:Nat):Int)).getD (-1)):=by
    intro k
    induction k with
    | zero =>
      intro i hi;rw[Z6 (by omega)];apply aZ;simp only[dR];rw[if_neg (by simp;omega)];rfl
    | succ k ih =>
      intro i hi;have hlt:i<l.length:=by omega
      unfold atB;rw[Z3 hlt,List.findIdx?_cons]
      by_cases he:l[i].fId=id
      · rw [if_pos (by simpa using he)]
        apply aZ;simp only[dR];rw[if_pos (by simpa using hlt),az hlt,Z0];simp only[cZ];rw[Z0,if_pos (by simpa using he)];simp
      · rw [if_neg (by simpa using he)]
        rw[bL (s':=((i+1:Nat):Int))]
        · rw [ih (i + 1) (by omega)]
          unfold atB;cases (l.drop (i+1)).findIdx? λv=>decide (v.fId=id) with
          |none=>rfl
          |some j=>simp only[X4,Option.getD_some];congr 1;omega
        · simp only [dR]
          rw[if_pos (by simpa using hlt),az hlt,Z0];simp only[cZ];rw[Z0,if_neg (by simpa using he),am (by omega)];rfl
  have:=key l.length 0 (by omega);rw[List.drop_zero] at this;simpa using this
theorem KW {f:aI}{id:aL}(h:f.fL.length≤1048576):iP (some f) id=some (((atB f.fL id).map λi:Nat=>(i:Int)).getD 0,(atB f.fL id).isSome):=by
  unfold iP;rw[Z0,Hx h,Z0];cases atB f.fL id with
  |none=>rfl
  | some i =>
    simp only[X4,Option.getD_some,Option.isSome_some];rw[if_neg (by omega),decide_eq_true (by omega)]
theorem wP:pI=some true:=by
  let v1:aa:=⟨⟨1,0⟩,[⟨2,false,2,[]⟩],0⟩
  let v2:aa:=⟨⟨2,0⟩,[⟨2,false,1,[]⟩],0⟩
  have ok:∀(e n:Int),0≤e→e<10→0≤n→n<10→mK ⟨⟨e,0⟩,[⟨2,false,n,[]⟩],0⟩:=by
    intro e n h1 h2 h3 h4;refine⟨by dsimp only;omega,by dsimp only;omega,by dsimp only;omega,?_,by simp⟩;intro x hx;have:x=iU n:=by simpa using hx
    subst this;exact(Rgt.int n (by unfold cW;omega)).ok
  have hv:∀v∈[v1,v2],mK v:=by
    intro v hv;simp only[Xl,List.not_mem_nil,or_false] at hv;rcases hv with rfl|rfl
    ·exact ok 1 2 (by omega) (by omega) (by omega) (by omega)
    ·exact ok 2 1 (by omega) (by omega) (by omega) (by omega)
  have hA:pQ 1 [0] [v1,v2]:=QK.1 (by decide);rcases BF (cols:=1) (srt:=[0]) (kinds:=[]) (by simp) (by simp) hv with⟨h,_⟩|⟨_,T,h2,hC,hw,_⟩
  ·exact absurd (QK.2 hA) h
  have hi:Stb (qlt [0]) ([]++[v1]++[v2]) ([]++v2::[v1]):=Stb.ins (iB [0]) (by simp[Srt]) (by
    intro s hs
    rw[List.mem_singleton] at hs;subst hs;decide) (by simp)
  obtain rfl:T=[v2,v1]:=Stb.unique (iB [0]) h2 hi;have hr:=Jr (kinds:=[]) (hA.stb h2) (λv hm=>hv v ((h2.mem (iB [0])).1 hm)) h2.srt (by simp);unfold pI;rw[hw,Z0,hr,Z0,if_neg (by simp),if_neg (by simp)];unfold lL;dsimp only;rw[if_neg (by simp),KW (by simp),Z0]
  rfl
structure Hy (c:dc):Prop where
  so:c.fSort.length≤1048576
  ki:c.fKinds.length≤1048576
  le:c.fL.length≤1048576
  ok:∀v∈c.fL,mK v
set_option linter.unusedVariables false
set_option linter.unusedSimpArgs false
set_option linter.unusedVariables false
set_option linter.unusedSimpArgs false
open Option renaming bind_some→Z0,all_some→Zk,map_some→X4,map_eq_some_iff→Xh
open List renaming getElem?_eq_getElem→Z1,length_append→Z2,drop_eq_getElem_cons→Z3,take_of_length_le→Z4,take_append_drop→Z5,drop_of_length_le→Z6,append_assoc→Z7,range→Z8,getElem_mem→Z9,map_append→Za,take_length→Zf,getElem_of_mem→Zg,eq_nil_of_length_eq_zero→Zh,all_eq_true→Zj,getElem?_eq_some_iff→Zn,foldl_cons→Zo,flatten_append→Zp,mem_range→Zq,contains_eq_mem→Zt,mem_of_getElem?→Zu,replicate→Zv,cons_append→Zw,map_congr_left→Zy,nil_append→Zz,append_nil→X3,drop_left'→X5,pairwise_iff_getElem→X7,mem_or_eq_of_mem_set→X8,getElem?_take_of_lt→X9,drop_left→Xa,length_eq_one_iff→Xb,length_take→Xd,length_drop→Xe,mem_append→Xg,foldl_nil→Xi,take_left→Xj,mem_cons→Xl,map_cons→Xm,mem_map→Xo
open Nat renaming le_refl→Zl,mod_two_eq_zero_or_one→Zx,strongRecOn→Xc,xor_comm→Xf
open Bool renaming eq_false_or_eq_true→Zd,not_eq_true'→Ze,and_eq_true→Zi,and_eq_false_iff→Zr,or_eq_false_iff→Zs,eq_iff_iff→X6
open Int renaming eq_ofNat_of_zero_le→Zb,emod_eq_of_lt→Zc
open BitVec renaming ofInt→Xp
open Prod renaming swap→Xn
open IntKind renaming i64→Zm,u8→Xk
theorem sh {σ τ β γ:Type}{f:σ→Option (σ⊕β)}{g:τ→Option (τ⊕γ)}(e:σ→τ)(k:β→γ)(h:∀s,g (e s)=(f s).map (Sum.map e k))(s:σ):au g (e s)=(au f s).map k:=by
 have key:∀(n:Nat) (s:σ),ge g n (e s)=(ge f n s).map k:=by
  intro n
  induction n with
  |zero=>intro s;rfl
  | succ n ih =>
   intro s;simp only[ge,h s];cases f s with
   |none=>rfl
   |some r=>
    cases r with
    |inl s'=>exact ih s'
    |inr b=>rfl
 apply Option.ext;intro b;rw[A0,Xh];constructor
 ·rintro ⟨n,hn⟩
  rw[key,Xh] at hn;obtain⟨a,h1,h2⟩:=hn;exact⟨a,A0.2 ⟨n,h1⟩,h2⟩
 ·rintro ⟨a,h1,h2⟩
  obtain⟨n,hn⟩:=A0.1 h1;exact⟨n,by rw[key,hn];exact congrArg some h2⟩
theorem Ml (xs:List Int)(i:Int):idx xs i=(ix xs i).bind λj=>xs[j]? :=by
 unfold idx ix
 by_cases h0:0≤i
 ·by_cases h1:i<(xs.length:Int)
  ·rw[if_pos h0,if_pos ⟨h0,h1⟩];rfl
  ·rw [if_pos h0,if_neg (fun h=>h1 h.2)]
   exact List.getElem?_eq_none (by omega)
 ·rw[if_neg h0,if_neg (λh=>h0 h.1)];rfl
theorem PH (p0 t:List Int)(c i:Int):iv p0 t c i=(ji p0 t c i).map (Sum.map id λr=>(r,p0)):=by
 unfold iv ji;split
 ·rw [Ml]
  simp only[Option.map_bind,Option.bind_assoc,Function.comp_def,X4,Sum.map_inl,id]
 ·rfl
theorem PI (p0:List Int)(i:Int)(t:List Int)(c k:Int):iw i t c k=(ig i t c k).map (Sum.map id (Sum.map id λr=>(r,p0))):=by
 unfold iw ig;split
 ·rfl
 ·unfold l6 oS l5 oR
  simp only[Option.map_bind,Function.comp_def,X4,Sum.map_inl,Sum.map_inr,id]
theorem PJ (p0:List Int)(i:Int)(t:List Int):iy p0 i t=(jk p0 i t).map (Sum.map id λr=>(r,p0)):=by
 unfold iy jk;split
 ·exact sh (f:=λs:Int×Int=>ig i t s.1 s.2) (g:=λs:Int×Int=>iw i t s.1 s.2) id _ (λs=>PI p0 i t s.1 s.2) _
 ·have:lZ p0 t=(jj p0 t).map fun r=>(r,p0):=
   sh (f:=λs:Int×Int=>ji p0 t s.1 s.2) (g:=λs:Int×Int=>iv p0 t s.1 s.2) id _ (λs=>PH p0 t s.1 s.2) (4294967295,0)
  rw[this];cases jj p0 t<;>rfl
theorem PK (p0:List Int):o6 p0=(fF p0).map fun r=>(r,p0):=
 sh (f:=λs:Int×List Int=>jk p0 s.1 s.2) (g:=λs:Int×List Int=>iy p0 s.1 s.2) id _ (λs=>PJ p0 s.1 s.2) (0,Zv 16 0)
theorem EQ {α:Type}(o:Option α):o.map id=o:=by cases o<;>rfl
theorem yI:i7=ff:=rfl
theorem wg4 (p0:Int)(r:List aa)(i:Int)(xs:List Int)(k:Int):fM p0 r i xs k=(eJ p0 r xs i k).map (Sum.map Xn id):=by
 unfold fM eJ;rw[yI];cases gS p0 i r with
 |none=>rfl
 | some a =>
  simp only[Z0];cases gT k a with
  |none=>rfl
  | some b =>
   simp only[Z0];cases ff xs (b.length:Int) with
   |none=>rfl
   |some c=>
    simp only[Z0];cases app 140737488355328 c b with
    |none=>rfl
    |some d=>rfl
theorem wg3 (p0:Int)(p2:List Int)(r:List aa)(i:Int)(xs:List Int)(k:Bool):fN p0 p2 r i xs k=(dV p0 p2 r xs i k).map (Sum.map Xn id):=by
 unfold fN dV;cases k with
 |true=>
  rw[if_pos rfl,if_pos rfl];cases idx p2 i with
  |none=>rfl
  |some a=>exact wg4 p0 r i xs a
 |false=>
  rw[if_neg (by simp),if_neg (by simp)];exact wg4 p0 r i xs (-1)
theorem wg2 (xs:List Int):fK xs=dU xs:=by
 unfold fK dU;rw[PK,yI];cases fF xs<;>rfl
theorem PL (p0:Int)(p2:List Int)(r:List aa)(i:Int)(xs:List Int):fO p0 p2 r i xs=(dW p0 p2 r xs i).map (Sum.map Xn id):=by
 unfold fO dW;generalize decide (i<Zm.wrap (p0+3))=b1;generalize decide (i<p0)=b2;cases b1 with
 |true=>
  cases b2 with
  |true=>exact wg3 p0 p2 r i xs (decide (i<(p2.length:Int)))
  |false=>exact wg3 p0 p2 r i xs false
 |false=>
  show(fK xs).map Sum.inr=((dU xs).map Sum.inr).map _;rw[wg2];cases dU xs<;>rfl
theorem wg1 (p0:Int)(p2:List Int)(r:List aa)(xs:List Int):fP p0 p2 r xs=dX p0 p2 r xs:=by
 unfold fP dX;rw[yI];cases ff xs (r.length:Int) with
 |none=>rfl
 |some a=>
  exact(sh (f:=λs:List Int×Int=>dW p0 p2 r s.1 s.2) (g:=λs:Int×List Int=>fO p0 p2 r s.1 s.2) Xn id (λs=>PL ..) (a,0)).trans (EQ _)
theorem PM (p0:Int)(p1 p2:List Int)(r:List aa)(i:Int)(xs:List Int):fQ p0 p1 p2 r i xs=(eK p0 p1 p2 r xs i).map (Sum.map Xn id):=by
 unfold fQ eK;generalize decide (i<(p1.length:Int))=b1;cases b1 with
 | true =>
  show(idx p1 i).bind _=((idx p1 i).bind _).map _;cases idx p1 i with
  |none=>rfl
  |some a=>
   simp only[Z0];cases app 140737488355328 xs [Xk.wrap a] with
   |none=>rfl
   |some b=>rfl
 |false=>
  show(fP p0 p2 r xs).map Sum.inr=((dX p0 p2 r xs).map Sum.inr).map _;rw[wg1];cases dX p0 p2 r xs<;>rfl
theorem Hz (p0:Int)(p1 p2:List Int)(p3:List aa):jQ p0 p1 p2 p3=gF p0 p1 p2 p3:=by
 unfold jQ gF;cases eu p0 p1 p3 with
 |none=>rfl
 | some e =>
  simp only[Z0];split
  ·rfl
  ·cases fG p1 p3 with
   |none=>rfl
   | some r =>
    simp only[Z0];cases app 140737488355328 [72,65,89,49] [Xk.wrap p0,Xk.wrap (p1.length:Int)] with
    |none=>rfl
    |some z=>
     exact(sh (f:=λs:List Int×Int=>eK p0 p1 p2 r s.1 s.2) (g:=λs:Int×List Int=>fQ p0 p1 p2 r s.1 s.2) Xn id (λs=>PM ..) (z,0)).trans (EQ _)
theorem xC {a b p:Nat}(h:a^^^p=b^^^p):a=b:=by
 have:=congrArg (· ^^^p) h;simpa[Nat.xor_assoc] using this
theorem s5 {a b:Nat}(ha:a<4294967296)(hb:b<4294967296)(h:eU a=eU b):a=b:=by
 have top:∀x:Nat,x<4294967296→(eU x).testBit 31=x.testBit 0:=λx hx=>by
  unfold eU;have h1:(x/2).testBit 31=false:=Nat.testBit_lt_two_pow (by omega);rw[Nat.testBit_xor,h1];cases x.testBit 0<;>decide
 have h0:a.testBit 0=b.testBit 0:=by rw[←top a ha,←top b hb,h]
 unfold eU at h;rw[h0] at h;have h1:=xC h;rw[Nat.testBit_zero,Nat.testBit_zero] at h0
 have h2:a%2=b%2:=by
  rcases Zx a with e1|e1<;>rcases Zx b with e2|e2<;>rw[e1,e2] at h0<;>simp at h0<;>omega
 omega
theorem zJ {a b:Nat}(ha:a<4294967296)(hb:b<4294967296)(h:nF a=nF b):a=b:=by
 have k:∀a b:Nat,a<4294967296→b<4294967296→fS a=fS b→a=b:=λa b ha hb h=>
  s5 ha hb (s5 (ek ha) (ek hb) (s5 (ek (ek ha)) (ek (ek hb)) (s5 (ek (ek (ek ha))) (ek (ek (ek hb))) h)))
 exact k a b ha hb (k _ _ (dJ ha) (dJ hb) h)
theorem Dz: ∀(l:List Int) (c d:Nat),Byt l→c<4294967296→d<4294967296→l.foldl (fun c x=>nF (c^^^x.toNat)) c=l.foldl (fun c x=>nF (c^^^x.toNat)) d→c=d
 |[],c,d,_,_,_,h=>h
 |x::l,c,d,hl,hc,hd,h=>by
  have hx:=hl.head;have l1:=pf (a:=c) (b:=x.toNat) hc (by omega);have l2:=pf (a:=d) (b:=x.toNat) hd (by omega);simp only[Zo] at h;exact xC (zJ l1 l2 (Dz l _ _ hl.tail (dJ (dJ l1)) (dJ (dJ l2)) h))
theorem ER: ∀(l:List Int) (c:Nat),Byt l→c<4294967296→l.foldl (fun c x=>nF (c^^^x.toNat)) c<4294967296
 |[],c,_,h=>h
 |x::l,c,hl,hc=>by
  have hx:=hl.head;exact ER l _ hl.tail (dJ (dJ (pf hc (by omega))))
theorem KX {A R:List Int}{x y:Int}(hA:Byt A)(hR:Byt R)(hx:0≤x∧x<256)(hy:0≤y∧y<256)(h:x≠y):qN (A++x::R)≠qN (A++y::R):=by
 intro e;unfold qN ll at e;rw[Xf _ ((A++x::R).foldl _ _),Xf _ ((A++y::R).foldl _ _)] at e;have e1:=xC e;rw[List.foldl_append,List.foldl_append,Zo,Zo] at e1;have hc:=ER A 4294967295 hA (by decide);have l1:=pf (b:=x.toNat) hc (by omega);have l2:=pf (b:=y.toNat) hc (by omega);have e2:=zJ l1 l2 (Dz R _ _ hR (dJ (dJ l1)) (dJ (dJ l2)) e1);rw[Xf _ x.toNat,Xf _ y.toNat] at e2;have:=xC e2;omega
theorem DA {D F:List Int}(hF:Byt F)(h4:F.length=4)(hl:D.length<1000000000)(hne:dA F≠iW D):fg (D++F)=some (none,80):=by
 have hpl:(D++F).length=D.length+4:=by rw[Z2,h4]
 have hw:Zm.wrap (((D++F).length:Int) - 4)=(D.length:Int):=by rw[hpl,am (by omega)];omega
 obtain⟨hs1,hs2⟩:=sa (b:=D) (by omega);have e1:sub (D++F) (D.length:Int) ((D++F).length:Int)=some F:=by rw[gw (by omega),Xa]
 have e2:sub (D++F) 0 (D.length:Int)=some D:=by
  have:=d3 (xs:=D++F) (lo:=0) (hi:=D.length) (by omega) (by omega);rw[Xj] at this;exact this
 have hnum:dp F=some (dA F):=by rw[D8 hF (by omega),Z4 (by omega)]
 have hsw:Zm.wrap (iW D)=iW D:=by
  unfold U32 at hs2;rw[am (by omega)]
 unfold fg;rw[if_neg (by simp;omega),hw,e1,Z0,hnum,Z0,e2,Z0,hs1,Z0,hsw];have:(dA F != iW D)=true:=by simpa using hne
 rw[this];rfl
theorem Js {n y:Int}{k:Nat}(hn:U32 n)(hk:k<4)(hy:0≤y∧y<256)(h:(be4 n)[k]? ≠some y):dA ((be4 n).set k y)≠n:=by
 intro e;have h1:=yF hn;obtain⟨a,b,c,d,hb⟩:∃a b c d,be4 n=[a,b,c,d]:=⟨_,_,_,_,rfl⟩
 have hB:=pO n;rw[hb] at h h1 hB e;have ha:=hB.head;have hb':=hB.tail.head;have hc:=hB.tail.tail.head;have hd:=hB.tail.tail.tail.head;simp only[dA,Zo,Xi] at h1;rcases(by omega:k=0∨k=1∨k=2∨k=3) with rfl|rfl|rfl|rfl<;>simp only[dA,List.set_cons_zero,List.set_cons_succ,Zo,Xi] at e<;>simp at h<;>omega
theorem D9 {D:List Int}(hD:Byt D)(hl:D.length<1000000000){j:Nat}{x y:Int}(hj:(D++be4 (iW D))[j]? =some x)(hy:0≤y∧y<256)(hne:y≠x):fg ((D++be4 (iW D)).set j y)=some (none,80):=by
 obtain⟨_,hs2⟩:=sa (b:=D) (by omega)
 by_cases h:j<D.length
 ·rw [List.set_append_left _ _ h]
  rw[List.getElem?_append_left h] at hj;have hx:=hD x (Zu hj);refine DA (pO _) (da _) (by simpa using hl) ?_;rw[yF hs2];obtain⟨hlt,rfl⟩:=Zn.1 hj;have e1:D.set j y=D.take j++y::D.drop (j+1):=List.set_eq_take_append_cons_drop.trans (if_pos h);have e2:D=D.take j++D[j]::D.drop (j+1):=by rw[←Z3 h,Z5]
  have hA:Byt (D.take j):=λc hc=>hD c (List.mem_of_mem_take hc);have hR:Byt (D.drop (j+1)):=λc hc=>hD c (List.mem_of_mem_drop hc)
  have hB:Byt (D.set j y):=λc hc=>by
   rcases X8 hc with hc|rfl
   ·exact hD c hc
   ·exact hy
  rw[AH hD (by omega),AH hB (by simp;omega)];intro e;have e3:qN D=qN (D.set j y):=by omega
  have e4:qN (D.take j++D[j]::D.drop (j+1))=qN (D.take j++y::D.drop (j+1)):=by rw[←e1,←e2];exact e3
  exact KX hA hR hx hy (λe=>hne e.symm) e4
 ·have hle:D.length≤j:=by omega
  rw[List.set_append_right _ _ hle];rw[List.getElem?_append_right hle] at hj
  have hk:j - D.length<4:=by
   have:=(Zn.1 hj).1;rw[da] at this;exact this
  refine DA ?_ (by rw[List.length_set,da]) hl ?_
  ·intro c hc
   rcases X8 hc with hc|rfl
   ·exact pO _ c hc
   ·exact hy
  ·exact Js hs2 hk hy (by rw[hj];intro e;injection e with e;exact hne e.symm)
theorem Jt:∀(c:_root_.Fin 256) (t:_root_.Fin 8),cx .u8 (c.val:Int) (dx .u8 1 (t.val:Int))≠(c.val:Int)∧0≤cx .u8 (c.val:Int) (dx .u8 1 (t.val:Int))∧cx .u8 (c.val:Int) (dx .u8 1 (t.val:Int))<256:=by decide+kernel
theorem Ea {c:dc}{at_:Int}(h:Hy c):lg c at_=some true:=by
 unfold lg;rw[Hz];rcases BF (cols:=c.fColumns) (kinds:=c.fKinds) h.so h.ki h.ok with⟨h1,h2,_⟩|⟨hA,T,hS,hC,h2,_⟩
 ·rw [h2,Z0,if_pos (by simpa using h1)]
  unfold c8;rw[if_pos rfl,wP];rfl
 ·rw [h2,Z0,if_neg (by simp)]
  have hj1:c8 at_ (ip c.fColumns c.fSort c.fKinds T,0) true=some true:=by
   unfold c8;rw[if_pos rfl,wP];rfl
  by_cases h0:at_<0
  ·rw[if_pos (by simpa using h0),hj1]
  rw[if_neg (by simpa using h0)];obtain⟨hb1,hb2⟩:=xB (srt:=c.fSort) (kinds:=c.fKinds) hC h.so;have hpl:(ip c.fColumns c.fSort c.fKinds T).length=(iE c.fColumns c.fSort c.fKinds T).length+4:=by unfold ip;rw[Z2,da]
  obtain⟨n,rfl⟩:=Zb (Int.not_lt.1 h0);dsimp only;rw[am (n:=8*((ip c.fColumns c.fSort c.fKinds T).length:Int)) (by omega)]
  by_cases hle:8*(ip c.fColumns c.fSort c.fKinds T).length≤n
  ·rw[decide_eq_true (by omega),hj1]
  rw[decide_eq_false (by omega)];unfold c8;rw[if_neg (by simp)]
  have hd:Zm.wrap ((n:Int).tdiv 8)=((n/8:Nat):Int):=by
   rw[Int.tdiv_eq_ediv_of_nonneg (by omega),am (by omega)];omega
  have hm:(n:Int).tmod 8=((n%8:Nat):Int):=by
   rw[Int.tmod_eq_emod_of_nonneg (by omega)];omega
  have hlt:n/8<(ip c.fColumns c.fSort c.fKinds T).length:=by omega
  dsimp only;rw[hd,hm,mI hlt,Z0,Z1 hlt,Z0,decide_eq_true (by omega)];rw[show chk true=some () from rfl,Z0,Z0,Z1 hlt,Z0]
  have hB:Byt (ip c.fColumns c.fSort c.fKinds T):=by
   unfold ip;intro x hx;rcases Xg.1 hx with hx|hx
   ·exact hb1 x hx
   ·exact pO _ x hx
  have hx:=hB _ (Z9 hlt);obtain⟨q,hq⟩:=Zb hx.1;have ht:=Jt ⟨q,by omega⟩ ⟨n%8,by omega⟩;dsimp only at ht
  have hr:fg ((ip c.fColumns c.fSort c.fKinds T).set (n/8) (cx .u8 (ip c.fColumns c.fSort c.fKinds T)[n/8] (dx .u8 1 ((n%8:Nat):Int))))=some (none,80):=by
   refine D9 (x:=(ip c.fColumns c.fSort c.fKinds T)[n/8]) hb1 (by omega) (Z1 hlt) ?_ ?_
   ·rw[hq];exact ht.2
   ·rw[hq];exact ht.1
  rw[hr,Z0,wP]
  rfl
set_option maxRecDepth 100000
set_option linter.unusedSimpArgs false
open Go.Proofs Tryz
theorem mixed:prog.follows .mixedOrders=true:=by kernel_rfl
def Ap.pr (x:Ap):Int×Bool×Int×List Int:=(x.fKind,x.fBool,x.fInt,x.fText)
def kAp:Kd Ap:=oH Ap.pr (bQ (ai .i64) (bQ cO (bQ (ai .i64) qC)))
theorem Mm:Fld kAp (ai .i64) 0 (λx=>x.fKind):=bZ dm
theorem DB:StF kAp (ai .i64) 0 (λx y=>{ x with fKind:=y }):=b8 dB (λ_ _=>rfl)
theorem Mn:Fld kAp cO 1 (λx=>x.fBool):=bZ (a8 dm)
theorem Mo:StF kAp cO 1 (λx y=>{ x with fBool:=y }):=b8 (aW dB) (λ_ _=>rfl)
theorem Mp:Fld kAp (ai .i64) 2 (λx=>x.fInt):=bZ (a8 (a8 dm))
theorem DC:StF kAp (ai .i64) 2 (λx y=>{ x with fInt:=y }):=b8 (aW (aW dB)) (λ_ _=>rfl)
theorem Mq:Fld kAp qC 3 (λx=>x.fText):=bZ (a8 (a8 (a8 jb)))
theorem Mr:StF kAp qC 3 (λx y=>{ x with fText:=y }):=b8 (aW (aW (aW bm))) (λ_ _=>rfl)
def aS.pr (x:aS):Int×Ap:=(x.fMany,x.fValue)
def cw:Kd aS:=oH aS.pr (bQ (ai .i64) kAp)
theorem KY:Fld cw (ai .i64) 0 (λx=>x.fMany):=bZ dm
theorem AO:StF cw (ai .i64) 0 (λx y=>{ x with fMany:=y }):=b8 dB (λ_ _=>rfl)
theorem KZ:Fld cw kAp 1 (λx=>x.fValue):=bZ (a8 jb)
theorem ES:StF cw kAp 1 (λx y=>{ x with fValue:=y }):=b8 (aW bm) (λ_ _=>rfl)
def bK.pr (x:bK):Int×Int×Ap×Ap×Int×Int:=(x.fKind,x.fMany,x.fMin,x.fMax,x.fNulls,x.fBytes)
def cV:Kd bK:=oH bK.pr (bQ (ai .i64) (bQ (ai .i64) (bQ kAp (bQ kAp (bQ (ai .i64) (ai .i64))))))
theorem Ms:Fld cV (ai .i64) 0 (λx=>x.fKind):=bZ dm
theorem HA:StF cV (ai .i64) 0 (λx y=>{ x with fKind:=y }):=b8 dB (λ_ _=>rfl)
theorem Mt:Fld cV (ai .i64) 1 (λx=>x.fMany):=bZ (a8 dm)
theorem HB:StF cV (ai .i64) 1 (λx y=>{ x with fMany:=y }):=b8 (aW dB) (λ_ _=>rfl)
theorem Mu:Fld cV kAp 2 (λx=>x.fMin):=bZ (a8 (a8 dm))
theorem HC:StF cV kAp 2 (λx y=>{ x with fMin:=y }):=b8 (aW (aW dB)) (λ_ _=>rfl)
theorem Mv:Fld cV kAp 6 (λx=>x.fMax):=bZ (a8 (a8 (a8 dm)))
theorem HD:StF cV kAp 6 (λx y=>{ x with fMax:=y }):=b8 (aW (aW (aW dB))) (λ_ _=>rfl)
theorem Mw:Fld cV (ai .i64) 10 (λx=>x.fNulls):=bZ (a8 (a8 (a8 (a8 dm))))
theorem HE:StF cV (ai .i64) 10 (λx y=>{ x with fNulls:=y }):=b8 (aW (aW (aW (aW dB)))) (λ_ _=>rfl)
theorem Mx:Fld cV (ai .i64) 11 (λx=>x.fBytes):=bZ (a8 (a8 (a8 (a8 (a8 jb)))))
theorem My:StF cV (ai .i64) 11 (λx y=>{ x with fBytes:=y }):=b8 (aW (aW (aW (aW (aW bm))))) (λ_ _=>rfl)
def fD.pr (x:fD):Int×Ap:=(x.fMany,x.fValue)
def ru:Kd fD:=oH fD.pr (bQ (ai .i64) kAp)
theorem K0:Fld ru (ai .i64) 0 (λx=>x.fMany):=bZ dm
theorem K1:StF ru (ai .i64) 0 (λx y=>{ x with fMany:=y }):=b8 dB (λ_ _=>rfl)
theorem K2:Fld ru kAp 1 (λx=>x.fValue):=bZ (a8 jb)
theorem K3:StF ru kAp 1 (λx y=>{ x with fValue:=y }):=b8 (aW bm) (λ_ _=>rfl)
def dn.pr (x:dn):Int×Int×Ap×Ap×Int×Int:=(x.fKind,x.fMany,x.fMin,x.fMax,x.fNulls,x.fBytes)
def fz:Kd dn:=oH dn.pr (bQ (ai .i64) (bQ (ai .i64) (bQ kAp (bQ kAp (bQ (ai .i64) (ai .i64))))))
theorem Mz:Fld fz (ai .i64) 0 (λx=>x.fKind):=bZ dm
theorem MA:StF fz (ai .i64) 0 (λx y=>{ x with fKind:=y }):=b8 dB (λ_ _=>rfl)
theorem MB:Fld fz (ai .i64) 1 (λx=>x.fMany):=bZ (a8 dm)
theorem MC:StF fz (ai .i64) 1 (λx y=>{ x with fMany:=y }):=b8 (aW dB) (λ_ _=>rfl)
theorem MD:Fld fz kAp 2 (λx=>x.fMin):=bZ (a8 (a8 dm))
theorem ME:StF fz kAp 2 (λx y=>{ x with fMin:=y }):=b8 (aW (aW dB)) (λ_ _=>rfl)
theorem MG:Fld fz kAp 6 (λx=>x.fMax):=bZ (a8 (a8 (a8 dm)))
theorem MH:StF fz kAp 6 (λx y=>{ x with fMax:=y }):=b8 (aW (aW (aW dB))) (λ_ _=>rfl)
theorem MI:Fld fz (ai .i64) 10 (λx=>x.fNulls):=bZ (a8 (a8 (a8 (a8 dm))))
theorem MJ:StF fz (ai .i64) 10 (λx y=>{ x with fNulls:=y }):=b8 (aW (aW (aW (aW dB)))) (λ_ _=>rfl)
theorem MK:Fld fz (ai .i64) 11 (λx=>x.fBytes):=bZ (a8 (a8 (a8 (a8 (a8 jb)))))
theorem ML:StF fz (ai .i64) 11 (λx y=>{ x with fBytes:=y }):=b8 (aW (aW (aW (aW (aW bm))))) (λ_ _=>rfl)
def aj.pr (x:aj):List Int×Bool:=(x.fB,x.fOk)
def i9:Kd aj:=oH aj.pr (bQ (kSl (ai .u8)) cO)
theorem K4:Fld i9 (kSl (ai .u8)) 0 (λx=>x.fB):=bZ dm
theorem K5:StF i9 (kSl (ai .u8)) 0 (λx y=>{ x with fB:=y }):=b8 dB (λ_ _=>rfl)
theorem K6:Fld i9 cO 1 (λx=>x.fOk):=bZ (a8 jb)
theorem ET:StF i9 cO 1 (λx y=>{ x with fOk:=y }):=b8 (aW bm) (λ_ _=>rfl)
def aL.pr (x:aL):Int×Int:=(x.fEpoch,x.fNumber)
def bv:Kd aL:=oH aL.pr (bQ (ai .u64) (ai .u32))
theorem MM:Fld bv (ai .u64) 0 (λx=>x.fEpoch):=bZ dm
theorem wQ:StF bv (ai .u64) 0 (λx y=>{ x with fEpoch:=y }):=b8 dB (λ_ _=>rfl)
theorem MN:Fld bv (ai .u32) 1 (λx=>x.fNumber):=bZ (a8 jb)
theorem HF:StF bv (ai .u32) 1 (λx y=>{ x with fNumber:=y }):=b8 (aW bm) (λ_ _=>rfl)
def aa.pr (x:aa):aL×List Ap×Int:=(x.fId,x.fRow,x.fDeleted)
def ab:Kd aa:=oH aa.pr (bQ bv (bQ (kSl kAp) (ai .u64)))
theorem zK:Fld ab bv 0 (λx=>x.fId):=bZ dm
theorem wR:StF ab bv 0 (λx y=>{ x with fId:=y }):=b8 dB (λ_ _=>rfl)
theorem MO:Fld ab (kSl kAp) 2 (λx=>x.fRow):=bZ (a8 dm)
theorem zL:StF ab (kSl kAp) 2 (λx y=>{ x with fRow:=y }):=b8 (aW dB) (λ_ _=>rfl)
theorem MP:Fld ab (ai .u64) 3 (λx=>x.fDeleted):=bZ (a8 (a8 jb))
theorem HG:StF ab (ai .u64) 3 (λx y=>{ x with fDeleted:=y }):=b8 (aW (aW bm)) (λ_ _=>rfl)
def aI.pr (x:aI):Int×List Int×List aa:=(x.fColumns,x.fSort,x.fL)
def cd:Kd aI:=oH aI.pr (bQ (ai .i64) (bQ (kSl (ai .i64)) (kSl ab)))
theorem EU:Fld cd (ai .i64) 0 (λx=>x.fColumns):=bZ dm
theorem EW:StF cd (ai .i64) 0 (λx y=>{ x with fColumns:=y }):=b8 dB (λ_ _=>rfl)
theorem AP:Fld cd (kSl (ai .i64)) 1 (λx=>x.fSort):=bZ (a8 dm)
theorem EX:StF cd (kSl (ai .i64)) 1 (λx y=>{ x with fSort:=y }):=b8 (aW dB) (λ_ _=>rfl)
theorem rv:Fld cd (kSl ab) 2 (λx=>x.fL):=bZ (a8 (a8 jb))
theorem K7:StF cd (kSl ab) 2 (λx y=>{ x with fL:=y }):=b8 (aW (aW bm)) (λ_ _=>rfl)
def dc.pr (x:dc):Int×List Int×List Int×List aa:=(x.fColumns,x.fSort,x.fKinds,x.fL)
def bR:Kd dc:=oH dc.pr (bQ (ai .i64) (bQ (kSl (ai .i64)) (bQ (kSl (ai .i64)) (kSl ab))))
theorem MQ:Fld bR (ai .i64) 0 (λx=>x.fColumns):=bZ dm
theorem MR:StF bR (ai .i64) 0 (λx y=>{ x with fColumns:=y }):=b8 dB (λ_ _=>rfl)
theorem MS:Fld bR (kSl (ai .i64)) 1 (λx=>x.fSort):=bZ (a8 dm)
theorem MT:StF bR (kSl (ai .i64)) 1 (λx y=>{ x with fSort:=y }):=b8 (aW dB) (λ_ _=>rfl)
theorem MU:Fld bR (kSl (ai .i64)) 2 (λx=>x.fKinds):=bZ (a8 (a8 dm))
theorem MV:StF bR (kSl (ai .i64)) 2 (λx y=>{ x with fKinds:=y }):=b8 (aW (aW dB)) (λ_ _=>rfl)
theorem MW:Fld bR (kSl ab) 3 (λx=>x.fL):=bZ (a8 (a8 (a8 jb)))
theorem MX:StF bR (kSl ab) 3 (λx y=>{ x with fL:=y }):=b8 (aW (aW (aW bm))) (λ_ _=>rfl)
def Ez.pr (x:Ez):Int×List Int×List aa:=(x.fColumns,x.fSort,x.fL)
theorem DD:mS prog 32 4 40:=⟨⟨t32,_,type32,rfl,rfl,rfl,rfl⟩⟩
theorem fh:dy prog 32 kAp:=⟨sizeOf32,isAgg32⟩
def wS:List Value:=[.int .i64 0,.bool false,.int .i64 0,.string (bts [])]
theorem pR:∀m,kAp.R m wS Ap.zero:=λ_=>⟨⟨rfl,aw (by decide)⟩,⟨rfl,⟨⟨rfl,aw (by decide)⟩,⟨rfl,(by decide),(by decide)⟩⟩⟩⟩
theorem DE:cP prog 32 0 0:=cJ underlying32 rfl sizeOf3 (by decide) rfl
theorem ty3:dy prog 3 (ai .i64):=⟨sizeOf3,isAgg3⟩
theorem AQ {m:M}{cs:List Value}{x:Ap}(h:kAp.R m cs x):cs=[.int .i64 x.fKind,.bool x.fBool,.int .i64 x.fInt,.string (bts x.fText)]∧(∀n∈x.fText,0≤n∧n<256):=by
 obtain⟨h0,h1,h2,h3⟩:=h;refine⟨?_,h3.2.1⟩;rw[←Z5 1 cs,show(cs).take 1=_ from h0.1,←Z5 1 ((cs).drop 1),show((cs).drop 1).take 1=_ from h1,←Z5 1 (((cs).drop 1).drop 1),show(((cs).drop 1).drop 1).take 1=_ from h2.1,show(((cs).drop 1).drop 1).drop 1=_ from h3.1]
 rfl
theorem AR:vJ prog 32 kAp:=by
 refine⟨λm cs ds x y d w hx hy=>?_,λop o o' cs ds w=>?_⟩
 ·obtain ⟨rfl,p3⟩:=AQ hx
  obtain⟨rfl,q3⟩:=AQ hy;have e:x=y↔x.fKind=y.fKind∧x.fBool=y.fBool∧x.fInt=y.fInt∧x.fText=y.fText:=by cases x;cases y;simp
  show(Op.equalIn (d+20) 32 (.agg #[_,_,_,_]) (.agg #[_,_,_,_])).run _ _=_;rw[run_equalIn_struct w (d+19) 32 _ _ underlying32 stoodInHeld32];simp only[Program.fieldsOf,underlying32,Op.eqFields];simp[part,run_equalIn_int,run_equalIn_bool',run_equalIn_string,xe p3 q3]
  repeat' split
  all_goals simp_all
 ·show (eqGuard op 32 o o' (.agg _) (.agg _)).run _ _=_
  cases op<;>simp[eqGuard]
theorem MY:cP prog 32 1 1:=cJ underlying32 rfl sizeOf4 (by decide) rfl
theorem ty4:dy prog 4 cO:=⟨sizeOf4,isAgg4⟩
theorem uj:cP prog 32 2 2:=cJ underlying32 rfl sizeOf2 (by decide) rfl
theorem ty2:dy prog 2 (ai .i64):=⟨sizeOf2,isAgg2⟩
theorem MZ:cP prog 32 3 3:=cJ underlying32 rfl sizeOf9 (by decide) rfl
theorem el2:mS prog 2 1 8:=⟨⟨t2,_,type2,rfl,rfl,rfl,rfl⟩⟩
theorem EY:cP prog 187 1 1:=cJ underlying187 rfl sizeOf32 (by decide) rfl
theorem AS:cP prog 187 0 0:=cJ underlying187 rfl sizeOf3 (by decide) rfl
def PN:List Value:=[.int .i64 0,.int .i64 0,.bool false,.int .i64 0,.string (bts [])]
theorem F2:∀m,cw.R m PN aS.zero:=λ_=>⟨⟨rfl,aw (by decide)⟩,⟨⟨rfl,aw (by decide)⟩,⟨rfl,⟨⟨rfl,aw (by decide)⟩,⟨rfl,(by decide),(by decide)⟩⟩⟩⟩⟩
theorem JP:mS prog 187 5 48:=⟨⟨t187,_,type187,rfl,rfl,rfl,rfl⟩⟩
def zc5:List Value:=[.int .u8 0]
theorem zr5:∀m,(ai .u8).R m zc5 0:=λ_=>⟨rfl,aw (by decide)⟩
def F3:List Value:=(Zv 8 zc5).flatten
theorem PO:∀m b,GS (ai .u8) m b F3 (.slice (some ⟨b,0,none⟩) 8 8) (Zv 8 0):=λ_ _=>GS.zero zr5 rfl
theorem ty5:dy prog 5 (ai .u8):=⟨sizeOf5,isAgg5⟩
theorem el5:mS prog 5 1 1:=⟨⟨t5,_,type5,rfl,rfl,rfl,rfl⟩⟩
theorem PP:dy prog 187 cw:=⟨sizeOf187,isAgg187⟩
theorem yJ:dy prog 54 (ai .u64):=⟨sizeOf54,isAgg54⟩
theorem M0:mS prog 54 1 8:=⟨⟨t54,_,type54,rfl,rfl,rfl,rfl⟩⟩
theorem wT:dy prog 22 (kSl kAp):=⟨sizeOf22,isAgg22⟩
def vd:List Value:=[.int .i64 0,.int .i64 0,.int .i64 0,.bool false,.int .i64 0,.string (bts []),.int .i64 0,.bool false,.int .i64 0,.string (bts []),.int .i64 0,.int .i64 0]
theorem yK:∀m,cV.R m vd bK.zero:=λ_=>⟨⟨rfl,aw (by decide)⟩,⟨⟨rfl,aw (by decide)⟩,⟨⟨⟨rfl,aw (by decide)⟩,⟨rfl,⟨⟨rfl,aw (by decide)⟩,⟨rfl,(by decide),(by decide)⟩⟩⟩⟩,⟨⟨⟨rfl,aw (by decide)⟩,⟨rfl,⟨⟨rfl,aw (by decide)⟩,⟨rfl,(by decide),(by decide)⟩⟩⟩⟩,⟨⟨rfl,aw (by decide)⟩,⟨rfl,aw (by decide)⟩⟩⟩⟩⟩⟩
theorem yL:dy prog 34 cV:=⟨sizeOf34,isAgg34⟩
theorem wU:cP prog 34 4 10:=cJ underlying34 rfl sizeOf3 (by decide) rfl
def M1:List Value:=[.int .u32 0]
theorem QV:∀m,(ai .u32).R m M1 0:=λ_=>⟨rfl,aw (by decide)⟩
def F4:List Value:=(Zv 16 M1).flatten
theorem PQ:∀m b,GS (ai .u32) m b F4 (.slice (some ⟨b,0,none⟩) 16 16) (Zv 16 0):=λ_ _=>GS.zero QV rfl
theorem AT:dy prog 55 (ai .u32):=⟨sizeOf55,isAgg55⟩
theorem HH:cP prog 34 1 1:=cJ underlying34 rfl sizeOf3 (by decide) rfl
theorem DF:cP prog 34 2 2:=cJ underlying34 rfl sizeOf32 (by decide) rfl
theorem DG:cP prog 34 3 6:=cJ underlying34 rfl sizeOf32 (by decide) rfl
theorem PS:dy prog 155 ru:=⟨sizeOf155,isAgg155⟩
def PT:List Value:=[.int .i64 0,.int .i64 0,.bool false,.int .i64 0,.string (bts [])]
theorem JQ:∀m,ru.R m PT fD.zero:=λ_=>⟨⟨rfl,aw (by decide)⟩,⟨⟨rfl,aw (by decide)⟩,⟨rfl,⟨⟨rfl,aw (by decide)⟩,⟨rfl,(by decide),(by decide)⟩⟩⟩⟩⟩
theorem K8:cP prog 155 0 0:=cJ underlying155 rfl sizeOf3 (by decide) rfl
theorem PU:mS prog 155 5 48:=⟨⟨t155,_,type155,rfl,rfl,rfl,rfl⟩⟩
theorem K9:cP prog 155 1 1:=cJ underlying155 rfl sizeOf32 (by decide) rfl
def QW:List Value:=[.int .i64 0,.int .i64 0,.int .i64 0,.bool false,.int .i64 0,.string (bts []),.int .i64 0,.bool false,.int .i64 0,.string (bts []),.int .i64 0,.int .i64 0]
theorem M2:∀m,fz.R m QW dn.zero:=λ_=>⟨⟨rfl,aw (by decide)⟩,⟨⟨rfl,aw (by decide)⟩,⟨⟨⟨rfl,aw (by decide)⟩,⟨rfl,⟨⟨rfl,aw (by decide)⟩,⟨rfl,(by decide),(by decide)⟩⟩⟩⟩,⟨⟨⟨rfl,aw (by decide)⟩,⟨rfl,⟨⟨rfl,aw (by decide)⟩,⟨rfl,(by decide),(by decide)⟩⟩⟩⟩,⟨⟨rfl,aw (by decide)⟩,⟨rfl,aw (by decide)⟩⟩⟩⟩⟩⟩
theorem QX:dy prog 37 fz:=⟨sizeOf37,isAgg37⟩
theorem M3:cP prog 37 2 2:=cJ underlying37 rfl sizeOf32 (by decide) rfl
theorem M4:cP prog 37 3 6:=cJ underlying37 rfl sizeOf32 (by decide) rfl
theorem M5:cP prog 37 4 10:=cJ underlying37 rfl sizeOf3 (by decide) rfl
theorem M6:cP prog 37 1 1:=cJ underlying37 rfl sizeOf3 (by decide) rfl
theorem zM:cP prog 34 5 11:=cJ underlying34 rfl sizeOf3 (by decide) rfl
theorem La:cP prog 161 0 0:=cJ underlying161 rfl sizeOf24 (by decide) rfl
theorem Ju:dy prog 24 (kSl (ai .u8)):=⟨sizeOf24,isAgg24⟩
theorem EZ:cP prog 161 1 1:=cJ underlying161 rfl sizeOf4 (by decide) rfl
def QY:List Value:=[.int .u64 0]
theorem M7:∀m,(ai .u64).R m QY 0:=λ_=>⟨rfl,aw (by decide)⟩
def PV:List Value:=[.slice none 0 0,.bool false]
theorem JR:∀m,i9.R m PV aj.zero:=λ_=>⟨⟨none,0,0,rfl,rfl,Zl _,(by decide),rfl⟩,rfl⟩
theorem DH:cP prog 34 0 0:=cJ underlying34 rfl sizeOf3 (by decide) rfl
theorem M8:cP prog 37 5 11:=cJ underlying37 rfl sizeOf3 (by decide) rfl
theorem M9:cP prog 37 0 0:=cJ underlying37 rfl sizeOf3 (by decide) rfl
theorem JS (d:Nat)(w:World)(x y:Ap)(p0:∀n∈x.fText,0≤n∧n<256)(q0:∀n∈y.fText,0≤n∧n<256):(Op.equalIn (d+10) 32 (.agg #[.int .i64 x.fKind,.bool x.fBool,.int .i64 x.fInt,.string (bts x.fText)]) (.agg #[.int .i64 y.fKind,.bool y.fBool,.int .i64 y.fInt,.string (bts y.fText)])).run prog w= .ok (decide (x=y)) w:=by
 have e:x=y↔x.fKind=y.fKind∧x.fBool=y.fBool∧x.fInt=y.fInt∧x.fText=y.fText:=by cases x;cases y;simp
 rw[run_equalIn_struct w (d+9) 32 _ _ underlying32 stoodInHeld32];simp only[Program.fieldsOf,underlying32,Op.eqFields];simp[part,run_equalIn_int,run_equalIn_bool',run_equalIn_string,xe p0 q0]
 repeat' split
 all_goals simp_all
theorem Na {m:M}{cs:List Value}{x:dn}(h:fz.R m cs x):cs=[.int .i64 x.fKind,.int .i64 x.fMany,.int .i64 x.fMin.fKind,.bool x.fMin.fBool,.int .i64 x.fMin.fInt,.string (bts x.fMin.fText),.int .i64 x.fMax.fKind,.bool x.fMax.fBool,.int .i64 x.fMax.fInt,.string (bts x.fMax.fText),.int .i64 x.fNulls,.int .i64 x.fBytes]∧(∀n∈x.fMin.fText,0≤n∧n<256)∧(∀n∈x.fMax.fText,0≤n∧n<256):=by
 obtain⟨h0,h1,h2,h3,h4,h5⟩:=h;refine⟨?_,(AQ h2).2,(AQ h3).2⟩;rw[←Z5 1 cs,show(cs).take 1=_ from h0.1,←Z5 1 ((cs).drop 1),show((cs).drop 1).take 1=_ from h1.1,←Z5 4 (((cs).drop 1).drop 1),show(((cs).drop 1).drop 1).take 4=_ from(AQ h2).1,←Z5 4 ((((cs).drop 1).drop 1).drop 4),show((((cs).drop 1).drop 1).drop 4).take 4=_ from(AQ h3).1,←Z5 1 (((((cs).drop 1).drop 1).drop 4).drop 4),show(((((cs).drop 1).drop 1).drop 4).drop 4).take 1=_ from h4.1,show(((((cs).drop 1).drop 1).drop 4).drop 4).drop 1=_ from h5.1]
 rfl
theorem QZ:vJ prog 37 fz:=by
 refine⟨λm cs ds x y d w hx hy=>?_,λop o o' cs ds w=>?_⟩
 ·obtain ⟨rfl,p0,p1⟩:=Na hx
  obtain⟨rfl,q0,q1⟩:=Na hy;have e:x=y↔x.fKind=y.fKind∧x.fMany=y.fMany∧x.fMin=y.fMin∧x.fMax=y.fMax∧x.fNulls=y.fNulls∧x.fBytes=y.fBytes:=by cases x;cases y;simp
  have e2:=λw=>JS (d+9) w x.fMin y.fMin p0 q0;have e3:=λw=>JS (d+9) w x.fMax y.fMax p1 q1;show(Op.equalIn (d+20) 37 (.agg #[_,_,_,_,_,_,_,_,_,_,_,_]) (.agg #[_,_,_,_,_,_,_,_,_,_,_,_])).run _ _=_;rw[run_equalIn_struct w (d+19) 37 _ _ underlying37 stoodInHeld37];simp only[Program.fieldsOf,underlying37,Op.eqFields];simp[part,run_equalIn_int,run_equalIn_bool',run_equalIn_string,e2,e3]
  repeat' split
  all_goals simp_all
 ·show (eqGuard op 37 o o' (.agg _) (.agg _)).run _ _=_
  cases op<;>simp[eqGuard]
theorem fA:dy prog 59 ab:=⟨sizeOf59,isAgg59⟩
def Jv:List Value:=[.int .u64 0,.int .u32 0,.slice none 0 0,.int .u64 0]
theorem yM:∀m,ab.R m Jv aa.zero:=λ_=>⟨⟨⟨rfl,aw (by decide)⟩,⟨rfl,aw (by decide)⟩⟩,⟨⟨none,0,0,rfl,rfl,Zl _,(by decide),rfl⟩,⟨rfl,aw (by decide)⟩⟩⟩
theorem wV:cP prog 59 1 2:=cJ underlying59 rfl sizeOf22 (by decide) rfl
theorem Nb:mS prog 59 4 48:=⟨⟨t59,_,type59,rfl,rfl,rfl,rfl⟩⟩
theorem zN:cP prog 57 0 0:=cJ underlying57 rfl sizeOf54 (by decide) rfl
theorem zO:cP prog 57 1 1:=cJ underlying57 rfl sizeOf55 (by decide) rfl
theorem tL:dy prog 49 (kSl (ai .i64)):=⟨sizeOf49,isAgg49⟩
theorem qy:cP prog 59 0 0:=cJ underlying59 rfl sizeOf57 (by decide) rfl
theorem yN:dy prog 57 bv:=⟨sizeOf57,isAgg57⟩
theorem HI:cP prog 59 2 3:=cJ underlying59 rfl sizeOf54 (by decide) rfl
theorem Jw {m:M}{cs:List Value}{x:aL}(h:bv.R m cs x):cs=[.int .u64 x.fEpoch,.int .u32 x.fNumber]:=by
 obtain⟨h0,h1⟩:=h
 skip
 rw[←Z5 1 cs,show(cs).take 1=_ from h0.1,show(cs).drop 1=_ from h1.1]
 rfl
theorem Nc:vJ prog 57 bv:=by
 refine⟨λm cs ds x y d w hx hy=>?_,λop o o' cs ds w=>?_⟩
 ·obtain rfl:=Jw hx
  obtain rfl:=Jw hy;have e:x=y↔x.fEpoch=y.fEpoch∧x.fNumber=y.fNumber:=by cases x;cases y;simp
  show(Op.equalIn (d+20) 57 (.agg #[_,_]) (.agg #[_,_])).run _ _=_;rw[run_equalIn_struct w (d+19) 57 _ _ underlying57 stoodInHeld57];simp only[Program.fieldsOf,underlying57,Op.eqFields];simp[part,run_equalIn_int,run_equalIn_bool',run_equalIn_string]
  repeat' split
  all_goals simp_all
 ·show (eqGuard op 57 o o' (.agg _) (.agg _)).run _ _=_
  cases op<;>simp[eqGuard]
theorem PW:laidOutB prog=true:=by kernel_rfl
def DI (x:aL):Value:= .agg #[.int .u64 x.fEpoch,.int .u32 x.fNumber]
theorem Nd {m:M}{v:Value}{x:aL}(h:RV bv m v x):v=DI x:=by
 obtain⟨cs,h,rfl⟩:=h;obtain rfl:=Jw h
 rfl
theorem Q0 {m:M}{v:Value}{x:aL}(h:RV bv m v x):∃l,keyOf prog 57 v=some l:=by
 rw[Nd h];obtain⟨cs,h,rfl⟩:=h;obtain⟨h0,h1⟩:=h;exact Gw (d:=250) underlying57 (by decide) underlying54 underlying55 rfl rfl (by kernel_rfl) (by kernel_rfl) (by kernel_rfl) (by kernel_rfl) (by kernel_rfl) (JC h0.2) (JC h1.2)
theorem Q1 {x y:aL}(h:DI x=DI y):x=y:=by
 obtain⟨a0,a1⟩:=x;obtain⟨b0,b1⟩:=y;simp[DI] at h;simp[h]
noncomputable def F5:CA prog 57 bv:=⟨DI,Nd,Q1,deep_law_laid PW (m:=2) (by omega) (of_decide_eq_true (by kernel_rfl)) (by kernel_rfl) (by rw[underlying57]),Q0⟩
def s6:List Value:=[.int .i64 0,.slice none 0 0,.slice none 0 0]
theorem Ca:∀m,cd.R m s6 aI.zero:=λ_=>⟨⟨rfl,aw (by decide)⟩,⟨⟨none,0,0,rfl,rfl,Zl _,(by decide),rfl⟩,⟨none,0,0,rfl,rfl,Zl _,(by decide),rfl⟩⟩⟩
theorem PX:dy prog 178 kA4:=⟨sizeOf178,isAgg178⟩
theorem PY:vJ prog 178 kA4:=QO underlying178 type5 (by kernel_rfl) underlying5 isAgg5 (by kernel_rfl)
theorem oE:cP prog 120 0 0:=cJ underlying120 rfl sizeOf3 (by decide) rfl
theorem pS:cP prog 120 1 1:=cJ underlying120 rfl sizeOf49 (by decide) rfl
theorem el3:mS prog 3 1 8:=⟨⟨t3,_,type3,rfl,rfl,rfl,rfl⟩⟩
theorem oF:cP prog 120 2 2:=cJ underlying120 rfl sizeOf50 (by decide) rfl
theorem AU:dy prog 50 (kSl ab):=⟨sizeOf50,isAgg50⟩
def Q2:List Value:=[.int .u64 0,.int .u32 0]
theorem DJ:∀m,bv.R m Q2 aL.zero:=λ_=>⟨⟨rfl,aw (by decide)⟩,⟨rfl,aw (by decide)⟩⟩
theorem HJ:cP prog 62 3 3:=cJ underlying62 rfl sizeOf50 (by decide) rfl
theorem HK:cP prog 62 0 0:=cJ underlying62 rfl sizeOf3 (by decide) rfl
theorem HL:cP prog 62 1 1:=cJ underlying62 rfl sizeOf49 (by decide) rfl
theorem HM:cP prog 62 2 2:=cJ underlying62 rfl sizeOf49 (by decide) rfl
open Go.Proofs Go.Shelf Go.Lib
open Go.Sort (putRowK flatK HoldsK SWO PermIn SortedIn)

section
variable {P:Program}{W0:Bse}{m:M}{L:List (Nat×List Value)}{TL:List (Nat×Value)}{w:World}{α:Type}{k:Kd α}{b:Nat}{cs:List Value}{xs:List α}
theorem S.rebase (h:S W0 m w L TL):S ⟨w,fun _=>none⟩ m w [] []:=
 ⟨⟨Bel.refl _ _,λk o h=>by cases h⟩,h.imm,λi e he=>by simp at he,λi j e e' he=>by simp at he,λi e he=>by simp at he,λi j e e' he=>by simp at he⟩
theorem Nf (l:List (El k m xs)):Rl k m (l.flatMap λa=>a.1.1) (l.map λa=>a.1.2):=by
 induction l with
 |nil=>exact Rl.nil
 |cons a r ih=>exact Rl.app (Rl.single a.2.1) ih
theorem F6 {ρ:Ren} {v fv:Value} {cmp:α→α→Option Int} {r:List α} (Ly:SlLaysF0.n6 P ρ) (aE: ∀w,(isAgg (ρ.t 24)).run P w= .ok true w) (zE: ∀w,(Go.sizeOf (ρ.t 24)).run P w= .ok k.sz w) (hagg:k.agg=true)
  (hS:S W0 m w ((b,cs)::L) TL) (hg:GS k m b cs v xs) (hf:Fn2 P k k (ai .i64) m fv cmp) (h:xg cmp xs=some r):
  Calls P (ρ.f 6) [v,fv].toArray w (Ret λ_ w'=>∃m',M.le m m'∧∃q0:List Value,S W0 m' w' ((b,q0)::L) TL∧GS k m' b q0 v r):=by
 obtain⟨g,cb,rfl,eg,hcall⟩:=hf;obtain⟨hgood,hperm,hpw⟩:=yV h;have hrl:r.length=xs.length:=hperm.length_eq
 by_cases hx:xs=[]
 ·subst hx
  have hr:r=[]:=Zh hrl;subst hr;obtain⟨a,cap,rfl,_⟩:=hg.val;refine(AnyF.slices_SortFunc_none Ly a cap (.func (.func g) #[] cb) w).mono ?_;rintro e w' ⟨rfl,rfl⟩;exact⟨m,M.le.refl m,cs,hS,hg⟩
 ·have hg':=hg
  obtain⟨h0,⟨rfl,_⟩|⟨cap,rfl,h2,h3,h4⟩⟩:=hg
  ·exact absurd rfl hx
  have hn:0<xs.length:=List.length_pos_iff.2 hx;have hp:=k.pos;have hle:xs.length*k.sz≤cap*k.sz:=Nat.mul_le_mul_right _ h2;have hpos:0<xs.length*k.sz:=Nat.mul_pos hn hp;have hne:cs≠[]:=λe=>by subst e;simp at h3;omega
  obtain⟨dl,hd1,hd2⟩:=E4 h4
  have hdl:dl.length=xs.length:=by
   have:=congrArg List.length hd1;simpa using this
  obtain⟨hB,hm,t,ht⟩:=hS.own 0 _ rfl hne;simp only at hB hm ht;have hi:Inhabited (El k m xs):=⟨dl[0]'(by omega)⟩
  have hblk:b<w.heap.size:=(Array.getElem?_eq_some_iff.1 ht).1
  -- the worlds of the sort
  have hworld:∀(mm:Nat) (os:Array Obj) (dk:Array (El k m xs)),dk.size=xs.length→sortWorldK (λa:El k m xs=>a.1.1) k.sz w b 0 mm dk os=Go.Sort.grow ((Go.Sort.ahead w mm).setRow b (((dk.toList.flatMap λa=>a.1.1)++cs.drop (xs.length*k.sz)).toArray)) os:=by
   intro mm os dk hdk;unfold sortWorldK;rw[Gp _ _ (Go.Sort.ahead w mm) b cs t dk ht (by rw[hdk];omega),Cs,hdk]
  have hSw:∀(mm:Nat) (os:Array Obj) (q:List Value),S W0 m (Go.Sort.grow ((Go.Sort.ahead w mm).setRow b q.toArray) os) ((b,q)::L) TL:=λmm os q=>((hS.aheadN mm).setL (i:=0) rfl hne q).more os;have hcf:∀x y:El k m xs,∃c,cmp x.1.2 y.1.2=some c∧inR .i64 c:=λx y=>hgood.1 _ x.2.2 _ y.2.2
  have hcmp:CmpLays P g cb (λa:El k m xs=>a.1.1) k.sz (λx y=>(cmp x.1.2 y.1.2).getD 0) b 0 dl.toArray.size w:=by
   intro mm os dk hdk x y;rw[hworld mm os dk (by rw[hdk];simpa using hdl)];generalize hw1:Go.Sort.grow ((Go.Sort.ahead w mm).setRow b _) os=w1;have hS1:=(hSw mm os ((dk.toList.flatMap λa=>a.1.1)++cs.drop (xs.length*k.sz))).rebase;rw[hw1] at hS1;obtain⟨c,hc,_⟩:=hcf x y;have hv:∀z:El k m xs,Value.agg z.1.1.toArray=k.val z.1.1:=λz=>by simp[Kd.val,hagg]
   rw[hv x,hv y];refine(hcall ⟨w1,λ_=>none⟩ m w1 [] [] _ _ x.1.2 y.1.2 c (M.le.refl m) hS1 ⟨_,x.2.1,rfl⟩ ⟨_,y.2.1,rfl⟩ hc).mono ?_;intro e w' he;cases e with
   |returned u=>
    obtain⟨m',_,hS2,hu⟩:=he;obtain⟨rfl,_⟩:=aG hu;exact⟨by simp[hc],Cr hS2.below.toBel⟩
   |panicked ch=>exact he.elim
   |outgrown=>exact he.elim
  have hO:SWO (ltOf λx y:El k m xs=>(cmp x.1.2 y.1.2).getD 0):=by
   refine⟨λx=>?_,λx y z h1 h2=>?_,λx y z h1 h2=>?_⟩
   ·simp only[ltOf,decide_eq_false_iff_not];exact hgood.2.1 _ x.2.2
   ·simp only[ltOf,decide_eq_true_eq] at*;exact hgood.2.2.1 _ x.2.2 _ y.2.2 _ z.2.2 h1 h2
   ·simp only[ltOf,decide_eq_false_iff_not] at*;exact hgood.2.2.2.1 _ x.2.2 _ y.2.2 _ z.2.2 h1 h2
  have hH:HoldsK (λa:El k m xs=>a.1.1) k.sz w b 0 dl.toArray:=by
   intro j hj;have hj':j<xs.length*k.sz:=by simpa[hdl] using hj
   have hfl:=Cs dl.toArray
   have e1:(flatK (λa:El k m xs=>a.1.1) k.sz dl.toArray)[j]! =cs[j]'(by omega):=by
    rw[getElem!_pos _ j (by simpa[hdl] using hj')]
    have:(flatK (λa:El k m xs=>a.1.1) k.sz dl.toArray).toList[j]? =cs[j]? :=by
     rw[hfl];show(dl.flatMap _)[j]? =_;rw[hd2,List.getElem?_take,if_pos hj']
    rw[Z1 (by simpa[hdl] using hj'),Z1 (by omega)] at this;injection this with this
   refine⟨?_,?_⟩
   ·rw [e1]
    simp[World.cell?,ht,show j<cs.length by omega]
   ·simp[World.frozen?,ht]
  have hcon:=AnyQ.slices_SortFunc Ly k.sz aE zE (λa:El k m xs=>a.1.1) (λx=>k.len x.2.1) (λx v hv=>k.one x.2.1 v hv) (λx y=>(cmp x.1.2 y.1.2).getD 0) hO g cb b 0 cap dl.toArray w eg hcmp hH hblk (by have:xs.length≤281474976710656:=h0;simp[hdl];omega);have hds:dl.toArray.size=xs.length:=by simpa using hdl
  rw[hds] at hcon;refine hcon.mono ?_;rintro e w' ⟨rfl,d',n,os,hpi,hso,rfl⟩;have hd's:d'.size=xs.length:=by rw[hpi.1,hds]
  rw[hworld n os d' hd's];refine⟨m,M.le.refl m,_,hSw n os _,?_⟩;have hR:=Nf d'.toList
  have hmap:(d'.toList.map λa=>a.1.2)=r:=by
   have hp1:(d'.toList.map λa=>a.1.2).Perm xs:=by
    have:=hpi.2.2;rw[←hd's,Array.extract_size] at this;rw[hd's,←hds,Array.extract_size] at this;have h9:=this.map (λa:El k m xs=>a.1.2);rw[List.toList_toArray,hd1] at h9;exact h9
   have hpw1:(d'.toList.map λa=>a.1.2).Pairwise (λx y=> ¬ (cmp y x).getD 0<0):=by
    rw[List.pairwise_map,X7];intro i j hi' hj' hij;have:=hso i j (Nat.zero_le _) hij (by simpa[hd's] using hj');rw[getElem!_pos d' i (by simpa using hi'),getElem!_pos d' j (by simpa using hj')] at this;simpa[ltOf] using this
   refine List.Perm.eq_of_pairwise (le:=λx y=> ¬ (cmp y x).getD 0<0) ?_ hpw1 hpw (hp1.trans hperm.symm);intro x y hx' hy' h1 h2;exact hgood.2.2.2.2 x (hp1.mem_iff.1 hx') y (hperm.mem_iff.1 hy') h2 h1
  have hfl:(d'.toList.flatMap λa=>a.1.1).length=xs.length*k.sz:=by
   have:=hR.1;simpa[hd's] using this
  refine⟨by rw[hrl];exact h0,.inr ⟨cap,by rw[hrl],by rw[hrl];exact h2,by simp[hfl];omega,?_⟩⟩;rw[hrl,List.take_append_of_le_length (by omega),Z4 (by omega),←hmap];exact hR
end
open Go.Proofs Tryz
def xT:Go.Shelf.Ren:=⟨fun|6=>148|15=>152|14=>178|28=>179|29=>154|20=>186|21=>187|22=>188|23=>189|24=>190|25=>191|26=>192|27=>193|46=>199|47=>200|48=>201|49=>202|50=>203|57=>204|n=>n,fun|22=>22|24=>32|25=>134|3=>3|39=>94|0=>0|53=>55|55=>54|4=>4|46=>219|45=>218|50=>78|5=>5|9=>9|66=>228|70=>231|76=>233|77=>234|n=>n,λn=>n⟩
theorem Lb:SlLaysF0.n6 prog xT:={
 mixed:=by kernel_rfl
 f6:=⟨f148.name,by decide,func148.trans (congrArg some (by kernel_rfl))⟩
 f14:=⟨f178.name,by decide,func178.trans (congrArg some (by kernel_rfl))⟩
 f15:=func152.trans (congrArg some (by kernel_rfl))
 f20:=⟨f186.name,by decide,func186.trans (congrArg some (by kernel_rfl))⟩
 f21:=⟨f187.name,by decide,func187.trans (congrArg some (by kernel_rfl))⟩
 f22:=⟨f188.name,by decide,func188.trans (congrArg some (by kernel_rfl))⟩
 f23:=⟨f189.name,by decide,func189.trans (congrArg some (by kernel_rfl))⟩
 f24:=⟨f190.name,by decide,func190.trans (congrArg some (by kernel_rfl))⟩
 f25:=⟨f191.name,by decide,func191.trans (congrArg some (by kernel_rfl))⟩
 f26:=⟨f192.name,by decide,func192.trans (congrArg some (by kernel_rfl))⟩
 f27:=⟨f193.name,by decide,func193.trans (congrArg some (by kernel_rfl))⟩
 f28:=func179.trans (congrArg some (by kernel_rfl))
 f29:=func154.trans (congrArg some (by kernel_rfl))
 f46:=⟨f199.name,by decide,func199.trans (congrArg some (by kernel_rfl))⟩
 f47:=func200.trans (congrArg some (by kernel_rfl))
 f48:=func201.trans (congrArg some (by kernel_rfl))
 f49:=⟨f202.name,by decide,func202.trans (congrArg some (by kernel_rfl))⟩
 f50:=⟨f203.name,by decide,func203.trans (congrArg some (by kernel_rfl))⟩
 f57:=⟨f204.name,by decide,func204.trans (congrArg some (by kernel_rfl))⟩
 t0:=underlying0
 a0:=isAgg0
 z0:=sizeOf0
 v0:=zeroValue0
 t3:=underlying3
 a3:=isAgg3
 z3:=sizeOf3
 v3:=zeroValue3
 t4:=underlying4
 a4:=isAgg4
 z4:=sizeOf4
 v4:=zeroValue4
 t5:=underlying5
 a5:=isAgg5
 z5:=sizeOf5
 v5:=zeroValue5
 t9:=underlying9
 a9:=isAgg9
 z9:=sizeOf9
 v9:=zeroValue9
 t22:=underlying22
 a22:=isAgg22
 z22:=sizeOf22
 v22:=zeroValue22
 t25:=underlying134
 a25:=isAgg134
 z25:=sizeOf134
 v25:=zeroValue134
 t39:=underlying94
 a39:=isAgg94
 z39:=sizeOf94
 v39:=zeroValue94
 t45:=underlying218
 a45:=isAgg218
 z45:=sizeOf218
 v45:=zeroValue218
 t46:=underlying219
 a46:=isAgg219
 z46:=sizeOf219
 v46:=zeroValue219
 t50:=underlying78
 a50:=isAgg78
 z50:=sizeOf78
 v50:=zeroValue78
 t53:=underlying55
 a53:=isAgg55
 z53:=sizeOf55
 v53:=zeroValue55
 t55:=underlying54
 a55:=isAgg54
 z55:=sizeOf54
 v55:=zeroValue54
 t66:=underlying228
 a66:=isAgg228
 z66:=sizeOf228
 v66:=zeroValue228
 t70:=underlying231
 a70:=isAgg231
 z70:=sizeOf231
 v70:=zeroValue231
 t76:=underlying233
 a76:=isAgg233
 z76:=sizeOf233
 v76:=zeroValue233
 t77:=underlying234
 a77:=isAgg234
 z77:=sizeOf234
 v77:=zeroValue234
}
set_option maxRecDepth 100000
open Go.Proofs Tryz
theorem PZ:dy prog 161 i9:=⟨sizeOf161,isAgg161⟩
theorem Q3:dy prog 62 bR:=⟨sizeOf62,isAgg62⟩
def Q4:List Value:=[.int .i64 0,.slice none 0 0,.slice none 0 0,.slice none 0 0]
theorem Ng:∀m,bR.R m Q4 dc.zero:=λ_=>⟨⟨rfl,aw (by decide)⟩,⟨⟨none,0,0,rfl,rfl,Zl _,(by decide),rfl⟩,⟨⟨none,0,0,rfl,rfl,Zl _,(by decide),rfl⟩,⟨none,0,0,rfl,rfl,Zl _,(by decide),rfl⟩⟩⟩⟩
theorem P0:dy prog 120 cd:=⟨sizeOf120,isAgg120⟩
theorem Q5:mS prog 22 1 24:=⟨⟨t22,_,type22,rfl,rfl,rfl,rfl⟩⟩
noncomputable def Sz:Sg:=QR [(32,⟨Ap,kAp⟩),(57,⟨aL,bv⟩),(59,⟨aa,ab⟩),(187,⟨aS,cw⟩),(34,⟨bK,cV⟩),(155,⟨fD,ru⟩),(37,⟨dn,fz⟩),(120,⟨aI,cd⟩),(161,⟨aj,i9⟩),(62,⟨dc,bR⟩)]
noncomputable def ti2:TI prog Sz 2:=oK underlying2 sizeOf2 isAgg2 zeroValue2 rfl (by decide)
noncomputable def ti3:TI prog Sz 3:=oK underlying3 sizeOf3 isAgg3 zeroValue3 rfl (by decide)
noncomputable def ti4:TI prog Sz 4:=LY underlying4 sizeOf4 isAgg4 zeroValue4 rfl
noncomputable def ti5:TI prog Sz 5:=oK underlying5 sizeOf5 isAgg5 zeroValue5 rfl (by decide)
noncomputable def ti6:TI prog Sz 6:=oK underlying6 sizeOf6 isAgg6 zeroValue6 rfl (by decide)
noncomputable def ti9:TI prog Sz 9:=Ft underlying9 sizeOf9 isAgg9 zeroValue9 rfl
noncomputable def Q6:TI prog Sz 10:=Ft underlying10 sizeOf10 isAgg10 zeroValue10 rfl
noncomputable def Q7:TI prog Sz 11:=Ft underlying11 sizeOf11 isAgg11 zeroValue11 rfl
noncomputable def Q8:TI prog Sz 12:=oK underlying12 sizeOf12 isAgg12 zeroValue12 rfl (by decide)
noncomputable def Q9:TI prog Sz 21:=oK underlying21 sizeOf21 isAgg21 zeroValue21 rfl (by decide)
noncomputable def Ra:TI prog Sz 25:=oK underlying25 sizeOf25 isAgg25 zeroValue25 rfl (by decide)
noncomputable def Nh:TI prog Sz 54:=oK underlying54 sizeOf54 isAgg54 zeroValue54 rfl (by decide)
noncomputable def Ni:TI prog Sz 55:=oK underlying55 sizeOf55 isAgg55 zeroValue55 rfl (by decide)
noncomputable def Rb:TI prog Sz 94:=oK underlying94 sizeOf94 isAgg94 zeroValue94 rfl (by decide)
noncomputable def P1:TI prog Sz 218:=oK underlying218 sizeOf218 isAgg218 zeroValue218 rfl (by decide)
noncomputable def Rc:TI prog Sz 24:=uE _ (slI ti5 _ 1 underlying24 sizeOf5 el5 type5 rfl rfl rfl) sizeOf24 isAgg24 zeroValue24 rfl
noncomputable def Nj:TI prog Sz 32:=tf fh zeroValue32 Ap.zero pR
noncomputable def Re:TI prog Sz 49:=uE _ (slI ti3 _ 8 underlying49 sizeOf3 el3 type3 rfl rfl rfl) sizeOf49 isAgg49 zeroValue49 rfl
noncomputable def Rf:TI prog Sz 57:=tf yN zeroValue57 aL.zero DJ
noncomputable def P2:TI prog Sz 143:=uE _ (slI ti2 _ 8 underlying143 sizeOf2 el2 type2 rfl rfl rfl) sizeOf143 isAgg143 zeroValue143 rfl
noncomputable def P3:TI prog Sz 189:=uE _ (slI Nh _ 8 underlying189 sizeOf54 M0 type54 rfl rfl rfl) sizeOf189 isAgg189 zeroValue189 rfl
noncomputable def Nk:TI prog Sz 22:=uE _ (slI Nj _ 40 underlying22 sizeOf32 DD type32 rfl rfl rfl) sizeOf22 isAgg22 zeroValue22 rfl
noncomputable def Rg:TI prog Sz 34:=tf yL zeroValue34 bK.zero yK
noncomputable def Rh:TI prog Sz 37:=tf QX zeroValue37 dn.zero M2
noncomputable def JT:TI prog Sz 155:=tf PS zeroValue155 fD.zero JQ
noncomputable def P4:TI prog Sz 161:=tf PZ zeroValue161 aj.zero JR
noncomputable def JU:TI prog Sz 187:=tf PP zeroValue187 aS.zero F2
noncomputable def Nl:TI prog Sz 59:=tf fA zeroValue59 aa.zero yM
noncomputable def P5:TI prog Sz 126:=uE _ (slI Nk _ 24 underlying126 sizeOf22 Q5 type22 rfl rfl rfl) sizeOf126 isAgg126 zeroValue126 rfl
noncomputable def P6:TI prog Sz 152:=uE _ (slI JT _ 48 underlying152 sizeOf155 PU type155 rfl rfl rfl) sizeOf152 isAgg152 zeroValue152 rfl
noncomputable def P7:TI prog Sz 185:=uE _ (slI JU _ 48 underlying185 sizeOf187 JP type187 rfl rfl rfl) sizeOf185 isAgg185 zeroValue185 rfl
noncomputable def Ri:TI prog Sz 50:=uE _ (slI Nl _ 48 underlying50 sizeOf59 Nb type59 rfl rfl rfl) sizeOf50 isAgg50 zeroValue50 rfl
noncomputable def Rj:TI prog Sz 62:=tf Q3 zeroValue62 dc.zero Ng
noncomputable def P8:TI prog Sz 120:=tf P0 zeroValue120 aI.zero Ca
noncomputable def P9:AI prog Sz 177:=arI Ni 16 underlying177 sizeOf55 zeroValue177 rfl rfl
noncomputable def Qa:AI prog Sz 178:=arI ti5 4 underlying178 sizeOf5 zeroValue178 rfl rfl
noncomputable def Qb:AI prog Sz 224:=arI ti5 8 underlying224 sizeOf5 zeroValue224 rfl rfl
noncomputable def Nm:FI prog Sz 32 0:=⟨(.int .i64),⟨0,λx=>x.fKind,λx y=>{ x with fKind:=y },Mm,DB⟩,DE⟩
noncomputable def Nn:FI prog Sz 32 1:=⟨.bool,⟨1,λx=>x.fBool,λx y=>{ x with fBool:=y },Mn,Mo⟩,MY⟩
noncomputable def No:FI prog Sz 32 2:=⟨(.int .i64),⟨2,λx=>x.fInt,λx y=>{ x with fInt:=y },Mp,DC⟩,uj⟩
noncomputable def Np:FI prog Sz 32 3:=⟨.str,⟨3,λx=>x.fText,λx y=>{ x with fText:=y },Mq,Mr⟩,MZ⟩
noncomputable def Rk:BI prog Sz 32:=⟨_,[(0,1),(1,1),(2,1),(3,1)],Ap.zero,_,underlying32,rfl,zeroValue32,pR,rfl⟩
noncomputable def Nq:FI prog Sz 57 0:=⟨(.int .u64),⟨0,λx=>x.fEpoch,λx y=>{ x with fEpoch:=y },MM,wQ⟩,zN⟩
noncomputable def Nr:FI prog Sz 57 1:=⟨(.int .u32),⟨1,λx=>x.fNumber,λx y=>{ x with fNumber:=y },MN,HF⟩,zO⟩
noncomputable def Rn:BI prog Sz 57:=⟨_,[(0,1),(1,1)],aL.zero,_,underlying57,rfl,zeroValue57,DJ,rfl⟩
noncomputable def Ns:FI prog Sz 59 0:=⟨(.st 57),⟨0,λx=>x.fId,λx y=>{ x with fId:=y },zK,wR⟩,qy⟩
noncomputable def Nt:FI prog Sz 59 1:=⟨(.sl (.st 32)),⟨2,λx=>x.fRow,λx y=>{ x with fRow:=y },MO,zL⟩,wV⟩
noncomputable def Nu:FI prog Sz 59 2:=⟨(.int .u64),⟨3,λx=>x.fDeleted,λx y=>{ x with fDeleted:=y },MP,HG⟩,HI⟩
noncomputable def Ro:BI prog Sz 59:=⟨_,[(0,2),(2,1),(3,1)],aa.zero,_,underlying59,rfl,zeroValue59,yM,rfl⟩
noncomputable def Ld:FI prog Sz 187 0:=⟨(.int .i64),⟨0,λx=>x.fMany,λx y=>{ x with fMany:=y },KY,AO⟩,AS⟩
noncomputable def Le:FI prog Sz 187 1:=⟨(.st 32),⟨1,λx=>x.fValue,λx y=>{ x with fValue:=y },KZ,ES⟩,EY⟩
noncomputable def Qc:BI prog Sz 187:=⟨_,[(0,1),(1,4)],aS.zero,_,underlying187,rfl,zeroValue187,F2,rfl⟩
noncomputable def Nv:FI prog Sz 34 0:=⟨(.int .i64),⟨0,λx=>x.fKind,λx y=>{ x with fKind:=y },Ms,HA⟩,DH⟩
noncomputable def Nw:FI prog Sz 34 1:=⟨(.int .i64),⟨1,λx=>x.fMany,λx y=>{ x with fMany:=y },Mt,HB⟩,HH⟩
noncomputable def Nx:FI prog Sz 34 2:=⟨(.st 32),⟨2,λx=>x.fMin,λx y=>{ x with fMin:=y },Mu,HC⟩,DF⟩
noncomputable def Ny:FI prog Sz 34 3:=⟨(.st 32),⟨6,λx=>x.fMax,λx y=>{ x with fMax:=y },Mv,HD⟩,DG⟩
noncomputable def Nz:FI prog Sz 34 4:=⟨(.int .i64),⟨10,λx=>x.fNulls,λx y=>{ x with fNulls:=y },Mw,HE⟩,wU⟩
noncomputable def NA:FI prog Sz 34 5:=⟨(.int .i64),⟨11,λx=>x.fBytes,λx y=>{ x with fBytes:=y },Mx,My⟩,zM⟩
noncomputable def Rp:BI prog Sz 34:=⟨_,[(0,1),(1,1),(2,4),(6,4),(10,1),(11,1)],bK.zero,_,underlying34,rfl,zeroValue34,yK,rfl⟩
noncomputable def Lf:FI prog Sz 155 0:=⟨(.int .i64),⟨0,λx=>x.fMany,λx y=>{ x with fMany:=y },K0,K1⟩,K8⟩
noncomputable def Lg:FI prog Sz 155 1:=⟨(.st 32),⟨1,λx=>x.fValue,λx y=>{ x with fValue:=y },K2,K3⟩,K9⟩
noncomputable def Qd:BI prog Sz 155:=⟨_,[(0,1),(1,4)],fD.zero,_,underlying155,rfl,zeroValue155,JQ,rfl⟩
noncomputable def NB:FI prog Sz 37 0:=⟨(.int .i64),⟨0,λx=>x.fKind,λx y=>{ x with fKind:=y },Mz,MA⟩,M9⟩
noncomputable def NC:FI prog Sz 37 1:=⟨(.int .i64),⟨1,λx=>x.fMany,λx y=>{ x with fMany:=y },MB,MC⟩,M6⟩
noncomputable def ND:FI prog Sz 37 2:=⟨(.st 32),⟨2,λx=>x.fMin,λx y=>{ x with fMin:=y },MD,ME⟩,M3⟩
noncomputable def NE:FI prog Sz 37 3:=⟨(.st 32),⟨6,λx=>x.fMax,λx y=>{ x with fMax:=y },MG,MH⟩,M4⟩
noncomputable def NF:FI prog Sz 37 4:=⟨(.int .i64),⟨10,λx=>x.fNulls,λx y=>{ x with fNulls:=y },MI,MJ⟩,M5⟩
noncomputable def NG:FI prog Sz 37 5:=⟨(.int .i64),⟨11,λx=>x.fBytes,λx y=>{ x with fBytes:=y },MK,ML⟩,M8⟩
noncomputable def Rq:BI prog Sz 37:=⟨_,[(0,1),(1,1),(2,4),(6,4),(10,1),(11,1)],dn.zero,_,underlying37,rfl,zeroValue37,M2,rfl⟩
noncomputable def Lh:FI prog Sz 120 0:=⟨(.int .i64),⟨0,λx=>x.fColumns,λx y=>{ x with fColumns:=y },EU,EW⟩,oE⟩
noncomputable def Li:FI prog Sz 120 1:=⟨(.sl (.int .i64)),⟨1,λx=>x.fSort,λx y=>{ x with fSort:=y },AP,EX⟩,pS⟩
noncomputable def Lj:FI prog Sz 120 2:=⟨(.sl (.st 59)),⟨2,λx=>x.fL,λx y=>{ x with fL:=y },rv,K7⟩,oF⟩
noncomputable def Qe:BI prog Sz 120:=⟨_,[(0,1),(1,1),(2,1)],aI.zero,_,underlying120,rfl,zeroValue120,Ca,rfl⟩
noncomputable def Lk:FI prog Sz 161 0:=⟨(.sl (.int .u8)),⟨0,λx=>x.fB,λx y=>{ x with fB:=y },K4,K5⟩,La⟩
noncomputable def Ll:FI prog Sz 161 1:=⟨.bool,⟨1,λx=>x.fOk,λx y=>{ x with fOk:=y },K6,ET⟩,EZ⟩
noncomputable def Qf:BI prog Sz 161:=⟨_,[(0,1),(1,1)],aj.zero,_,underlying161,rfl,zeroValue161,JR,rfl⟩
noncomputable def NH:FI prog Sz 62 0:=⟨(.int .i64),⟨0,λx=>x.fColumns,λx y=>{ x with fColumns:=y },MQ,MR⟩,HK⟩
noncomputable def NI:FI prog Sz 62 1:=⟨(.sl (.int .i64)),⟨1,λx=>x.fSort,λx y=>{ x with fSort:=y },MS,MT⟩,HL⟩
noncomputable def NJ:FI prog Sz 62 2:=⟨(.sl (.int .i64)),⟨2,λx=>x.fKinds,λx y=>{ x with fKinds:=y },MU,MV⟩,HM⟩
noncomputable def NK:FI prog Sz 62 3:=⟨(.sl (.st 59)),⟨3,λx=>x.fL,λx y=>{ x with fL:=y },MW,MX⟩,HJ⟩
noncomputable def Rr:BI prog Sz 62:=⟨_,[(0,1),(1,1),(2,1),(3,1)],dc.zero,_,underlying62,rfl,zeroValue62,Ng,rfl⟩
noncomputable def NL:EI prog Sz 32:=⟨inferInstanceAs (DecidableEq Ap),AR,rfl⟩
noncomputable def NM:EI prog Sz 57:=⟨inferInstanceAs (DecidableEq aL),Nc,rfl⟩
noncomputable def NN:EI prog Sz 37:=⟨inferInstanceAs (DecidableEq dn),QZ,rfl⟩
noncomputable def Γ:Tab prog Sz:=⟨za [⟨2,ti2⟩,⟨3,ti3⟩,⟨4,ti4⟩,⟨5,ti5⟩,⟨6,ti6⟩,⟨9,ti9⟩,⟨10,Q6⟩,⟨11,Q7⟩,⟨12,Q8⟩,⟨21,Q9⟩,⟨22,Nk⟩,⟨24,Rc⟩,⟨25,Ra⟩,⟨32,Nj⟩,⟨34,Rg⟩,⟨37,Rh⟩,⟨49,Re⟩,⟨50,Ri⟩,⟨54,Nh⟩,⟨55,Ni⟩,⟨57,Rf⟩,⟨59,Nl⟩,⟨62,Rj⟩,⟨94,Rb⟩,⟨120,P8⟩,⟨126,P5⟩,⟨143,P2⟩,⟨152,P6⟩,⟨155,JT⟩,⟨161,P4⟩,⟨185,P7⟩,⟨187,JU⟩,⟨189,P3⟩,⟨218,P1⟩],za [⟨177,P9⟩,⟨178,Qa⟩,⟨224,Qb⟩],CY [⟨32,0,Nm⟩,⟨32,1,Nn⟩,⟨32,2,No⟩,⟨32,3,Np⟩,⟨57,0,Nq⟩,⟨57,1,Nr⟩,⟨59,0,Ns⟩,⟨59,1,Nt⟩,⟨59,2,Nu⟩,⟨187,0,Ld⟩,⟨187,1,Le⟩,⟨34,0,Nv⟩,⟨34,1,Nw⟩,⟨34,2,Nx⟩,⟨34,3,Ny⟩,⟨34,4,Nz⟩,⟨34,5,NA⟩,⟨155,0,Lf⟩,⟨155,1,Lg⟩,⟨37,0,NB⟩,⟨37,1,NC⟩,⟨37,2,ND⟩,⟨37,3,NE⟩,⟨37,4,NF⟩,⟨37,5,NG⟩,⟨120,0,Lh⟩,⟨120,1,Li⟩,⟨120,2,Lj⟩,⟨161,0,Lk⟩,⟨161,1,Ll⟩,⟨62,0,NH⟩,⟨62,1,NI⟩,⟨62,2,NJ⟩,⟨62,3,NK⟩],za [⟨32,NL⟩,⟨57,NM⟩,⟨37,NN⟩],za [⟨32,Rk⟩,⟨57,Rn⟩,⟨59,Ro⟩,⟨187,Qc⟩,⟨34,Rp⟩,⟨155,Qd⟩,⟨37,Rq⟩,⟨120,Qe⟩,⟨161,Qf⟩,⟨62,Rr⟩]⟩
noncomputable def mC {f:FuncId} {ps:List Pm} {rs:List Rm} {g:d5 Sz ps→Option (bH Sz (ib ps rs))} (ok:Ctr Sz prog f ps rs g) (hc:∀vs w,(callFunc f vs).run prog w= .ok (.enter f vs) w):CS prog Sz:=⟨f,ps,rs,g,ok,hc⟩
theorem ncR {f:FuncId} {fn:Func} {n:Nat} {ps:List Pm} {rs:List Rm} {g:d5 Sz ps→Option (bH Sz (ib ps rs))} (D:List (CS prog Sz)) (res:List Nat) (hf:prog.funcs[f]? =some fn) (hn:fn.ntmps=n) (A:An Sz (bH Sz (ib ps rs))) (h: ∀x,exF n Γ D (fn.body.getD .skip) ps rs res A x=g x)
  (hA:A.nc=true:=by exact rfl) (hb:fn.body=some (fn.body.getD .skip):=by exact rfl) (hle:Nat.ble ps.length n=true:=by exact rfl) (hres:fn.results.toList=res.map ResultVar.tmp:=by exact rfl):Ctr Sz prog f ps rs g:=Ctr.nc A hA mixed hf hb hn hle hres h
theorem nxR {f:FuncId} {fn:Func} {n:Nat} {ps:List Pm} {rs:List Rm} {g:d5 Sz ps→Option (bH Sz (ib ps rs))} (D:List (CS prog Sz)) (res:List ResultVar) (hf:prog.funcs[f]? =some fn) (hn:fn.ntmps=n) (A:An Sz (bH Sz (ib ps rs))) (h: ∀x,exX n Γ D (fn.body.getD .skip) ps rs res A x=g x)
  (hA:A.nc=true:=by exact rfl) (hb:fn.body=some (fn.body.getD .skip):=by exact rfl) (hle:Nat.ble ps.length n=true:=by exact rfl) (hres:fn.results.toList=res:=by exact rfl):Ctr Sz prog f ps rs g:=Ctr.nX A hA mixed hf hb hn hle hres h
end Go.Proofs.YthbonoagbeilkaaGreat.Hay
