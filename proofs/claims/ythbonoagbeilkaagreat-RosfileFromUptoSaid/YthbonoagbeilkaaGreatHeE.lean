import Derived.Test.YthbonoagbeilkaaGreatHcW
import Derived.Test.YthbonoagbeilkaaGreatExX
import Derived.Test.YthbonoagbeilkaaGreatProg
import Derived.Test.YthbonoagbeilkaaGreatHbM
import Derived.Shelf.SlSortCmp.NoneTotal
import Derived.Shelf.SlLaysF0
set_option linter.unusedVariables false
set_option linter.unusedSimpArgs false
namespace Go.Proofs.YthbonoagbeilkaaGreat.Hay
noncomputable section
open Option renaming bind_some→Jj,all_some→Zj,map_some→Xa
open List renaming getElem?_eq_getElem→Z0,length_append→Z1,take_of_length_le→Z2,drop_eq_getElem_cons→Z3,take_append_drop→Z4,drop_of_length_le→Z5,append_assoc→Z6,range→Z7,getElem_mem→Z8,map_append→Z9,take_length→Za,getElem_of_mem→Zf,eq_nil_of_length_eq_zero→Zg,all_eq_true→Zi,pairwise_iff_getElem→Zn,flatten_append→Zo,length_drop→Zp,drop_zero→Zq,mem_range→Zr,contains_eq_mem→Zu,mem_of_mem_drop→Zv,cons_append→Zw,map_congr_left→Zx,nil_append→Zy,append_nil→Zz,drop_left'→X3,getElem?_take_of_lt→X4,length_eq_one_iff→X5,length_take→X7,drop_left→X9,mem_cons→Xb,map_cons→Xc,map_take→Xd,mem_map→Xe
open Nat renaming le_refl→Zl,strongRecOn→X6
open Bool renaming eq_false_or_eq_true→Zc,not_eq_true'→Zd,and_eq_true→Ze,or_eq_false_iff→Zm,eq_iff_iff→Zs,and_eq_false_iff→Zt,or_eq_true→X8
open Int renaming emod_eq_of_lt→Zb,eq_ofNat_of_zero_le→Zh
open BitVec renaming ofInt→Xf
open IntKind renaming i64→Zk,u8→Xg
section
variable {lt:aa→aa→Bool}{p:aa→aa→Option Int}
theorem PT (h : Swo lt) (hp : Cmp lt p) {self_ : List aa → Int → Int → Int → (aa → aa → Option Int) → Option (List aa)} {N : Nat} (hself : Gc lt p self_ N) :
    Gc lt p (c8 self_) (N+1):=by
  intro L A B R a m b xs hA0 hB0 ha hm hb hxs hN hn hA hB;have hlen:xs.length=L.length+A.length+B.length+R.length:=by rw[hxs];simp;omega
  simp only[c8]
  by_cases hA1:A.length=1
  · rw [ak (n := m - a) (by omega), if_pos (by simp; omega)]
    obtain⟨x,rfl⟩:=X5.1 hA1;exact La h hp hB0 ha (by simpa using hm) (by simpa using hb) hxs hn hB
  rw[ak (n:=m - a) (by omega),if_neg (by simp;omega)]
  by_cases hB1:B.length=1
  · rw [ak (n := b - m) (by omega), if_pos (by simp; omega)]
    obtain⟨y,rfl⟩:=X5.1 hB1;exact Jz h hp hA0 ha hm hxs hn hA
  rw[ak (n:=b - m) (by omega),if_neg (by simp;omega)];have hM:Zk.wrap (aF .u64 (IntKind.u64.wrap (Zk.wrap (a+b))) 1)=(a+b)/2:=uq (by omega);have hNn:Zk.wrap ((a+b)/2+m)=(a+b)/2+m:=ak (by omega)
  -- numbers
  obtain⟨aN,haN⟩:∃n:Nat,n=L.length:=⟨_,rfl⟩
  obtain⟨mN,hmN⟩:∃n:Nat,n=L.length+A.length:=⟨_,rfl⟩
  obtain⟨bN,hbN⟩:∃n:Nat,n=L.length+A.length+B.length:=⟨_,rfl⟩
  have ha':a=(aN:Int):=by omega
  have hm':m=(mN:Int):=by omega
  have hb':b=(bN:Int):=by omega
  obtain⟨mid,hmid⟩:∃n:Nat,n=(aN+bN)/2:=⟨_,rfl⟩
  have hmid':(a+b)/2=(mid:Int):=by omega
  rw[hmid'] at hM hNn
  -- the search
  have key: ∀lo0 hi0:Nat,aN≤lo0→lo0≤hi0→hi0≤mN→hi0≤mid→(lo0=aN∨lo0+bN=mid+mN)→(hi0=mN∨hi0=mid)→mid+mN≤lo0+bN→
      ∃T,cx xs a m b p self_ (lo0:Int) (hi0:Int)=some (L++T++R)∧Stb lt (A++B) T:=by
    intro lo0 hi0 q1 q2 q3 q4 q5 q6 q7
    obtain ⟨s,h1,h2,h3,h4,h5⟩:=xL (F:=fun s:(Int×Int)=>cw xs a m b p self_ s.1 s.2) (fun c=> !gx lt xs (mid+mN - 1 - c) c) lo0 hi0
      (λs=>cu xs a m b p self_ (s:Int)) (λlo hi g1 g2 g3=>by
        have hc:(lo+hi)/2<xs.length:=by omega
        have hd:mid+mN - 1 - (lo+hi)/2<xs.length:=by omega
        have ec:xs[(lo+hi)/2]? =some xs[(lo+hi)/2]:=Z0 hc;have ed:xs[mid+mN - 1 - (lo+hi)/2]? =some xs[mid+mN - 1 - (lo+hi)/2]:=Z0 hd;obtain⟨c,hc1,hc2⟩:=hp xs[mid+mN - 1 - (lo+hi)/2] xs[(lo+hi)/2];simp only[cw];rw[if_pos (by simp;omega),hM,uq (by omega),hNn,ak (n:=(mid:Int)+m - 1) (by omega),ak (n:=(mid:Int)+m - 1 - ((lo:Int)+hi)/2) (by omega),ur ed (by omega),ur ec (by omega),hc1,Jj,hc2,zY ed ec,ak (by omega)]
        split<;>rfl)
      (λs g1 g2=>by
        simp only[cw]
        rw[if_neg (by simp)]) q2
    unfold cx;rw[h5,PS (mid:=(mid:Int)) (e:=((mid+mN - s:Nat):Int)) hmid'.symm (by omega) (by omega) (by omega) (by omega) (by omega) (by omega) (by omega) (by omega) (by omega)];obtain⟨k1,hk1⟩:∃k,s=L.length+k:=⟨s - L.length,by omega⟩
    obtain⟨k2,hk2⟩:∃k,mid+mN - s=L.length+A.length+k:=⟨mid+mN - s - (L.length+A.length),by omega⟩
    have hkA:k1≤A.length:=by omega
    have hkB:k2≤B.length:=by omega
    obtain ⟨c1,c2⟩:=wZ h hxs hA hB k1 k2 hkA hkB
      (by rcases h4 with h4 | h4
          · rcases q6 with q6 | q6
            ·right;left;omega
            ·left;omega
          · by_cases e1 : k2 = 0
            ·left;exact e1
            by_cases e2:k1=A.length
            ·right;left;exact e2
            right;right;refine⟨by omega,by omega,?_⟩;rw[show L.length+A.length+(k2 - 1)=mid+mN - 1 - s by omega,←hk1]
            simpa using h4)
      (by rcases h3 with h3 | h3
          · rcases q5 with q5 | q5
            ·left;omega
            ·right;left;omega
          · by_cases e1 : k1 = 0
            ·left;exact e1
            by_cases e2:k2=B.length
            ·right;left;exact e2
            right;right;refine⟨by omega,by omega,?_⟩;rw[show L.length+A.length+k2=mid+mN - 1 - (s - 1) by omega,show L.length+(k1 - 1)=s - 1 by omega]
            simpa using h3)
    have eA:A.take k1++A.drop k1=A:=Z4 _ _;have eB:B.take k2++B.drop k2=B:=Z4 _ _;have lA1:(A.take k1).length=k1:=by simp;omega
    have lA2:(A.drop k1).length=A.length - k1:=by simp
    have lB1:(B.take k2).length=k2:=by simp;omega
    have lB2:(B.drop k2).length=B.length - k2:=by simp
    have hx4:xs=L++A.take k1++A.drop k1++B.take k2++(B.drop k2++R):=by
      rw[hxs]
      conv=>lhs;rw[←eA,←eB]
      simp only[Z6]
    -- the turn
    have hrot:(if (s:Int)<m∧m<((mid+mN - s:Nat):Int) then cB xs s m ((mid+mN - s:Nat):Int) p else some xs)=some (L++A.take k1++B.take k2++(A.drop k1++B.drop k2++R)):=by
      split
      · rename_i hc
        rw [Mv (A:=L++A.take k1) (X:=A.drop k1) (Y:=B.take k2) (C:=B.drop k2++R) (by rw [lA2];omega) (by rw [lB1];omega) (by rw [Z1,lA1];omega) (by rw [lA2];omega) (by rw [lB1];omega)
          hx4 (by omega)]
        simp
      · rename_i hc
        rw[hx4]
        by_cases e1:k1=A.length
        · have : A.drop k1 = [] := Z5 (by omega)
          rw[this];simp only[Z6,Zy,Zz]
        · have e2 : k2 = 0 := by omega
          have:B.take k2=[]:=by rw[e2];rfl
          rw[this];simp only[Z6,Zy,Zz]
    rw[hrot,Jj]
    -- ahead
    have h1':∃T1,(if a<(s:Int)∧(s:Int)<(mid:Int) then self_ (L++A.take k1++B.take k2++(A.drop k1++B.drop k2++R)) a s mid p else some (L++A.take k1++B.take k2++(A.drop k1++B.drop k2++R)))=some (L++T1++(A.drop k1++B.drop k2++R))∧Stb lt (A.take k1++B.take k2) T1:=by
      split
      · rename_i hc
        exact hself L (A.take k1) (B.take k2) _ a s mid _ (by omega) (by omega) ha (by rw[lA1];omega) (by rw[lA1,lB1];omega) rfl (by omega) (by simp only[Z1,lA1,lB1,lA2,lB2];omega) (hA.take _) (hB.take _)
      · rename_i hc
        refine⟨A.take k1++B.take k2,by simp,Stb.refl ?_⟩
        by_cases e1:k1=0
        ·rw[e1];simpa using hB.take k2
        · have e2 : k2 = 0 := by omega
          rw[e2];simpa using hA.take k1
    obtain⟨T1,e1,s1⟩:=h1';rw[e1,Jj];have lT1:T1.length=k1+k2:=by rw[s1.len h,Z1,lA1,lB1]
    have h2':∃T2,(if (mid:Int)<((mid+mN - s:Nat):Int)∧((mid+mN - s:Nat):Int)<b then self_ (L++T1++(A.drop k1++B.drop k2++R)) mid ((mid+mN - s:Nat):Int) b p else some (L++T1++(A.drop k1++B.drop k2++R)))=some (L++T1++T2++R)∧Stb lt (A.drop k1++B.drop k2) T2:=by
      split
      · rename_i hc
        exact hself (L++T1) (A.drop k1) (B.drop k2) R mid _ b _ (by omega) (by omega) (by rw[Z1,lT1];omega) (by rw[Z1,lT1,lA2];omega) (by rw[Z1,lT1,lA2,lB2];omega) (by simp) (by omega) (by simp only[Z1,lA2,lB2,lT1];omega) (hA.drop _) (hB.drop _)
      · rename_i hc
        refine⟨A.drop k1++B.drop k2,by simp,Stb.refl ?_⟩
        by_cases e1:k1=A.length
        ·rw[e1];simpa using hB.drop k2
        · have e2 : k2 = B.length := by omega
          rw[e2];simpa using hA.drop k1
    obtain⟨T2,e2,s2⟩:=h2';rw[e2];refine⟨T1++T2,by simp,?_⟩;have:=Stb.cat h s1 s2 (by rw[eA];exact hA) (by rw[eB];exact hB) c1 c2;rw[eA,eB] at this;exact this
  rw[hM]
  by_cases hmm:mid<mN
  · rw [if_pos (by simp; omega), hNn, ak (by omega)]
    have:=key (mid+mN - bN) mid (by omega) (by omega) (by omega) (by omega) (Or.inr (by omega)) (Or.inr rfl) (by omega);rw[show((mid+mN - bN:Nat):Int)=(mid:Int)+m - b by omega] at this;exact this
  · rw [if_neg (by simp; omega)]
    have:=key aN mN (by omega) (by omega) (by omega) (by omega) (Or.inl rfl) (Or.inl rfl) (by omega);rw[←ha',←hm'] at this;exact this
theorem PU (h:Swo lt)(hp:Cmp lt p):∀n,Gc lt p (c9 n) n:=by
  intro n
  induction n with
  |zero=>intro L A B R a m b xs hA hB _ _ _ _ hN;omega
  |succ n ih=>exact PT h hp ih
theorem HC (h:Swo lt) (hp:Cmp lt p) {L A B R xs:List aa} {a m b:Int} (hA0:0<A.length) (hB0:0<B.length) (ha:a=(L.length:Int)) (hm:m=(L.length:Int)+A.length) (hb:b=(L.length:Int)+A.length+B.length)
    (hxs:xs=L++A++B++R) (hn:xs.length<1152921504606846976) (hA:Srt lt A) (hB:Srt lt B):
    ∃T,dw xs a m b p=some (L++T++R)∧Stb lt (A++B) T:=by
  unfold dw;exact PU h hp _ L A B R a m b xs hA0 hB0 ha hm hb hxs (by rw[hxs];simp;omega) hn hA hB
end
set_option linter.unusedVariables false
set_option linter.unusedSimpArgs false
inductive Bls {α:Type} (lt:α→α→Bool) (k:Nat):List α→List α→Prop
 |last {l l':List α} (h:l.length≤k) (s:Stb lt l l'):Bls lt k l l'
 |more {l l' t t':List α} (h:l.length=k) (s:Stb lt l l') (ht:Bls lt k t t'):Bls lt k (l++t) (l'++t')
section
variable {α:Type}{lt:α→α→Bool}
theorem Stb.nil:Stb lt ([]:List α) []:=⟨List.Pairwise.nil,λ_=>rfl⟩
theorem Bls.len (h:Swo lt){k:Nat}{l l':List α}(hb:Bls lt k l l'):l'.length=l.length:=by
 induction hb with
 |last _ s=>exact s.len h
 |more _ s _ ih=>rw[Z1,Z1,s.len h,ih]
theorem Bls.done (h:Swo lt){k:Nat}(hk:0<k){l l':List α}(hb:Bls lt k l l')(hl:l.length≤k):Stb lt l l':=by
 cases hb with
 |last _ s=>exact s
 | @more l l' t t' h1 s ht=>
  rw[Z1] at hl;have:t=[]:=Zg (by omega);subst this;have:t'=[]:=Zg (by rw[ht.len h];rfl);subst this;simpa using s
theorem Bls.split (h:Swo lt){k:Nat}{l l':List α}(hb:Bls lt k l l')(hl:k≤l.length):∃l1 l2 l1' l2',l=l1++l2∧l'=l1'++l2'∧l1.length=k∧Stb lt l1 l1'∧Bls lt k l2 l2':=by
 cases hb with
 |last h1 s=>exact⟨l,[],l',[],by simp,by simp,by omega,s,.last (by simp) Stb.nil⟩
 | @more l l' t t' h1 s ht=>exact⟨l,t,l',t',rfl,rfl,h1,s,ht⟩
end
section
variable {lt:aa→aa→Bool}{p:aa→aa→Option Int}
theorem PV (h:Swo lt) (hp:Cmp lt p) (n:Int) (hn:n<1152921504606846976): ∀(k:Nat) (X D:List aa) (a:Int) (xs:List aa),X.length=k→a=(D.length:Int)→n=(D.length:Int)+X.length→xs=D++X→
  ∃X',Bls lt 20 X X'∧am (fun s:(Int×Int×List aa)=>bC n p s.1 s.2.1 s.2.2) (a,a+20,xs)=
   am (λs:(Int×List aa)=>bd n p s.1 s.2) (20,D++X'):=by
 intro k
 induction k using X6 with
 | _ k ih =>
  intro X D a xs hk ha hN hxs
  by_cases hX:20≤X.length
  ·have e:X=X.take 20++X.drop 20:=(Z4 _ _).symm
   obtain⟨T,h1,h2⟩:=HB h hp D (X.take 20) (X.drop 20) (a:=a) (b:=a+20) (xs:=xs) ha (by simp;omega) (by omega) (by rw[hxs];simp);have hlT:=h2.len h;rw[X7] at hlT
   have hst:bC n p a (a+20) xs=some (.inl (a+20,a+20+20,(D++T)++X.drop 20)):=by
    simp only[bC];rw[if_pos (by simp;omega),h1,Jj,ak (by omega)]
   obtain⟨X',h3,h4⟩:=ih (X.length - 20) (by omega) (X.drop 20) (D++T) (a+20) _ (by simp) (by rw[Z1];omega) (by rw[Z1,Zp];omega) rfl;refine⟨T++X',?_,?_⟩
   ·have:=Bls.more (by rw [X7];omega) h2 h3
    rw[←e] at this;exact this
   ·rw[bP hst,h4,Z6]
  ·obtain ⟨T,h1,h2⟩:=HB h hp D X [] (a:=a) (b:=n) (xs:=xs) ha hN (by omega) (by rw [hxs];simp)
   refine⟨T,.last (by omega) h2,?_⟩;rw[pD]
   have:bC n p a (a+20) xs=(am (λs:(Int×List aa)=>bd n p s.1 s.2) (20,D++T)).map Sum.inr:=by
    simp only[bC,d8];rw[if_neg (by simp;omega),h1,Jj,Zz]
   simp only[this];cases am (λs:(Int×List aa)=>bd n p s.1 s.2) (20,D++T)<;>rfl
theorem PW (h:Swo lt) (hp:Cmp lt p) (n:Int) (hn:n<288230376151711744) (bs:Nat) (h0:0<bs) (hbs:(bs:Int)<n): ∀(k:Nat) (X0 X D:List aa) (a b:Int) (xs:List aa),X.length=k→a=(D.length:Int)→b=a+2*bs→n=(D.length:Int)+X.length→xs=D++X→Bls lt bs X0 X→
  ∃X',Bls lt (2*bs) X0 X'∧am (λs:(Int×Int×List aa)=>bR n p bs s.1 s.2.1 s.2.2) (a,b,xs)=some (.inl (((2*bs:Nat):Int),D++X')):=by
 intro k
 induction k using X6 with
 | _ k ih =>
  intro X0 X D a b xs hk ha hb hN hxs hbl;have hl:=hbl.len h;have hxl:xs.length<1152921504606846976:=by rw[hxs,Z1];omega
  by_cases hX:2*bs≤X.length
  ·obtain ⟨l1,l2,l1',l2',e1,e1',hl1,s1,hb2⟩:=hbl.split h (by omega)
   have hl2:=hb2.len h;have q1:l1'.length=bs:=by rw[s1.len h,hl1]
   have q2:X.length=l1'.length+l2'.length:=by rw[e1',Z1]
   obtain⟨l3,l4,l3',l4',e2,e2',hl3,s3,hb4⟩:=hb2.split h (by omega);have q3:l3'.length=bs:=by rw[s3.len h,hl3]
   have q4:l2'.length=l3'.length+l4'.length:=by rw[e2',Z1]
   obtain⟨T,h1,h2⟩:=HC h hp (L:=D) (A:=l1') (B:=l3') (R:=l4') (a:=a) (m:=a+bs) (b:=b) (xs:=xs) (by omega) (by omega) ha (by omega) (by omega) (by rw[hxs,e1',e2'];simp) hxl s1.srt s3.srt;have hlT:=h2.len h;rw[Z1] at hlT
   have hst:bR n p bs a b xs=some (.inl (b,b+2*bs,(D++T)++l4')):=by
    simp only[bR];rw[if_pos (by simp;omega),ak (n:=a+bs) (by omega),h1,Jj,ak (n:=2*(bs:Int)) (by omega),ak (by omega)]
   obtain⟨X',h3,h4⟩:=ih l4'.length (by omega) l4 l4' (D++T) b (b+2*bs) _ rfl (by rw[Z1];omega) rfl (by rw[Z1];omega) rfl hb4;refine⟨T++X',?_,?_⟩
   ·rw [e1,e2, ←Z6]
    exact Bls.more (by rw[Z1];omega) (h2.trans λc=>by simp[s1.flt,s3.flt]) h3
   ·rw[bP hst,h4,Z6]
  ·by_cases hX2:bs<X.length
   ·obtain ⟨l1,l2,l1',l2',e1,e1',hl1,s1,hb2⟩:=hbl.split h (by omega)
    have hl2:=hb2.len h;have q1:l1'.length=bs:=by rw[s1.len h,hl1]
    have q2:X.length=l1'.length+l2'.length:=by rw[e1',Z1]
    have s2:=hb2.done h h0 (by omega);obtain⟨T,h1,h2⟩:=HC h hp (L:=D) (A:=l1') (B:=l2') (R:=[]) (a:=a) (m:=a+bs) (b:=n) (xs:=xs) (by omega) (by omega) ha (by omega) (by omega) (by rw[hxs,e1'];simp) hxl s1.srt s2.srt;refine⟨T,.last (by omega) ?_,?_⟩
    ·rw [e1]
     exact h2.trans λc=>by simp[s1.flt,s2.flt]
    ·apply a7
     simp only[bR,dn,cD];rw[if_neg (by simp;omega),ak (n:=a+bs) (by omega),if_pos (by simp;omega),h1,Jj,ak (by omega)];simp[Int.mul_comm]
   ·refine ⟨X,.last (by omega) (hbl.done h h0 (by omega)),?_⟩
    apply a7;simp only[bR,dn,cD];rw[if_neg (by simp;omega),ak (n:=a+bs) (by omega),if_neg (by simp;omega),ak (by omega),hxs];simp[Int.mul_comm]
theorem PX (h:Swo lt) (hp:Cmp lt p) (n:Int) (hn:n<288230376151711744) (X0:List aa) (hX0:n=(X0.length:Int)): ∀(k bs:Nat) (X:List aa),(X0.length - bs)=k→0<bs→Bls lt bs X0 X→
  ∃X',am (λs:(Int×List aa)=>bd n p s.1 s.2) ((bs:Int),X)=some X'∧Stb lt X0 X':=by
 intro k
 induction k using X6 with
 | _ k ih =>
  intro bs X hk h0 hbl;have hl:=hbl.len h
  by_cases hb:(bs:Int)<n
  ·obtain ⟨X',h1,h2⟩:=PW h hp n hn bs h0 hb X.length X0 X [] 0 (2*bs) X rfl rfl (by simp) (by simp;omega) (by simp) hbl
   have hst:bd n p bs X=some (.inl (((2*bs:Nat):Int),X')):=by
    simp only[bd];rw[if_pos (by simp;omega),ak (by omega),h2,Zy]
   obtain⟨X2,h3,h4⟩:=ih (X0.length - 2*bs) (by omega) (2*bs) X' rfl (by omega) h1;exact⟨X2,by rw[bP hst];exact h3,h4⟩
  ·refine ⟨X,?_,hbl.done h h0 (by omega)⟩
   apply a7;simp only[bd];rw[if_neg (by simp;omega)]
   rfl
theorem HD (h:Swo lt)(hp:Cmp lt p)(X:List aa)(hn:X.length<288230376151711744):∃X',dG X p=some X'∧Stb lt X X':=by
 obtain⟨X1,h1,h2⟩:=PV h hp (X.length:Int) (by omega) X.length X [] 0 X rfl rfl (by simp) rfl;obtain⟨X2,h3,h4⟩:=PX h hp (X.length:Int) (by omega) X rfl _ 20 X1 rfl (by omega) h1;refine⟨X2,?_,h4⟩;unfold dG eR;have h2:am (λs:(Int×Int×List aa)=>bC (X.length:Int) p s.1 s.2.1 s.2.2) (0,20,X)=_:=h2;rw[h2,Zy];have h3:am (λs:(Int×List aa)=>bd (X.length:Int) p s.1 s.2) (20,X1)=_:=h3;rw[h3]
 rfl
end
set_option linter.unusedVariables false
set_option linter.unusedSimpArgs false
theorem gM {σ β:Type}{f:σ→Option (σ⊕β)}{s:σ}{b:Option β}(S:Nat→σ)(n:Nat)(h0:s=S 0)(step:∀i,i<n→f (S i)=some (.inl (S (i+1))))(fin:f (S n)=b.map Sum.inr):am f s=b:=by
 have key:∀i,i≤n→am f s=am f (S i):=by
  intro i
  induction i with
  |zero=>intro _;rw[h0]
  |succ i ih=>intro h;rw[ih (by omega),bP (step i (by omega))]
 rw[key n (Zl n),pD,fin];cases b<;>rfl
section
variable {α β:Type}
theorem Swo.comap {lt:α→α→Bool} (h:Swo lt) (f:β→α):Swo fun a b=>lt (f a) (f b):=
 ⟨λa=>h.irr _,λa b c=>h.tr _ _ _,λa b c=>h.inc _ _ _⟩
def pn (l1 l2:α→α→Bool)(a b:α):Bool:=l1 a b||(!l1 b a&&l2 a b)
theorem Swo.lex {l1 l2:α→α→Bool}(h1:Swo l1)(h2:Swo l2):Swo (pn l1 l2):=by
 refine⟨λa=>by simp[pn,h1.irr,h2.irr],λa b c hab hbc=>?_,λa b c hab hbc=>?_⟩
 ·simp only [pn,X8,Ze,Zd] at*
  rcases hab with hab|⟨nba,hab⟩<;>rcases hbc with hbc|⟨ncb,hbc⟩
  ·exact Or.inl (h1.tr _ _ _ hab hbc)
  ·left
   cases hac:l1 a c with
   |true=>rfl
   |false=>rw[h1.inc a c b hac ncb] at hab;cases hab
  ·left
   cases hac:l1 a c with
   |true=>rfl
   |false=>rw[h1.inc b a c nba hac] at hbc;cases hbc
  ·exact Or.inr ⟨h1.inc c b a ncb nba,h2.tr _ _ _ hab hbc⟩
 ·simp only [pn,Zm,Zt,Bool.not_eq_false'] at*
  refine⟨h1.inc _ _ _ hab.1 hbc.1,?_⟩;rcases hab.2 with h3|h3
  ·left
   cases hca:l1 c a with
   |true=>rfl
   |false=>rw[h1.inc b c a hbc.1 hca] at h3;cases h3
  ·rcases hbc.2 with h4|h4
   ·left
    cases hca:l1 c a with
    |true=>rfl
    |false=>rw[h1.inc c a b hca hab.1] at h4;cases h4
   ·right;exact h2.inc _ _ _ h3 h4
def lexL (lt:α→α→Bool):List α→List α→Bool
 |_,[]=>false
 |[],_::_=>true
 |a::x,b::y=>lt a b||(!lt b a&&lexL lt x y)
theorem Swo.lexL {lt:α→α→Bool}(h:Swo lt):Swo (lexL lt):=by
 refine⟨?_,?_,?_⟩
 ·intro a
  induction a with
  |nil=>rfl
  |cons a x ih=>simp[Hay.lexL,h.irr,ih]
 ·intro a
  induction a with
  |nil=>
   intro b c hab hbc;cases c with
   |nil=>cases b<;>simp[Hay.lexL] at hbc
   |cons c z=>rfl
  | cons a x ih =>
   intro b c hab hbc;cases b with
   |nil=>simp[Hay.lexL] at hab
   | cons b y =>
    cases c with
    |nil=>simp[Hay.lexL] at hbc
    | cons c z =>
     simp only[Hay.lexL,X8,Ze,Zd] at*;rcases hab with hab|⟨nba,hab⟩<;>rcases hbc with hbc|⟨ncb,hbc⟩
     ·exact Or.inl (h.tr _ _ _ hab hbc)
     ·left
      cases hac:lt a c with
      |true=>rfl
      |false=>rw[h.inc a c b hac ncb] at hab;cases hab
     ·left
      cases hac:lt a c with
      |true=>rfl
      |false=>rw[h.inc b a c nba hac] at hbc;cases hbc
     ·exact Or.inr ⟨h.inc c b a ncb nba,ih _ _ hab hbc⟩
 ·intro a
  induction a with
  |nil=>
   intro b c hab hbc;cases b with
   |nil=>exact hbc
   |cons b y=>simp[Hay.lexL] at hab
  | cons a x ih =>
   intro b c hab hbc;cases c with
   |nil=>rfl
   | cons c z =>
    cases b with
    |nil=>simp[Hay.lexL] at hbc
    | cons b y =>
     simp only[Hay.lexL,Zm,Zt,Bool.not_eq_false'] at*;refine⟨h.inc _ _ _ hab.1 hbc.1,?_⟩;rcases hab.2 with h3|h3
     ·left
      cases hca:lt c a with
      |true=>rfl
      |false=>rw[h.inc b c a hbc.1 hca] at h3;cases h3
     ·rcases hbc.2 with h4|h4
      ·left
       cases hca:lt c a with
       |true=>rfl
       |false=>rw[h.inc c a b hca hab.1] at h4;cases h4
      ·right;exact ih _ _ h3 h4
theorem R7:Swo fun a b:Int=>decide (a<b):=
 ⟨λa=>by simp,λa b c h1 h2=>by simp at*;omega,λa b c h1 h2=>by simp at*;omega⟩
theorem xM: ∀s u:List Int,ltB s u=lexL (fun a b:Int=>decide (a<b)) s u
 |s,[]=>by cases s<;>rfl
 |[],_::_=>rfl
 | a :: x, b :: y => by
  simp only[ltB,lexL,xM x y]
  by_cases h1:a<b
  ·simp[h1]
  ·by_cases h2:b<a
   ·have:a≠b:=by omega
    simp[h1,h2,this]
   ·have:a=b:=by omega
    simp[this]
theorem R8:Swo ltB:=by
 have h:=R7.lexL;exact⟨λa=>by rw[xM];exact h.irr a,λa b c=>by simp only[xM];exact h.tr a b c,λa b c=>by simp only[xM];exact h.inc a b c⟩
def sgn (lt:α→α→Bool)(a b:α):Int:=if lt a b then -1 else if lt b a then 1 else 0
theorem zZ {lt:α→α→Bool}{a b:α}:decide (sgn lt a b<0)=lt a b:=by
 unfold sgn;cases lt a b
 ·cases lt b a<;>simp
 ·simp
theorem vh {l1 l2:α→α→Bool}(h1:Swo l1){a b:α}:sgn (pn l1 l2) a b=if sgn l1 a b≠0 then sgn l1 a b else sgn l2 a b:=by
 unfold sgn pn;cases e1:l1 a b
 ·cases e2:l1 b a
  ·simp
  ·simp
 ·simp
theorem DG {lt:α→α→Bool}(h:Swo lt){a b:α}{x y:List α}:sgn (lexL lt) (a::x) (b::y)=if sgn lt a b≠0 then sgn lt a b else sgn (lexL lt) x y:=by
 by_cases e1:lt a b=true
 ·simp[sgn,lexL,e1]
 ·by_cases e2:lt b a=true
  ·simp[sgn,lexL,e1,e2]
  ·simp[sgn,lexL,e1,e2]
end
def vk2 (v:Ap):Int:=if v.fKind=1 then (if v.fBool then 1 else 0) else if v.fKind=2 then v.fInt else 0
def vk3 (v:Ap):List Int:=if v.fKind=3 then v.fText else []
def vlt:Ap→Ap→Bool:=
 pn (λa b=>decide (a.fKind<b.fKind)) (pn (λa b=>decide (vk2 a<vk2 b)) (λa b=>ltB (vk3 a) (vk3 b)))
theorem E6:Swo vlt:=(R7.comap λv:Ap=>v.fKind).lex ((R7.comap vk2).lex (R8.comap vk3))
theorem DH (a b:Ap):pN a b=some (vlt a b):=by
 unfold pN vlt pn
 by_cases hk:a.fKind=b.fKind
 ·rw [if_neg (by simp [hk])]
  by_cases h1:b.fKind=1
  ·simp only [kU,vk2,vk3,hk,h1]
   cases ha:a.fBool<;>cases hb:b.fBool<;>simp[ltB]
  ·by_cases h2:b.fKind=2
   ·simp only [kU,vk2,vk3,hk,h2]
    simp[ltB]
   ·by_cases h3:b.fKind=3
    ·simp only [kU,o6,vk2,vk3,hk,h3]
     simp
    ·simp only [kU,o6,vk2,vk3,hk]
     simp[h1,h2,h3,ltB]
 ·rw [if_pos (by simp [hk])]
  by_cases hl:a.fKind<b.fKind
  ·simp[hl]
  ·have:b.fKind<a.fKind:=by omega
   simp[hl,this]
theorem Ca (a b:Ap):iO a b=some (sgn vlt a b):=by
 unfold iO sgn;rw[DH,DH,Jj,Jj];cases vlt a b<;>cases vlt b a<;>rfl
theorem J6 (a b:Int):iq a b=some (sgn (λa b:Int=>decide (a<b)) a b):=by
 simp only[iq,ln,sgn,Jj,bne_self_eq_false]
 by_cases h1:a<b<;>by_cases h2:b<a<;>simp[h1,h2]
theorem Lb (a b:Int):iB a b=some (sgn (λa b:Int=>decide (a<b)) a b):=by
 simp only[iB,jH,sgn,Jj,bne_self_eq_false]
 by_cases h1:a<b<;>by_cases h2:b<a<;>simp[h1,h2]
theorem PY (a b:Int):ig a b=some (sgn (λa b:Int=>decide (a<b)) a b):=by
 simp only[ig,kZ,sgn,Jj,bne_self_eq_false]
 by_cases h1:a<b<;>by_cases h2:b<a<;>simp[h1,h2]
theorem PZ (a b:Int):ii a b=some (sgn (λa b:Int=>decide (a<b)) a b):=by
 simp only[ii,k8,sgn,Jj,bne_self_eq_false]
 by_cases h1:a<b<;>by_cases h2:b<a<;>simp[h1,h2]
theorem Cb (a b:Ap):cC a b=some (sgn vlt a b):=by
 unfold cC vlt;rw[vh (R7.comap λv:Ap=>v.fKind),vh (R7.comap vk2)]
 by_cases hk:a.fKind=b.fKind
 ·rw [if_neg (by simp [hk])]
  have e0:sgn (λa b:Ap=>decide (a.fKind<b.fKind)) a b=0:=by simp[sgn,hk]
  rw[e0];simp only[ne_eq,not_true_eq_false,if_false]
  by_cases h1:b.fKind=1
  ·simp only [fw,vk2,vk3,hk,h1,sgn]
   cases ha:a.fBool<;>cases hb:b.fBool<;>simp[ltB]
  ·by_cases h2:b.fKind=2
   ·have ka:a.fKind=2:=hk.trans h2
    have a2:vk2 a=a.fInt:=by simp[vk2,ka]
    have b2:vk2 b=b.fInt:=by simp[vk2,h2]
    have a3:vk3 a=[]:=by simp[vk3,ka]
    have b3:vk3 b=[]:=by simp[vk3,h2]
    rw[if_neg (by simp[ka]),fw,if_neg (by simp),if_pos (by simp[ka]),Lb];simp only[sgn,a2,b2,a3,b3,ltB]
    by_cases q1:a.fInt<b.fInt<;>by_cases q2:b.fInt<a.fInt<;>simp[q1,q2]
   ·by_cases h3:b.fKind=3
    ·have ka:a.fKind=3:=hk.trans h3
     have a2:vk2 a=0:=by simp[vk2,ka]
     have b2:vk2 b=0:=by simp[vk2,h3]
     have a3:vk3 a=a.fText:=by simp[vk3,ka]
     have b3:vk3 b=b.fText:=by simp[vk3,h3]
     rw[if_neg (by simp[ka]),fw,if_neg (by simp),if_neg (by simp[ka]),if_pos (by simp[ka]),lX,eD,Jj,Jj,tz];simp only[sgn,a2,b2,a3,b3];simp
    ·have ka:a.fKind≠1∧a.fKind≠2∧a.fKind≠3:=by rw [hk];exact ⟨h1,h2,h3⟩
     have a2:vk2 a=0:=by simp[vk2,ka]
     have b2:vk2 b=0:=by simp[vk2,h1,h2]
     have a3:vk3 a=[]:=by simp[vk3,ka]
     have b3:vk3 b=[]:=by simp[vk3,h3]
     rw[if_neg (by simp[ka]),fw,if_neg (by simp),if_neg (by simp[ka]),if_neg (by simp[ka])];simp only[sgn,a2,b2,a3,b3,ltB];simp
 ·rw [if_pos (by simp [hk]),J6,Jj]
  have:sgn (λa b:Ap=>decide (a.fKind<b.fKind)) a b≠0:=by
   unfold sgn
   by_cases hl:a.fKind<b.fKind
   ·simp[hl]
   ·have:b.fKind<a.fKind:=by omega
    simp[hl,this]
  rw[if_pos this]
  rfl
def rlt:List Ap→List Ap→Bool:=lexL vlt
theorem R9:Swo rlt:=E6.lexL
theorem vi {s t:List Ap}(hs:s.length<4611686018427387904)(ht:t.length<4611686018427387904):mJ s t=some (sgn rlt s t):=by
 unfold mJ;refine oF (λi=>∃k:Nat,i=(k:Int)∧k≤s.length∧k≤t.length∧sgn rlt (s.drop k) (t.drop k)=sgn rlt s t) (λi=>s.length - i.toNat) ?_ ⟨0,rfl,by simp,by simp,by simp⟩;rintro i ⟨k,rfl,h1,h2,h3⟩;simp only[vE]
 by_cases hk:k<s.length∧k<t.length
 ·obtain ⟨hk1,hk2⟩:=hk
  rw[if_pos (by split<;>simp<;>omega),ay hk1,Jj,ay hk2,Jj,Cb,Jj];rw[Z3 hk1,Z3 hk2,rlt,DG E6] at h3
  by_cases hc:sgn vlt s[k] t[k]=0
  ·left
   rw[if_neg (by simp[hc])];refine⟨_,rfl,⟨k+1,by rw[ak (by omega)];rfl,by omega,by omega,?_⟩,?_⟩
   ·rw[if_neg (by simp[hc])] at h3;exact h3
   ·rw[ak (by omega)];omega
  ·right
   rw[if_pos (by simp[hc])];rw[if_pos hc] at h3;rw[h3];rfl
 ·right
  rw[if_neg (by split<;>simp<;>omega),vD,J6,Jj,←h3]
  have key:∀(x y:List Ap),(x=[]∨y=[])→sgn rlt x y=sgn (λa b:Int=>decide (a<b)) (x.length:Int) (y.length:Int):=by
   intro x y hxy;rcases hxy with rfl|rfl
   ·cases y<;>simp[sgn,rlt,lexL]<;>omega
   ·cases x<;>simp[sgn,rlt,lexL]<;>omega
  rw[key]
  ·have e1:((s.length:Int)<t.length)↔(((s.length - k:Nat):Int)<((t.length - k:Nat):Int)):=by omega
   have e2:((t.length:Int)<s.length)↔(((t.length - k:Nat):Int)<((s.length - k:Nat):Int)):=by omega
   simp only[sgn,Zp,decide_eq_true_eq,e1,e2,Xa]
  ·by_cases q:k<s.length
   ·right;exact Z5 (by omega)
   ·left;exact Z5 (by omega)
theorem z6 {s t:List Ap}(hs:s.length<4611686018427387904)(ht:t.length<4611686018427387904):rC s t=some (sgn rlt s t):=by
 unfold rC;refine oF (λi=>∃k:Nat,i=(k:Int)∧k≤s.length∧k≤t.length∧sgn rlt (s.drop k) (t.drop k)=sgn rlt s t) (λi=>s.length - i.toNat) ?_ ⟨0,rfl,by simp,by simp,by simp⟩;rintro i ⟨k,rfl,h1,h2,h3⟩;simp only[zG]
 by_cases hk1:k<s.length
 ·rw [if_pos (by simp;omega)]
  by_cases hk2:k<t.length
  ·rw [if_neg (by simp;omega),ay hk1,Jj,ay hk2,Jj,Ca,Jj]
   rw[Z3 hk1,Z3 hk2,rlt,DG E6] at h3
   by_cases hc:sgn vlt s[k] t[k]=0
   ·left
    rw[if_neg (by simp[hc])];refine⟨_,rfl,⟨k+1,by rw[ak (by omega)];rfl,by omega,by omega,?_⟩,?_⟩
    ·rw[if_neg (by simp[hc])] at h3;exact h3
    ·rw[ak (by omega)];omega
   ·right
    rw[if_pos (by simp[hc])];rw[if_pos hc] at h3;rw[h3];rfl
  ·right
   have:k=t.length:=by omega
   rw[if_pos (by simp;omega),←h3,this,List.drop_length,Z3 (by omega)];simp[sgn,rlt,lexL]
 ·right
  rw[if_neg (by simp;omega),←h3,Z5 (by omega:s.length≤k),zF]
  by_cases hk2:k<t.length
  ·rw [if_pos (by simp;omega),Z3 hk2]
   simp[sgn,rlt,lexL]
  ·rw [if_neg (by simp;omega),Z5 (by omega:t.length≤k)]
   simp[sgn,rlt,lexL]
def dO (cs:List Int)(row:List Ap):List Ap:=cs.map λc=>if 0≤c∧c<(row.length:Int) then row.getD c.toNat Ap.zero else Ap.zero
theorem ml (cs:List Int)(row:List Ap):(dO cs row).length=cs.length:=by simp[dO]
theorem HE {α:Type}{xs:List α}{i:Int}(d:α)(h:0≤i∧i<(xs.length:Int)):idx xs i=some (xs.getD i.toNat d):=by
 obtain⟨n,rfl⟩:=Zh h.1;have hn:n<xs.length:=by omega
 rw[ay hn];simp[hn]
theorem DI {f:List Ap×Int→Option ((List Ap×Int)⊕List Ap)} {cs:List Int} {row:List Ap} {g:Int→Ap}
  (step:∀(i:Nat) (l:List Ap) (h:i<cs.length),l.length=i→f (l,(i:Int))=some (.inl (l++[g cs[i]],((i+1:Nat):Int)))) (fin:∀l,f (l,(cs.length:Int))=some (.inr l)):am f ([],0)=some (cs.map g):=by
 refine gM (λi=>((cs.take i).map g,(i:Int))) cs.length (by simp) (λi hi=>?_) ?_
 ·show f ((cs.take i).map g,(i:Int))=_
  have e:(cs.take (i+1)).map g=(cs.take i).map g++[g cs[i]]:=by rw[List.take_add_one,Z0 hi,Z9];rfl
  rw[step i _ hi (by simp;omega),e]
 ·show f ((cs.take cs.length).map g,(cs.length:Int))=_
  rw[fin,Za];rfl
theorem z7 {cs:List Int}{row:List Ap}(hc:cs.length≤3518437208883):j7 cs row=some (dO cs row):=by
 unfold j7 dO;refine DI (row:=row) (λi l hi hl=>?_) (λl=>?_)
 ·simp only [pQ]
  rw[if_pos (by simpa using hi),ay hi,Jj,kM,Jj]
  have hj:∀x,mH l (i:Int) x=some (.inl (l++[x],((i+1:Nat):Int))):=by
   intro x;unfold mH;rw[aH (by simp;omega),Jj,ak (by omega)]
   rfl
  by_cases h0:0≤cs[i]
  ·rw [if_pos (by simp [h0])]
   unfold mI
   by_cases h1:cs[i]<(row.length:Int)
   ·rw[if_pos (by simp[h1]),HE Ap.zero ⟨h0,h1⟩,Jj,hj,if_pos ⟨h0,h1⟩]
   ·rw[if_neg (by simp;omega),hj,if_neg (by omega)];rfl
  ·rw [if_neg (by simp;omega)]
   unfold mI;rw[if_neg (by simp),hj,if_neg (by omega)];rfl
 ·simp only [pQ]
  rw[if_neg (by simp)];rfl
theorem w5 {cs:List Int}{row:List Ap}(hc:cs.length≤3518437208883):sa cs row=some (dO cs row):=by
 unfold sa dO;refine DI (row:=row) (λi l hi hl=>?_) (λl=>?_)
 ·simp only [wC]
  rw[if_pos (by simpa using hi),ay hi,Jj]
  have hj:∀x,s6 l (i:Int) x=some (.inl (l++[x],((i+1:Nat):Int))):=by
   intro x;unfold s6;rw[aH (by simp;omega),Jj,ak (by omega)]
   rfl
  by_cases h0:0≤cs[i]
  ·rw [if_pos (by simp [h0]),Jj]
   unfold s7
   by_cases h1:cs[i]<(row.length:Int)
   ·rw[if_pos (by simp[h1]),ay hi,Jj,HE Ap.zero ⟨h0,h1⟩,Jj,hj,if_pos ⟨h0,h1⟩]
   ·rw[if_neg (by simp;omega),hj,if_neg (by omega)];rfl
  ·rw [if_neg (by simp;omega)]
   unfold s7;rw[if_neg (by simp),hj,if_neg (by omega)];rfl
 ·simp only [wC]
  rw[if_neg (by simp)];rfl
def ilt:aM→aM→Bool:=pn (λa b=>decide (a.fEpoch<b.fEpoch)) (λa b=>decide (a.fNumber<b.fNumber))
theorem Sa:Swo ilt:=(R7.comap λv:aM=>v.fEpoch).lex (R7.comap λv:aM=>v.fNumber)
def qlt (cs:List Int):aa→aa→Bool:=pn (λa b=>rlt (dO cs a.fRow) (dO cs b.fRow)) (λa b=>ilt a.fId b.fId)
theorem gr (cs:List Int):Swo (qlt cs):=(R9.comap λv:aa=>dO cs v.fRow).lex (Sa.comap λv:aa=>v.fId)
theorem BT (a b:Int):mK [a,b]=some (if a≠0 then a else b):=by
 unfold mK;have e0:idx [a,b] 0=some a:=rfl;have e1:idx [a,b] 1=some b:=rfl
 by_cases ha:a=0
 ·have h0:gy [a,b] 0=some (.inl 1):=by
   simp only[gy];rw[if_pos (by simp),e0,Jj,if_neg (by simp[ha])];rfl
  rw[bP h0]
  by_cases hb:b=0
  ·have h1:gy [a,b] 1=some (.inl 2):=by
    simp only[gy];rw[if_pos (by simp),e1,Jj,if_neg (by simp[hb])];rfl
   rw[bP h1];apply a7;simp only[gy];rw[if_neg (by simp),ha,hb];rfl
  ·apply a7
   simp only[gy];rw[if_pos (by simp),e1,Jj,if_pos (by simp[hb]),if_neg (by simp[ha])];rfl
 ·apply a7
  simp only[gy];rw[if_pos (by simp),e0,Jj,if_pos (by simp[ha]),if_pos ha];rfl
theorem JA (a b:aM):lu a b=some (sgn ilt a b):=by
 unfold lu ilt;rw[PY,Jj,PZ,Jj,BT,Jj,vh (R7.comap λv:aM=>v.fEpoch)]
 rfl
theorem Gd {cs:List Int}(hc:cs.length≤3518437208883)(a b:aa):eI a b cs=some (sgn (qlt cs) a b):=by
 unfold eI qlt;rw[z7 hc,Jj,z7 hc,Jj,vi (by rw[ml];omega) (by rw[ml];omega),Jj,JA,Jj,BT,Jj,vh (R9.comap λv:aa=>dO cs v.fRow)]
 rfl
theorem Ge {cs:List Int}(hc:cs.length≤3518437208883):Cmp (qlt cs) (λa b=>eI a b cs):=λa b=>⟨_,Gd hc a b,zZ⟩
theorem DJ (a b:aM):wD a b=some (ilt a b):=by
 unfold wD ilt pn
 by_cases h:a.fEpoch=b.fEpoch
 ·rw[if_neg (by simp[h])];simp[h]
 ·rw [if_pos (by simp [h])]
  by_cases hl:a.fEpoch<b.fEpoch
  ·simp[hl]
  ·have:b.fEpoch<a.fEpoch:=by omega
   simp[hl,this]
theorem BU {cs:List Int}(hc:cs.length≤3518437208883)(a b:aa):wE cs a b=some (qlt cs a b):=by
 unfold wE qlt pn;rw[w5 hc,Jj,w5 hc,Jj,z6 (by rw[ml];omega) (by rw[ml];omega),Jj,DJ];unfold sgn;cases e1:rlt (dO cs a.fRow) (dO cs b.fRow)
 ·cases e2:rlt (dO cs b.fRow) (dO cs a.fRow)
  ·simp[e1,e2]
  ·simp[e1,e2]
 ·simp[e1]
set_option linter.unusedVariables false
set_option linter.unusedSimpArgs false
def Rok (l:List aa):Prop:= ∀v∈l,v.fRow.length≤1048576
theorem own_eq {v:aa}(h:v.fRow.length≤1048576):j6 v=some v:=by
  unfold j6 dS;rw[aH (by simp;omega)];simp
theorem iU {α:Type}{xs:List α}{i:Nat}(h:i<xs.length):xs.take (i+1)=xs.take i++[xs[i]]:=by
  rw[List.take_add_one,Z0 h];rfl
theorem BV {cs:List Int}{xs:List aa}(hc:cs.length≤1048576)(hx:xs.length≤1048576)(hr:Rok xs):∃T,iX cs xs=some T∧Stb (qlt cs) xs T:=by
  obtain⟨T,h1,h2⟩:=HD (gr cs) (Ge (cs:=cs) (by omega)) xs (by omega);refine⟨T,?_,h2⟩;unfold iX;refine(gM (λi=>((i:Int),xs.take i)) xs.length (by simp) (λi hi=>?_) (b:=iC cs xs) ?_).trans ?_
  · simp only [iD]
    rw[if_pos (by simpa using hi),ay hi,Jj,own_eq (hr _ (Z8 hi)),Jj,aH (by simp;omega),Jj,iU hi,ak (by omega)]
    rfl
  · simp only [iD]
    rw[if_neg (by simp),Za]
  · unfold iC
    rw[h1];rfl
theorem DK {cs : List Int} {xs : List aa} (hc : cs.length ≤ 1048576) (hx : xs.length ≤ 1048576) :∃ T, wG cs xs = some T ∧ Stb (qlt cs) xs T := by
  unfold wG;refine gB (λs=>∃k:Nat,s.2=(k:Int)∧k≤xs.length∧Stb (qlt cs) (xs.take k) s.1) (λs=>xs.length - s.2.toNat) (λT=>Stb (qlt cs) xs T) ?_ ⟨0,rfl,by simp,Stb.nil⟩;rintro ⟨out,i⟩ ⟨k,rfl,hk,hs⟩;simp only at hk hs;have hol:=hs.len (gr cs);rw[X7] at hol;simp only[wF]
  by_cases hkx:k<xs.length
  · left
    rw[if_pos (by simpa using hkx)]
    have inner: ∀(n:Nat) (S1 S2:List aa),S1.length=n→out=S1++S2→(∀s∈S2,qlt cs xs[k] s=true)→
        ∃T,am (λs:Int=>kB cs xs out (k:Int) s) (n:Int)=some (.inl (T,((k+1:Nat):Int)))∧Stb (qlt cs) (out++[xs[k]]) T:=by
      intro n
      induction n with
      | zero =>
        intro S1 S2 hn ho h2;obtain rfl:=Zg hn;have hst:=Stb.ins (gr cs) (S1:=[]) (S2:=S2) (v:=xs[k]) (by rw[←ho];exact hs.srt) h2 (by simp);rw[←ho] at hst;refine⟨_,?_,hst⟩;apply a7;simp only[kB];rw[if_neg (by simp),pa];have e1:sub out 0 ((0:Nat):Int)=some ((out.take 0).drop 0):=dI (lo:=0) (hi:=0) (by omega) (by omega);have e2:sub out ((0:Nat):Int) (out.length:Int)=some ((out.take out.length).drop 0):=dI (lo:=0) (hi:=out.length) (by omega) (by omega);rw[e1,Jj,aH (by simp),Jj,ay hkx,Jj,aH (by simp),Jj,e2,Jj,aH (by simp;omega),Jj,sc,ak (by omega)];simp[ho]
      | succ n ih =>
        intro S1 S2 hn ho h2;obtain⟨S1',s,rfl,hn'⟩:=Ba hn;have hol2:out.length=n+1+S2.length:=by rw[ho];simp;omega
        have hs1:out[n]? =some s:=by rw[ho,←hn'];simp
        obtain⟨hsl,hsx⟩:=List.getElem?_eq_some_iff.1 hs1;cases hl:qlt cs xs[k] s with
        | true =>
          have hst:kB cs xs out (k:Int) ((n+1:Nat):Int)=some (.inl (n:Int)):=by
            simp only[kB];rw[if_pos (by simp),ay hkx,Jj,ak (by omega),show((n+1:Nat):Int) - 1=(n:Int) by omega,ay hsl,Jj,hsx,BU (by omega),Jj,hl]
            rfl
          rw[bP hst]
          exact ih S1' (s::S2) hn' (by rw[ho];simp) (by
            intro x hx;rcases Xb.1 hx with rfl|hx
            ·exact hl
            ·exact h2 x hx)
        | false =>
          have hsrt:Srt (qlt cs) ((S1'++[s])++S2):=by rw[←ho];exact hs.srt
          have hst:=Stb.ins (gr cs) (v:=xs[k]) hsrt h2 (CU (gr cs) (List.Pairwise.sublist (List.sublist_append_left _ _) hsrt) hl);rw[←ho] at hst;refine⟨_,?_,hst⟩;apply a7;simp only[kB];rw[if_pos (by simp),ay hkx,Jj,ak (by omega),show((n+1:Nat):Int) - 1=(n:Int) by omega,ay hsl,Jj,hsx,BU (by omega),Jj,hl];rw[if_pos (by rfl),pa];have e1:sub out 0 ((n+1:Nat):Int)=some ((out.take (n+1)).drop 0):=dI (lo:=0) (hi:=n+1) (by omega) (by omega);have e2:sub out ((n+1:Nat):Int) (out.length:Int)=some ((out.take out.length).drop (n+1)):=dI (lo:=n+1) (hi:=out.length) (by omega) (by omega)
          rw[e1,Jj,aH (by simp;omega),Jj,ay hkx,Jj,aH (by simp;omega),Jj,e2,Jj,aH (by simp;omega),Jj,sc,ak (by omega)];have t1:out.take (n+1)=S1'++[s]:=by rw[ho];exact List.take_left' hn
          have t2:out.drop (n+1)=S2:=by rw[ho];exact X3 hn
          rw[Za,t2,Zq,t1];simp
    obtain⟨T,h1,h2⟩:=inner out.length out [] rfl (by simp) (by simp);refine⟨(T,((k+1:Nat):Int)),h1,⟨k+1,rfl,hkx,?_⟩,by simp;omega⟩;rw[iU hkx];exact hs.app h2
  · right
    rw[if_neg (by simp;omega)];refine⟨out,rfl,?_⟩;rwa[Z2 (by omega)] at hs
theorem Rok.flat {ls:List (List aa)}(h:∀l∈ls,Rok l):Rok ls.flatten:=by
  intro v hv;obtain⟨l,hl,hv⟩:=List.mem_flatten.1 hv;exact h l hl v hv
theorem DL {r:List Ap}(h:r.length≤1048576):rg r r=some true:=by
  unfold rg;rw[if_neg (by simp)];refine gM (λi=>(i:Int)) r.length rfl (λi hi=>?_) ?_
  · simp only [qN]
    rw[if_pos (by simpa using hi),ay hi,Jj,Jj,if_neg (by simp),ak (by omega)];rfl
  · simp only [qN]
    rw[if_neg (by simp)];rfl
theorem xQ {xs:List aa}(h:xs.length≤1048576)(hr:Rok xs):jN xs xs=some true:=by
  unfold jN;rw[if_neg (by simp)];refine gM (λi=>(i:Int)) xs.length rfl (λi hi=>?_) ?_
  · have hv : mL xs[i] xs[i] = some true := by
      unfold mL;rw[DL (hr _ (Z8 hi)),Jj,if_pos rfl,if_pos (by simp)];simp[kg]
    simp only[mf];rw[if_pos (by simpa using hi),ay hi,Jj,Jj,hv,Jj,if_neg (by simp),ak (by omega)];rfl
  · simp only [mf]
    rw[if_neg (by simp)];rfl
set_option linter.unusedVariables false
set_option linter.unusedSimpArgs false
theorem qD {σ β:Type} {f:σ→Option (σ⊕β)} {s:σ} (S:Nat→σ) (n:Nat) (good:Nat→Bool) (b0:β) (K:Option β) (h0:s=S 0) (step: ∀i,i<n→good i=true→f (S i)=some (.inl (S (i+1)))) (out: ∀i,i<n→good i=false→f (S i)=some (.inr b0))
  (fin:f (S n)=K.map Sum.inr):am f s=if (Z7 n).all good then K else some b0:=by
 have key:∀k i:Nat,i+k=n→am f (S i)=if (List.range' i k).all good then K else some b0:=by
  intro k
  induction k with
  |zero=>
   intro i hi;obtain rfl:i=n:=by omega
   rw[pD,fin];cases K<;>rfl
  |succ k ih=>
   intro i hi;rw[List.range'_succ,List.all_cons];cases hg:good i with
   |true=>rw[bP (step i (by omega) hg),ih (i+1) (by omega),Bool.true_and]
   |false=>rw[a7 (out i (by omega) hg)];simp
 rw[h0,key n 0 (by omega),List.range_eq_range']
structure lg (v:aa):Prop where
 ep:0≤v.fId.fEpoch∧v.fId.fEpoch<18446744073709551616
 nu:0≤v.fId.fNumber∧v.fId.fNumber<4294967296
 de:0≤v.fDeleted∧v.fDeleted<18446744073709551616
 row:∀x∈v.fRow,VOK x
 len:v.fRow.length≤1048576
theorem HG {xs:List Int}{n:Int}(h:xs.length≤1048576):∃i,k9 xs n=some i∧decide (0≤i)=xs.contains n:=by
 unfold k9
 have key :∀ k i : Nat, i + k = xs.length →∃ r, am (λs : Int => gH xs n s) (i : Int) = some r ∧ decide (0 ≤ r) = (xs.drop i).contains n := by
  intro k
  induction k with
  |zero=>
   intro i hi;refine⟨-1,?_,by rw[Z5 (by omega)];rfl⟩;apply a7;simp only[gH];rw[if_neg (by simp;omega)];rfl
  | succ k ih =>
   intro i hi;have hlt:i<xs.length:=by omega
   rw[Z3 hlt]
   by_cases he:n=xs[i]
   ·refine ⟨(i:Int),?_,by rw [List.contains_cons,he,beq_self_eq_true,Bool.true_or];simp⟩
    apply a7;simp only[gH];rw[if_pos (by simpa using hlt),ay hlt,Jj,if_pos (by simp[he])];rfl
   ·obtain ⟨r,h1,h2⟩:=ih (i+1) (by omega)
    refine⟨r,?_,?_⟩
    ·rw [bP (s':=((i+1:Nat):Int))]
     ·exact h1
     ·simp only [gH]
      rw[if_pos (by simpa using hlt),ay hlt,Jj,if_neg (by simp[he]),ak (by omega)];rfl
    ·have e1:(n==xs[i])=false:=by simpa using he
     rw[h2,List.contains_cons,e1,Bool.false_or]
 obtain⟨r,h1,h2⟩:=key xs.length 0 (by omega);exact⟨r,h1,by simpa using h2⟩
theorem DM {xs:List Int}{n:Int}(h:xs.length≤1048576):gI xs n=some (xs.contains n):=by
 obtain⟨i,h1,h2⟩:=HG (n:=n) h;unfold gI;rw[h1,Jj,h2]
def su (cols:Int) (v:aa):Bool:=
 v.fRow.all right&&(decide ((v.fRow.length:Int)=cols)&&(decide (1≤v.fId.fEpoch)&&(decide (v.fId.fEpoch≤9223372036854775807)&& !(decide (v.fDeleted≠0)&&(decide (v.fDeleted≤v.fId.fEpoch)||decide (9223372036854775807<v.fDeleted))))))
theorem HH {cols:Int}{v:aa}(h:v.fRow.length≤1048576):lw cols v=some (su cols v):=by
 unfold lw
 have hj:∀x,jh cols v x=some (decide ((v.fRow.length:Int)=cols)&&(decide (1≤v.fId.fEpoch)&&(decide (v.fId.fEpoch≤9223372036854775807)&& !x))):=by
  intro x;unfold jh jg
  by_cases h1:(v.fRow.length:Int)=cols<;>by_cases h2:1≤v.fId.fEpoch<;>by_cases h3:v.fId.fEpoch≤9223372036854775807<;>simp[h1,h2,h3]
 have hK:la cols v=some (decide ((v.fRow.length:Int)=cols)&&(decide (1≤v.fId.fEpoch)&&(decide (v.fId.fEpoch≤9223372036854775807)&& !(decide (v.fDeleted≠0)&&(decide (v.fDeleted≤v.fId.fEpoch)||decide (9223372036854775807<v.fDeleted)))))):=by
  unfold la;simp only[hj]
  by_cases h1:v.fDeleted=0<;>by_cases h2:v.fDeleted≤v.fId.fEpoch<;>simp[h1,h2]
 refine(qD (λi=>(i:Int)) v.fRow.length (λi=>match v.fRow[i]? with|some x=>right x|none=>true) false (la cols v) rfl (λi hi hg=>?_) (λi hi hg=>?_) ?_).trans ?_
 ·simp only [Z0 hi] at hg
  simp only[lc];rw[if_pos (by simpa using hi),ay hi,Jj,iZ,Jj,hg,if_neg (by simp),ak (by omega)];rfl
 ·simp only [Z0 hi] at hg
  simp only[lc];rw[if_pos (by simpa using hi),ay hi,Jj,iZ,Jj,hg,if_pos (by simp)];rfl
 ·simp only [lc]
  rw[if_neg (by simp)]
 ·have e:(Z7 v.fRow.length).all (λi=>match v.fRow[i]? with|some x=>right x|none=>true)=v.fRow.all right:=by
   rw[Zs];simp only[Zi,Zr];constructor
   ·intro h x hx
    obtain⟨i,hi,rfl⟩:=Zf hx;have:=h i hi;rwa[Z0 hi] at this
   ·intro h i hi
    rw[Z0 hi];exact h _ (Z8 hi)
  rw[e,hK];unfold su;cases v.fRow.all right<;>simp
def rt (cols:Int)(srt:List Int)(i:Nat):Bool:=match srt[i]? with
 |some n=>decide (0≤n)&&(decide (n<cols)&& !(srt.take i).contains n)
 |none=>true
def qn (cols:Int)(l:List aa)(i:Nat):Bool:=match l[i]? with
 |some v=>su cols v&& !((l.take i).map (·.fId)).contains v.fId
 |none=>true
def ru (cols:Int)(srt:List Int):Bool:=(Z7 srt.length).all (rt cols srt)
def po (cols:Int)(l:List aa):Bool:=(Z7 l.length).all (qn cols l)
def qV (cols:Int) (srt:List Int) (l:List aa):Int:=
 if cols<1∨8<cols then 1 else if ru cols srt then (if 4096<l.length then 81 else if po cols l then 0 else 81) else 1
def mR (l:List aa)(i:Nat):List aM:=((l.take i).map (·.fId)).reverse
theorem JB {l:List aM}{x:aM}(h:l.length≤1048576):decide (1<jw (x::l) x)=l.contains x:=by
 unfold jw;have h1:(x::l).count x=l.count x+1:=by simp
 have h2:l.count x≤l.length:=List.count_le_length;rw[h1,ak (by omega)]
 by_cases hm:x∈l
 ·have:0<l.count x:=List.count_pos_iff.2 hm
  simp[hm];omega
 ·have:l.count x=0:=List.count_eq_zero.2 hm
  simp[hm,this]
theorem DN {cols:Int} {l:List aa} (hl:l.length≤4096) (hv: ∀v∈l,lg v):
  am (λs:(Int×List aM)=>dx cols l s.1 s.2) (0,([]:List aM))=if po cols l then some 0 else some 81:=by
 have hj:∀(i:Nat) (hi:i<l.length) b,fI (i:Int) (mR l i) l[i] b=if b then some (.inr 81) else some (.inl (((i+1:Nat):Int),mR l (i+1))):=by
  intro i hi b;unfold fI;cases b
  ·rw [if_neg (by simp),if_neg (by simp),ak (by omega)]
   have:mR l (i+1)=l[i].fId::mR l i:=by
    unfold mR;rw[iU hi,Z9,List.reverse_append];rfl
   rw[this];rfl
  ·rw[if_pos rfl,if_pos rfl];rfl
 have hb:∀(i:Nat) (hi:i<l.length),dx cols l (i:Int) (mR l i)=if qn cols l i then some (.inl (((i+1:Nat):Int),mR l (i+1))) else some (.inr 81):=by
  intro i hi;have hlen:=(hv _ (Z8 hi)).len;simp only[dx];rw[if_pos (by simpa using hi),ay hi,Jj,HH hlen,Jj,hj i hi,hj i hi,JB (by simp[mR];omega)];unfold qn;rw[Z0 hi];dsimp only
  have hc:(mR l i).contains l[i].fId=((l.take i).map (·.fId)).contains l[i].fId:=by
   unfold mR;rw[Zs];simp
  rw[hc];rcases Zc (((l.take i).map (·.fId)).contains l[i].fId) with hq|hq<;>rcases Zc (su cols l[i]) with hz|hz<;>simp only[hq,hz]<;>rfl
 refine qD (λi=>((i:Int),mR l i)) l.length (qn cols l) 81 (some 0) rfl (λi hi hg=>?_) (λi hi hg=>?_) ?_
 ·show dx cols l (i:Int) (mR l i)=_
  rw[hb i hi,hg];rfl
 ·show dx cols l (i:Int) (mR l i)=_
  rw[hb i hi,hg];rfl
 ·simp only [dx]
  rw[if_neg (by simp)];rfl
theorem vj {cols:Int}{srt:List Int}{l:List aa}(hs:srt.length≤1048576)(hv:∀v∈l,lg v):gg cols srt l=some (qV cols srt l):=by
 have h2:eJ cols l=some (if 4096<l.length then 81 else if po cols l then 0 else 81):=by
  unfold eJ
  by_cases h:4096<l.length
  ·rw[if_pos (by simp;omega),if_pos h]
  ·rw [if_neg (by simp;omega),if_neg h,DN (by omega) hv]
   cases po cols l<;>rfl
 have hj:∀i:Nat,i<srt.length→∀b,eK (i:Int) b=if b then some (.inr 1) else some (.inl ((i+1:Nat):Int)):=by
  intro i hi b;unfold eK;cases b
  ·rw[if_neg (by simp),if_neg (by simp),ak (by omega)];rfl
  ·rfl
 have h1 :∀ b, fK cols srt l b = if b then some 1 else if ru cols srt then eJ cols l else some 1 := by
  intro b;unfold fK;cases b
  ·rw [if_neg (by simp), if_neg (by simp)]
   have hb:∀(i:Nat) (hi:i<srt.length),fJ cols srt l (i:Int)=if rt cols srt i then some (.inl ((i+1:Nat):Int)) else some (.inr 1):=by
    intro i hi;simp only[fJ];rw[if_pos (by simpa using hi),ay hi,Jj]
    have hsb:sub srt 0 (i:Int)=some (srt.take i):=by
     have:=dI (xs:=srt) (lo:=0) (hi:=i) (by omega) (by omega);simpa using this
    rw[hsb,Jj,DM (by simp;omega),Jj];simp only[hj i hi];unfold rt;rw[Z0 hi];dsimp only
    by_cases q1:srt[i]<0
    ·have q4: ¬ 0≤srt[i]:=by omega
     simp[q1,q4]
    ·by_cases q2:cols≤srt[i]
     ·have q3: ¬ srt[i]<cols:=by omega
      simp[q1,q2,q3]
     ·have q3:srt[i]<cols:=by omega
      have q4:0≤srt[i]:=by omega
      rw[if_neg (by simp[q1]),if_neg (by simp[q2])];rcases Zc ((srt.take i).contains srt[i]) with hq|hq<;>simp only[hq,decide_eq_true q3,decide_eq_true q4]<;>rfl
   refine qD (λi=>(i:Int)) srt.length (rt cols srt) 1 (eJ cols l) rfl (λi hi hg=>?_) (λi hi hg=>?_) ?_
   ·rw[hb i hi,hg];rfl
   ·rw[hb i hi,hg];rfl
   ·simp only [fJ]
    rw[if_neg (by simp)]
  ·rfl
 unfold gg qV;simp only[h1,h2]
 by_cases q1:cols<1
 ·simp[q1]
 ·by_cases q2:8<cols
  ·simp[q1,q2]
  ·simp only [q1,q2,decide_false,Bool.false_eq_true,if_false,or_self]
   cases ru cols srt<;>simp
set_option linter.unusedVariables false
set_option linter.unusedSimpArgs false
theorem DO {α:Type} [DecidableEq α]{l:List α}{i:Nat}{x:α}(h:i≤l.length):(Z7 i).all (λk=>(l[k]?).all λy=> !decide (y=x))= !(l.take i).contains x:=by
 rw[Zs];simp only[Zi,Zr,Zd,Zu,decide_eq_false_iff_not];constructor
 ·intro h1 hm
  obtain⟨k,hk,he⟩:=Zf hm;have hk':k<i:=by simp at hk;omega
  have h2:=h1 k hk'
  have h3:l[k]? =some x:=by
   rw[Z0 (by omega)];simpa using he
  rw[h3,Zj] at h2;simp at h2
 ·intro h1 k hk
  have hkl:k<l.length:=by omega
  rw[Z0 hkl,Zj];simp only[Zd,decide_eq_false_iff_not];intro e;apply h1;rw[←e];exact List.mem_of_getElem? (i:=k) (by rw[X4 hk,Z0 hkl])
theorem JC {α:Type}(l:List α)(p:α→Bool):(Z7 l.length).all (λi=>(l[i]?).all λx=>p x)=l.all p:=by
 rw[Zs];simp only[Zi,Zr];constructor
 ·intro h x hx
  obtain⟨i,hi,rfl⟩:=Zf hx;have:=h i hi;rwa[Z0 hi,Zj] at this
 ·intro h i hi
  rw[Z0 hi,Zj];exact h _ (Z8 hi)
theorem DP {cols:Int} {l:List aa} (hl:l.length≤4096) (hv: ∀v∈l,lg v) (i:Nat) (hi:i<l.length):
  n7 cols l (i:Int)=if qn cols l i then some (.inl ((i+1:Nat):Int)) else some (.inr 81):=by
 have hok:=hv _ (Z8 hi);have hlen:=hok.len
 have h6:lx l (i:Int) l[i]=if !((l.take i).map (·.fId)).contains l[i].fId then some (.inl ((i+1:Nat):Int)) else some (.inr 81):=by
  have hrow:((l.take i).map (·.fId))=(l.map (·.fId)).take i:=by simp
  have ha:=DO (l:=l.map (·.fId)) (i:=i) (x:=l[i].fId) (by simp;omega);rw[hrow,←ha];unfold lx
  have e:(Z7 i).all (λk=>((l.map (·.fId))[k]?).all λy=> !decide (y=l[i].fId))=(Z7 i).all (λk=>(l[k]?).all λy=> !decide (y.fId=l[i].fId)):=by
   congr 1;funext k;rw[List.getElem?_map];cases l[k]? <;>rfl
  rw[e];refine qD (λk=>(k:Int)) i (λk=>(l[k]?).all λy=> !decide (y.fId=l[i].fId)) (Sum.inr 81) (some (.inl ((i+1:Nat):Int))) rfl (λk hk hg=>?_) (λk hk hg=>?_) ?_
  ·have hkl:k<l.length:=by omega
   simp only[Z0 hkl,Zj] at hg;simp only[nZ];rw[if_pos (by simpa using hk),ay hkl,Jj,if_neg (by simpa using hg),ak (by omega)];rfl
  ·have hkl:k<l.length:=by omega
   simp only[Z0 hkl,Zj] at hg;simp only[nZ];rw[if_pos (by simpa using hk),ay hkl,Jj,if_pos (by simpa using hg)];rfl
  ·simp only [nZ]
   rw[if_neg (by simp),vF,ak (by omega)];rfl
 have h5:∀b,gA l (i:Int) l[i] b=if b then some (.inr 81) else if l[i].fRow.all right then lx l (i:Int) l[i] else some (.inr 81):=by
  intro b;unfold gA;cases b
  ·rw [if_neg (by simp),if_neg (by simp), ←JC]
   refine qD (λk=>(k:Int)) l[i].fRow.length (λk=>(l[i].fRow[k]?).all λx=>right x) (Sum.inr 81) (lx l (i:Int) l[i]) rfl (λk hk hg=>?_) (λk hk hg=>?_) ?_
   ·simp only [Z0 hk,Zj] at hg
    simp only[n5];rw[if_pos (by simpa using hk),ay hk,Jj,pd,Jj,hg,if_neg (by simp),ak (by omega)];rfl
   ·simp only [Z0 hk,Zj] at hg
    simp only[n5];rw[if_pos (by simpa using hk),ay hk,Jj,pd,Jj,hg,if_pos (by simp)];rfl
   ·simp only [n5]
    rw[if_neg (by simp)]
  ·rfl
 simp only[n7];rw[if_pos (by simpa using hi),ay hi,Jj];simp only[h5,h6];unfold qn su;rw[Z0 hi];dsimp only;have he:=hok.ep;have hd:=hok.de
 rcases Zc (((l.take i).map (·.fId)).contains l[i].fId) with hq|hq<;>rcases Zc (l[i].fRow.all right) with hz|hz<;>simp only [hq,hz]<;>
  by_cases c1:(l[i].fRow.length:Int)=cols<;>by_cases c2:l[i].fId.fEpoch=0<;>by_cases c3:9223372036854775807<l[i].fId.fEpoch<;>by_cases c4:9223372036854775807<l[i].fDeleted<;>by_cases c5:l[i].fDeleted=0<;>by_cases c6:l[i].fDeleted≤l[i].fId.fEpoch<;>
  simp[c1,c2,c3,c4,c5,c6]<;>omega
theorem Ld {cols:Int}{srt:List Int}{l:List aa}(hs:srt.length≤1048576)(hv:∀v∈l,lg v):uZ cols srt l=some (qV cols srt l):=by
 have h2:ly cols l=some (if 4096<l.length then 81 else if po cols l then 0 else 81):=by
  unfold ly
  by_cases h:4096<l.length
  ·rw[if_pos (by simp;omega),if_pos h]
  ·rw [if_neg (by simp;omega),if_neg h]
   refine(qD (λi=>(i:Int)) l.length (qn cols l) 81 (some 0) rfl (λi hi hg=>?_) (λi hi hg=>?_) ?_).trans ?_
   ·rw[DP (by omega) hv i hi,hg];rfl
   ·rw[DP (by omega) hv i hi,hg];rfl
   ·simp only [n7]
    rw[if_neg (by simp)];rfl
   ·show (if po cols l then some 0 else some 81)=_
    cases po cols l<;>rfl
 have h8:∀(i:Nat) (hi:i<srt.length) b,n9 srt (i:Int) b=if b then some (.inr 1) else if !(srt.take i).contains srt[i] then some (.inl ((i+1:Nat):Int)) else some (.inr 1):=by
  intro i hi b;unfold n9;cases b
  ·rw [if_neg (by simp),if_neg (by simp), ←DO (by omega)]
   refine qD (λk=>(k:Int)) i (λk=>(srt[k]?).all λy=> !decide (y=srt[i])) (Sum.inr 1) (some (.inl ((i+1:Nat):Int))) rfl (λk hk hg=>?_) (λk hk hg=>?_) ?_
   ·have hkl:k<srt.length:=by omega
    simp only[Z0 hkl,Zj] at hg;simp only[n8];rw[if_pos (by simpa using hk),ay hkl,Jj,ay hi,Jj,if_neg (by simpa using hg),ak (by omega)];rfl
   ·have hkl:k<srt.length:=by omega
    simp only[Z0 hkl,Zj] at hg;simp only[n8];rw[if_pos (by simpa using hk),ay hkl,Jj,ay hi,Jj,if_pos (by simpa using hg)];rfl
   ·simp only [n8]
    rw[if_neg (by simp),vG,ak (by omega)];rfl
  ·rfl
 have h1 :∀ b, oc cols srt l b = if b then some 1 else if ru cols srt then ly cols l else some 1 := by
  intro b;unfold oc;cases b
  ·rw [if_neg (by simp), if_neg (by simp)]
   have hb:∀(i:Nat) (hi:i<srt.length),oa cols srt l (i:Int)=if rt cols srt i then some (.inl ((i+1:Nat):Int)) else some (.inr 1):=by
    intro i hi;simp only[oa];rw[if_pos (by simpa using hi),ay hi,Jj,Jj];simp only[h8 i hi];unfold rt;rw[Z0 hi];dsimp only
    by_cases q1:srt[i]<0
    ·have q4: ¬ 0≤srt[i]:=by omega
     simp[q1,q4]
    ·by_cases q2:cols≤srt[i]
     ·have q3: ¬ srt[i]<cols:=by omega
      simp[q1,q2,q3]
     ·have q3:srt[i]<cols:=by omega
      have q4:0≤srt[i]:=by omega
      rw[if_neg (by simp[q1]),if_neg (by simp[q2])];rcases Zc ((srt.take i).contains srt[i]) with hq|hq<;>simp only[hq,decide_eq_true q3,decide_eq_true q4]<;>rfl
   refine qD (λi=>(i:Int)) srt.length (rt cols srt) 1 (ly cols l) rfl (λi hi hg=>?_) (λi hi hg=>?_) ?_
   ·rw[hb i hi,hg];rfl
   ·rw[hb i hi,hg];rfl
   ·simp only [oa]
    rw[if_neg (by simp)]
  ·rfl
 unfold uZ qV;simp only[h1,h2]
 by_cases q1:cols<1
 ·simp[q1]
 ·by_cases q2:8<cols
  ·simp[q1,q2]
  ·simp only [q1,q2,decide_false,Bool.false_eq_true,if_false,or_self]
   cases ru cols srt<;>simp
structure pp (cols:Int) (srt:List Int) (l:List aa):Prop where
 co:1≤cols∧cols≤8
 so:ru cols srt=true
 le:l.length≤4096
 ro:po cols l=true
theorem Q8 {cols:Int}{srt:List Int}{l:List aa}:qV cols srt l=0↔pp cols srt l:=by
 unfold qV;constructor
 ·intro h
  by_cases c1:cols<1∨8<cols
  ·rw[if_pos c1] at h;cases h
  ·rw [if_neg c1] at h
   cases c2:ru cols srt with
   |false=>rw[c2] at h;cases h
   | true =>
    rw[c2,if_pos rfl] at h
    by_cases c3:4096<l.length
    ·rw[if_pos c3] at h;cases h
    ·rw [if_neg c3] at h
     cases c4:po cols l with
     |false=>rw[c4] at h;cases h
     |true=>exact⟨by omega,c2,by omega,c4⟩
 ·intro h
  have h1:=h.co;have h2:=h.le;rw[if_neg (by omega),h.so,if_pos rfl,if_neg (by omega),h.ro,if_pos rfl]
theorem pp.ver {cols:Int}{srt:List Int}{l:List aa}(h:pp cols srt l):∀v∈l,su cols v=true:=by
 intro v hv;obtain⟨i,hi,rfl⟩:=Zf hv;have h1:=Zi.1 h.ro i (Zr.2 hi);unfold qn at h1;rw[Z0 hi] at h1;simp only[Ze] at h1;exact h1.1
theorem qE {cols:Int}{v:aa}(hv:lg v)(h:su cols v=true):(∀x∈v.fRow,Rgt x)∧(v.fRow.length:Int)=cols∧1≤v.fId.fEpoch∧v.fId.fEpoch≤9223372036854775807∧(v.fDeleted=0∨v.fId.fEpoch<v.fDeleted∧v.fDeleted≤9223372036854775807):=by
 unfold su at h;simp only[Ze,decide_eq_true_eq,Zd,Zt,Zm,decide_eq_false_iff_not,Zi] at h;obtain⟨h1,h2,h3,h4,h5⟩:=h;refine⟨λx hx=>Rgt.of (hv.row x hx) (h1 x hx),h2,h3,h4,?_⟩;rcases h5 with h5|h5
 ·left;simpa using h5
 ·right;omega
set_option linter.unusedVariables false
set_option linter.unusedSimpArgs false
structure CV (cols:Int) (l:List aa):Prop where
 co:1≤cols∧cols≤8
 le:l.length≤4096
 ok:∀v∈l,lg v∧su cols v=true
theorem CV.of {cols:Int}{srt:List Int}{l:List aa}(h:pp cols srt l)(hv:∀v∈l,lg v):CV cols l:=⟨h.co,h.le,λv hm=>⟨hv v hm,h.ver v hm⟩⟩
theorem CV.mem {cols:Int}{l l':List aa}(h:CV cols l)(hl:l'.length=l.length)(hm:∀v∈l',v∈l):CV cols l':=⟨h.co,by rw[hl];exact h.le,λv hv=>h.ok v (hm v hv)⟩
def gm (cols:Int) (n:Nat) (v:aa):Ap:=
 if (n:Int)<cols then v.fRow.getD n ld else if (n:Int)=cols then iR v.fId.fEpoch else if (n:Int)=cols+1 then iR v.fId.fNumber else iR v.fDeleted
def kH (cols:Int)(n:Nat)(l:List aa):List Ap:=l.map (gm cols n)
theorem E7 {cols:Int}{l:List aa}(h:CV cols l){v:aa}(hv:v∈l)(n:Nat):Rgt (gm cols n v):=by
 obtain⟨h1,h2⟩:=h.ok v hv;obtain⟨h3,h4,h5,h6,h7⟩:=qE h1 h2;unfold gm;split
 ·have hn:n<v.fRow.length:=by omega
  have:v.fRow.getD n ld=v.fRow[n]:=by simp[hn]
  rw[this];exact h3 _ (Z8 hn)
 ·have hd:=h1.de
  have hn:=h1.nu;split
  ·exact Rgt.int _ (by unfold cX;omega)
  ·split
   ·exact Rgt.int _ (by unfold cX;omega)
   ·exact Rgt.int _ (by unfold cX;omega)
theorem E8 {cols:Int} {n:Nat} {l:List aa} {f:List Ap×Int→Option ((List Ap×Int)⊕List Ap)} (hl:l.length≤4096)
  (step:∀(i:Nat) (h:i<l.length) (x:List Ap),x.length=i→f (x,(i:Int))=some (.inl (x++[gm cols n l[i]],((i+1:Nat):Int)))) (fin:∀x,f (x,(l.length:Int))=some (.inr x)):am f ([],0)=some (kH cols n l):=by
 refine gM (λi=>((l.take i).map (gm cols n),(i:Int))) l.length (by simp) (λi hi=>?_) ?_
 ·show f ((l.take i).map (gm cols n),(i:Int))=_
  rw[step i hi _ (by simp;omega),iU hi,Z9]
  rfl
 ·show f ((l.take l.length).map (gm cols n),(l.length:Int))=_
  rw[fin,Za];rfl
theorem HI {cols:Int}{n:Nat}{l:List aa}(h:CV cols l)(hn:(n:Int)<cols+3):kC cols (n:Int) l=some (kH cols n l):=by
 have hle:=h.le;have hco:=h.co;unfold kC;refine E8 hle (λi hi x hx=>?_) (λx=>?_)
 ·obtain ⟨h1,h2⟩:=h.ok _ (Z8 hi)
  obtain⟨h3,h4,h5,h6,h7⟩:=qE h1 h2;have hd:=h1.de;have hnu:=h1.nu;simp only[ni,eG,Jj];have hj:∀z,gp (i:Int) z=some (.inl (z,((i+1:Nat):Int))):=λz=>by unfold gp;rw[ak (by omega)];rfl
  have ha:∀y:Ap,app 3518437208883 x [y]=some (x++[y]):=λy=>aH (by simp;omega);rw[if_pos (by simpa using hi),ay hi,Jj,ak (n:=(n:Int) - cols) (by omega)];simp only[ha,Jj,hj];unfold gm
  by_cases c1:(n:Int)=cols
  ·rw[if_pos (by simp;omega),if_neg (by omega),if_pos c1,ak (by omega)]
  ·rw [if_neg (by simp;omega)]
   by_cases c2:(n:Int)=cols+1
   ·rw[if_pos (by simp;omega),if_neg (by omega),if_neg c1,if_pos c2,ak (by omega)]
   ·rw [if_neg (by simp;omega)]
    by_cases c3:(n:Int)=cols+2
    ·rw[if_pos (by simp;omega),if_neg (by omega),if_neg c1,if_neg c2,ak (by omega)]
    ·have hr:n<l[i].fRow.length:=by omega
     rw[if_neg (by simp;omega),if_pos (by omega),ay hr,Jj];simp[hr]
 ·simp only [ni]
  rw[if_neg (by simp)];rfl
theorem Gf {cols:Int}{n:Nat}{l:List aa}(h:CV cols l)(hn:(n:Int)<cols+3):wI cols (n:Int) l=some (kH cols n l):=by
 have hle:=h.le;have hco:=h.co;unfold wI;refine E8 hle (λi hi x hx=>?_) (λx=>?_)
 ·obtain ⟨h1,h2⟩:=h.ok _ (Z8 hi)
  obtain⟨h3,h4,h5,h6,h7⟩:=qE h1 h2;have hd:=h1.de;have hnu:=h1.nu;simp only[sd];have hj:∀z,kE (i:Int) z=some (.inl (z,((i+1:Nat):Int))):=λz=>by unfold kE;rw[ak (by omega)];rfl
  have ha:∀y:Ap,app 3518437208883 x [y]=some (x++[y]):=λy=>aH (by simp;omega);rw[if_pos (by simpa using hi),ay hi,Jj,ak (n:=cols+1) (by omega)];simp only[ha,Jj,hj];unfold gm
  by_cases c0:(n:Int)<cols
  ·have hr:n<l[i].fRow.length:=by omega
   rw[if_pos (by simpa using c0),if_pos c0,ay hr,Jj];simp[hr]
  ·rw [if_neg (by simpa using c0),if_neg c0]
   by_cases c1:(n:Int)=cols
   ·rw[if_pos (by simpa using c1),if_pos c1,ak (by omega)]
   ·rw [if_neg (by simpa using c1),if_neg c1]
    by_cases c2:(n:Int)=cols+1
    ·rw[if_pos (by simpa using c2),if_pos c2,ak (by omega)]
    ·rw[if_neg (by simpa using c2),if_neg c2,ak (by omega)]
 ·simp only [sd]
  rw[if_neg (by simp)];rfl
def cR (l:List Ap)(i:Nat):List Ap:=(l.drop (64*i)).take 64
def il (l:List Ap):Nat:=(l.length+63)/64
def jp (l:List Ap):List (List Ap):=(Z7 (il l)).map (cR l)
theorem pq (i:Nat):Z7 (i+1)=Z7 i++[i]:=List.range_succ
theorem DQ {l:List Ap}{i:Nat}(hi:i<il l)(hl:l.length≤4096):(l.take (min l.length (64*i+64))).drop (64*i)=cR l i:=by
 unfold cR il at*;rw[List.drop_take];rcases Nat.le_total l.length (64*i+64) with h|h
 ·rw[Nat.min_eq_left h,Z2 (by simp),Z2 (by simp;omega)]
 ·rw [Nat.min_eq_right h]
  congr 1;omega
theorem JD {l:List Ap}(hl:l.length≤4096):ij l 64=some (jp l):=by
 unfold ij;rw[if_neg (by simp)];unfold ir fV gh
 have:am (λs:Int×List (List Ap)=>cK (λ(s:List (List Ap)) x=>some (s++[x],true)) l 64 s.1 s.2) (0,[])=some (jp l):=by
  refine gM (λi=>(((64*i:Nat):Int),(Z7 i).map (cR l))) (il l) (by simp) (λi hi=>?_) ?_
  ·have hlt:64*i<l.length:=by unfold il at hi;omega
   simp only[cK]
   have h1:sub l ((64*i:Nat):Int) (l.length:Int)=some (l.drop (64*i)):=by
    have:=dI (xs:=l) (lo:=64*i) (hi:=l.length) (by omega) (Zl _);rwa[Za] at this
   have h2:sub l ((64*i:Nat):Int) (Zk.wrap (((64*i:Nat):Int)+(if ((l.drop (64*i)).length:Int)<64 then ((l.drop (64*i)).length:Int) else 64)))=some (cR l i):=by
    have e:Zk.wrap (((64*i:Nat):Int)+(if ((l.drop (64*i)).length:Int)<64 then ((l.drop (64*i)).length:Int) else 64))=((min l.length (64*i+64):Nat):Int):=by
     rw[Zp];split<;>rw[ak (by omega)]<;>omega
    rw[e,dI (by omega) (by omega),DQ hi hl]
   rw[if_pos (by simp;omega),h1,Jj,h2,Jj,Jj,if_neg (by simp),ak (by omega),pq,Z9];congr 2
  ·have hge:l.length≤64*il l:=by unfold il;omega
   simp only[cK];rw[if_neg (by simp;omega)];rfl
 rw[this];rfl
def yS (kind:Int)(p:List Ap):Int:=if (enc kind p).2=0 then kind else -1
def fE (kind:Int)(p:List Ap):List Int:=(wr (yS kind p) p).1
def qo (kind:Int)(l:List Ap):List Int:=((jp l).map (fE kind)).flatten
theorem xN {kind:Int}{p:List Ap}(h:∀v∈p,VOK v):Byt (fE kind p)∧(fE kind p).length≤100000:=by
 unfold fE
 by_cases hw:(wr (yS kind p) p).2=0
 ·exact Hu h hw
 ·have:(wr (yS kind p) p).1=[]:=by
   unfold wr at hw ⊢;split
   ·rfl
   ·rename_i h1
    rw[if_neg h1] at hw;split
    ·rfl
    ·rename_i h2;rw[if_neg h2] at hw;exact absurd rfl hw
  rw[this];exact⟨λc hc=>by simp at hc,by simp⟩
theorem sw {l:List Ap}{i:Nat}{v:Ap}(h:v∈cR l i):v∈l:=Zv (List.mem_of_mem_take h)
theorem yT (l:List Ap)(i:Nat):(cR l i).length≤64:=by unfold cR;simp;omega
theorem w6 {kind:Int}{l:List Ap}(h:∀v∈l,VOK v):∀k,Byt ((((Z7 k).map (cR l)).map (fE kind)).flatten)∧((((Z7 k).map (cR l)).map (fE kind)).flatten).length≤100000*k:=by
 intro k
 induction k with
 |zero=>exact⟨λc hc=>by simp at hc,by simp⟩
 |succ k ih=>
  have hb:=xN (kind:=kind) (p:=cR l k) (λv hv=>h v (sw hv));rw[pq,Z9,Z9,Zo];simp only[Xc,List.map_nil,List.flatten_singleton];refine⟨λc hc=>?_,by rw[Z1];omega⟩;rcases List.mem_append.1 hc with hc|hc
  ·exact ih.1 c hc
  ·exact hb.1 c hc
theorem vk {kind:Int}{l:List Ap}(h:∀v∈l,VOK v)(hl:l.length≤4096):Byt (qo kind l)∧(qo kind l).length≤6400000:=by
 have:=w6 (kind:=kind) h (il l);refine⟨this.1,Nat.le_trans this.2 ?_⟩;unfold il;omega
theorem HJ {kind:Int}{l:List Ap}(h:∀v∈l,VOK v)(hl:l.length≤4096):kD kind l=some (qo kind l):=by
 have hstep:∀(out:List Int) (p:List Ap),(∀v∈p,VOK v)→p.length≤64→out.length≤10000000→eV kind out p=some (out++fE kind p,true):=by
  intro out p hp hpl ho;have hb:=(xN (kind:=kind) hp).2
  have hj:∀k,(wr k p).1.length≤100000→gq out p k=some (out++(wr k p).1,true):=λk hk=>by
   unfold gq;rw[Jn k hp (by omega),Jj,aH (by omega),Jj]
  simp only[eV,rh];rw[tg kind hp (by omega),Jj,Jj];unfold fE yS at*
  by_cases hc:(enc kind p).2=0
  ·rw [if_pos hc] at hb ⊢
   rw[if_neg (by simp[hc]),hj _ hb]
  ·rw [if_neg hc] at hb ⊢
   rw[if_pos (by simp[hc]),hj _ hb]
 unfold kD;rw[JD hl,Jj]
 have key:∀(k i:Nat),i+k=il l→em (λ(s:List Int) (x:List Ap)=>eV kind s x) ((((Z7 i).map (cR l)).map (fE kind)).flatten) ((List.range' i k).map (cR l))=some (qo kind l,true):=by
  intro k
  induction k with
  |zero=>
   intro i hi;obtain rfl:i=il l:=by omega
   rfl
  | succ k ih =>
   intro i hi;rw[List.range'_succ,Xc];have hb:=w6 (kind:=kind) h i;have hi':i<64:=by unfold il at hi;omega
   simp only[em];rw[hstep _ _ (λv hv=>h v (sw hv)) (yT l i) (by omega),Jj,if_pos rfl]
   have e:(((Z7 i).map (cR l)).map (fE kind)).flatten++fE kind (cR l i)=(((Z7 (i+1)).map (cR l)).map (fE kind)).flatten:=by
    rw[pq,Z9,Z9,Zo];simp
   rw[e];exact ih (i+1) (by omega)
 have:=key (il l) 0 (by omega);rw[←List.range_eq_range'] at this;have h0:(((Z7 0).map (cR l)).map (fE kind)).flatten=[]:=rfl;rw[h0] at this;unfold jp;rw[this,Jj,if_pos rfl]
theorem Gg {kind:Int}{l:List Ap}(h:∀v∈l,VOK v)(hl:l.length≤4096):wJ kind l=some (qo kind l):=by
 unfold wJ;refine gM (λi=>((((Z7 i).map (cR l)).map (fE kind)).flatten,((64*i:Nat):Int))) (il l) (by simp) (λi hi=>?_) ?_
 ·have hlt:64*i<l.length:=by unfold il at hi;omega
  have hb:=w6 (kind:=kind) h i;have hp:∀v∈cR l i,VOK v:=λv hv=>h v (sw hv);have hpl:=yT l i;have hbb:=(xN (kind:=kind) hp).2;have hi':i<64:=by omega
  have h2:sub l ((64*i:Nat):Int) (if (l.length:Int)<Zk.wrap (((64*i:Nat):Int)+64) then (l.length:Int) else Zk.wrap (((64*i:Nat):Int)+64))=some (cR l i):=by
   have e:(if (l.length:Int)<Zk.wrap (((64*i:Nat):Int)+64) then (l.length:Int) else Zk.wrap (((64*i:Nat):Int)+64))=((min l.length (64*i+64):Nat):Int):=by
    rw[ak (by omega)];split<;>omega
   rw[e,dI (by omega) (by omega),DQ hi hl]
  have e:(((Z7 i).map (cR l)).map (fE kind)).flatten++fE kind (cR l i)=(((Z7 (i+1)).map (cR l)).map (fE kind)).flatten:=by
   rw[pq,Z9,Z9,Zo];simp
  have hj:∀k,(wr k (cR l i)).1.length≤100000→pc ((((Z7 i).map (cR l)).map (fE kind)).flatten) ((64*i:Nat):Int) (cR l i) k=some (.inl ((((Z7 i).map (cR l)).map (fE kind)).flatten++(wr k (cR l i)).1,((64*(i+1):Nat):Int))):=λk hk=>by
   unfold pc;rw[Hy k hp (by omega),Jj,aH (by omega),Jj,ak (by omega)]
   rfl
  simp only[se];rw[if_pos (by simp;omega),h2,Jj,qS kind hp (by omega),Jj,←e];unfold fE yS at*
  by_cases hc:(enc kind (cR l i)).2=0
  ·rw [if_pos hc] at hbb ⊢
   rw[if_neg (by simp[hc]),hj _ hbb]
  ·rw [if_neg hc] at hbb ⊢
   rw[if_pos (by simp[hc]),hj _ hbb]
 ·have hge:l.length≤64*il l:=by unfold il;omega
  simp only[se];rw[if_neg (by simp;omega)];rfl
set_option linter.unusedVariables false
set_option linter.unusedSimpArgs false
theorem Bb {b:List Int}{n:Int}(h:b.length≤1000000000):ji b n=some (b++be4 n):=by
 unfold ji;have e1:aF .i64 n 24=n/2^24:=F6 (k:=24) (by decide);have e2:aF .i64 n 16=n/2^16:=F6 (k:=16) (by decide);have e3:aF .i64 n 8=n/2^8:=F6 (k:=8) (by decide);rw[aH (by simp;omega),Jj,e1,e2,e3,bm,bm,bm,bm]
 rfl
def l6 (cols:Int)(srt:List Int):List Int:=[72,65,89,49,Xg.wrap cols,Xg.wrap (srt.length:Int)]
def nmB (cols:Int)(srt:List Int)(m:Int):List Int:=l6 cols srt++srt.map Xg.wrap++be4 m
def gE (cols:Int)(kinds:List Int)(n:Nat):Int:=if (n:Int)<cols∧n<kinds.length then kinds.getD n 0 else -1
def lR (cols:Int) (kinds:List Int) (T:List aa) (n:Nat):List Int:=
 be4 ((qo (gE cols kinds n) (kH cols n T)).length:Int)++qo (gE cols kinds n) (kH cols n T)
def d9 (cols:Int)(kinds:List Int)(T:List aa)(k:Nat):List Int:=((Z7 k).map (lR cols kinds T)).flatten
def iT (cols:Int)(srt kinds:List Int)(T:List aa):List Int:=nmB cols srt (T.length:Int)++d9 cols kinds T (cols+3).toNat
def mn (cols:Int)(srt kinds:List Int)(T:List aa):List Int:=iT cols srt kinds T++be4 (lQ (iT cols srt kinds T))
theorem w7 (cols:Int)(kinds:List Int)(T:List aa)(k:Nat):d9 cols kinds T (k+1)=d9 cols kinds T k++lR cols kinds T k:=by
 unfold d9;rw[pq,Z9,Zo];simp
theorem xO {cols:Int}{n:Nat}{T:List aa}(h:CV cols T):(∀v∈kH cols n T,VOK v)∧(kH cols n T).length≤4096:=by
 refine⟨λv hv=>?_,by unfold kH;simpa using h.le⟩;obtain⟨x,hx,rfl⟩:=Xe.1 hv;exact(E7 h hx n).ok
theorem DR (n:Int):0≤Xg.wrap n∧Xg.wrap n<256:=by rw[bm];omega
theorem ut {a b:List Int}(ha:Byt a)(hb:Byt b):Byt (a++b):=λc hc=>by
 rcases List.mem_append.1 hc with hc|hc
 ·exact ha c hc
 ·exact hb c hc
theorem E9 {cols:Int}{kinds:List Int}{T:List aa}(h:CV cols T)(n:Nat):Byt (lR cols kinds T n)∧(lR cols kinds T n).length≤6400004:=by
 obtain⟨h1,h2⟩:=xO (n:=n) h;obtain⟨h3,h4⟩:=vk (kind:=gE cols kinds n) h1 h2;unfold lR;exact⟨ut (A8 _) h3,by rw[Z1,dU];omega⟩
theorem vl {cols:Int}{kinds:List Int}{T:List aa}(h:CV cols T):∀k,Byt (d9 cols kinds T k)∧(d9 cols kinds T k).length≤6400004*k:=by
 intro k
 induction k with
 |zero=>exact⟨λc hc=>by simp[d9] at hc,by simp[d9]⟩
 |succ k ih=>
  have hs:=E9 (kinds:=kinds) h k;rw[w7];exact⟨ut ih.1 hs.1,by rw[Z1];omega⟩
theorem Mx (cols:Int)(srt:List Int)(m:Int):Byt (nmB cols srt m):=by
 unfold nmB l6;refine ut (ut ?_ ?_) (A8 m)
 ·intro c hc
  have h1:=DR cols;have h2:=DR (srt.length:Int);simp only[Xb,List.not_mem_nil,or_false] at hc;rcases hc with rfl|rfl|rfl|rfl|rfl|rfl<;>omega
 ·intro c hc
  obtain⟨x,_,rfl⟩:=Xe.1 hc;exact DR x
theorem DS (cols:Int)(srt:List Int)(m:Int):(nmB cols srt m).length=10+srt.length:=by
 unfold nmB l6;simp[dU];omega
theorem Bc {cols:Int}{srt kinds:List Int}{T:List aa}(h:CV cols T)(hs:srt.length≤1048576):Byt (iT cols srt kinds T)∧(iT cols srt kinds T).length≤100000000:=by
 have h1:=vl (kinds:=kinds) h (cols+3).toNat;have hco:=h.co;have hn:=DS cols srt (T.length:Int);unfold iT;refine⟨ut (Mx _ _ _) h1.1,?_⟩;rw[Z1,hn];have:(cols+3).toNat≤11:=by omega
 have:6400004*(cols+3).toNat≤6400004*11:=Nat.mul_le_mul_left _ this;omega
theorem Le {cols:Int} {srt kinds:List Int} {T:List aa} (h:CV cols T) (hs:srt.length≤1048576) (hk:kinds.length≤1048576):
  am (λs:(List Int×Int)=>gQ cols kinds T s.1 s.2) (nmB cols srt (T.length:Int),0)=some (mn cols srt kinds T,0):=by
 have hco:=h.co;have hbod:=Bc (srt:=srt) (kinds:=kinds) h hs;have hnm:=DS cols srt (T.length:Int);refine gM (λn=>(nmB cols srt (T.length:Int)++d9 cols kinds T n,(n:Int))) (cols+3).toNat (by simp[d9]) (λn hn=>?_) ?_
 ·have hss:=vl (kinds:=kinds) h n
  have hn11:n<11:=by omega
  have hlen:(nmB cols srt (T.length:Int)++d9 cols kinds T n).length≤200000000:=by rw[Z1,hnm];omega
  obtain⟨hv,hl⟩:=xO (n:=n) h;obtain⟨hb1,hb2⟩:=vk (kind:=gE cols kinds n) hv hl
  have hj4:gP cols T (nmB cols srt (T.length:Int)++d9 cols kinds T n) (n:Int) (gE cols kinds n)=some (.inl (nmB cols srt (T.length:Int)++d9 cols kinds T (n+1),((n+1:Nat):Int))):=by
   unfold gP;rw[HI h (by omega),Jj,HJ hv hl,Jj,Bb (by omega),Jj,aH (by rw[Z1,dU];omega),Jj,ak (by omega),w7];unfold lR;simp only[Z6]
   rfl
  have hj3:∀b,(b=true↔n<kinds.length)→(n:Int)<cols→fy cols kinds T (nmB cols srt (T.length:Int)++d9 cols kinds T n) (n:Int) b=some (.inl (nmB cols srt (T.length:Int)++d9 cols kinds T (n+1),((n+1:Nat):Int))):=by
   intro b hb hc;unfold fy;cases b with
   |true=>
    have hlt:=hb.1 rfl;rw[if_pos rfl,ay hlt,Jj];have:gE cols kinds n=kinds[n]:=by unfold gE;rw[if_pos ⟨hc,hlt⟩];simp[hlt]
    rw[←this,hj4]
   | false =>
    rw[if_neg (by simp)]
    have:gE cols kinds n= -1:=by
     unfold gE;rw[if_neg (λhh=>by have:=hb.2 hh.2;cases this)]
    rw[←this,hj4]
  simp only[gQ];rw[ak (by omega),if_pos (by simp;omega)]
  by_cases hc:(n:Int)<cols
  ·rw [if_pos (by simpa using hc)]
   exact hj3 _ (by simp) hc
  ·rw [if_neg (by simpa using hc)]
   unfold fy;rw[if_neg (by simp)];have:gE cols kinds n= -1:=by unfold gE;rw[if_neg (λhh=>hc hh.1)]
   rw[←this,hj4]
 ·simp only [gQ]
  rw[ak (by omega),if_neg (by simp;omega)];show(jj (iT cols srt kinds T)).map Sum.inr=_;unfold jj;obtain⟨h1,h2⟩:=wV (b:=iT cols srt kinds T) (by omega);unfold U32 at h2;rw[h1,Jj,ak (by omega),Bb (by omega)]
  rfl
theorem JE {cols:Int} {srt kinds:List Int} {T:List aa} (h:CV cols T) (hs:srt.length≤1048576) (hk:kinds.length≤1048576):
  am (λs:(List Int×Int)=>ql cols kinds T s.1 s.2) (nmB cols srt (T.length:Int),0)=some (mn cols srt kinds T,0):=by
 have hco:=h.co;have hbod:=Bc (srt:=srt) (kinds:=kinds) h hs;have hnm:=DS cols srt (T.length:Int);refine gM (λn=>(nmB cols srt (T.length:Int)++d9 cols kinds T n,(n:Int))) (cols+3).toNat (by simp[d9]) (λn hn=>?_) ?_
 ·have hss:=vl (kinds:=kinds) h n
  have hn11:n<11:=by omega
  have hlen:(nmB cols srt (T.length:Int)++d9 cols kinds T n).length≤200000000:=by rw[Z1,hnm];omega
  obtain⟨hv,hl⟩:=xO (n:=n) h;obtain⟨hb1,hb2⟩:=vk (kind:=gE cols kinds n) hv hl
  have hj4:qk cols T (nmB cols srt (T.length:Int)++d9 cols kinds T n) (n:Int) (gE cols kinds n)=some (.inl (nmB cols srt (T.length:Int)++d9 cols kinds T (n+1),((n+1:Nat):Int))):=by
   unfold qk;rw[Gf h (by omega),Jj,Gg hv hl,Jj,bD,Zb (by omega) (by omega),rq (by omega),Jj,aH (by rw[dU];omega),Jj,aH (by rw[Z1,dU];omega),Jj,ak (by omega),w7];unfold lR;simp only[Z6]
   rfl
  have hj3:∀b,(b=true↔n<kinds.length)→(n:Int)<cols→nH cols kinds T (nmB cols srt (T.length:Int)++d9 cols kinds T n) (n:Int) b=some (.inl (nmB cols srt (T.length:Int)++d9 cols kinds T (n+1),((n+1:Nat):Int))):=by
   intro b hb hc;unfold nH;cases b with
   |true=>
    have hlt:=hb.1 rfl;rw[if_pos rfl,ay hlt,Jj];have:gE cols kinds n=kinds[n]:=by unfold gE;rw[if_pos ⟨hc,hlt⟩];simp[hlt]
    rw[←this,hj4]
   | false =>
    rw[if_neg (by simp)]
    have:gE cols kinds n= -1:=by
     unfold gE;rw[if_neg (λhh=>by have:=hb.2 hh.2;cases this)]
    rw[←this,hj4]
  simp only[ql];rw[ak (by omega),if_pos (by simp;omega)]
  by_cases hc:(n:Int)<cols
  ·rw [if_pos (by simpa using hc)]
   exact hj3 _ (by simp) hc
  ·rw [if_neg (by simpa using hc)]
   unfold nH;rw[if_neg (by simp)];have:gE cols kinds n= -1:=by unfold gE;rw[if_neg (λhh=>hc hh.1)]
   rw[←this,hj4]
 ·simp only [ql]
  rw[ak (by omega),if_neg (by simp;omega)];show(tS (iT cols srt kinds T)).map Sum.inr=_;unfold tS;obtain⟨h1,h2⟩:=wV (b:=iT cols srt kinds T) (by omega);unfold U32 at h2;rw[E5 hbod.1 (by omega),Jj,bD,Zb (by omega) (by omega),rq (by omega),Jj,aH (by rw[dU];omega)]
  rfl
theorem BW {cols:Int} {srt kinds:List Int} {l:List aa} (hs:srt.length≤1048576) (hk:kinds.length≤1048576) (hv: ∀v∈l,lg v):
  (qV cols srt l≠0∧fm cols srt kinds l=some ([],qV cols srt l)∧yJ cols srt kinds l=some ([],qV cols srt l))∨
  (pp cols srt l∧∃T,Stb (qlt srt) l T∧CV cols T∧fm cols srt kinds l=some (mn cols srt kinds T,0)∧yJ cols srt kinds l=some (mn cols srt kinds T,0)):=by
 unfold fm yJ;rw[vj hs hv,Ld hs hv,Jj,Jj]
 by_cases hr:qV cols srt l=0
 ·right
  have hA:=Q8.1 hr;have hle:=hA.le;have hrk:Rok l:=λv hm=>(hv v hm).len;obtain⟨T,h1,h2⟩:=BV (cs:=srt) (xs:=l) hs (by omega) hrk;obtain⟨T',h3,h4⟩:=DK (cs:=srt) (xs:=l) hs (by omega);obtain rfl:=h4.unique (gr srt) h2;have hT:CV cols T':=(CV.of hA hv).mem (h2.len (gr srt)) (λv hm=>(h2.mem (gr srt)).1 hm);have hTl:=h2.len (gr srt);refine⟨hA,T',h2,hT,?_,?_⟩
  ·rw [if_neg (by simp [hr]),h1,Jj,aH (by simp),Jj]
   refine(gM (λi=>(l6 cols srt++(srt.take i).map Xg.wrap,(i:Int))) srt.length (by simp[l6]) (λi hi=>?_) (b:=jk cols kinds T' (l6 cols srt++srt.map Xg.wrap)) ?_).trans ?_
   ·simp only [jl]
    rw[if_pos (by simpa using hi),ay hi,Jj,aH (by simp[l6];omega),Jj,ak (by omega),iU hi,Z9];simp only[Z6]
    rfl
   ·simp only [jl]
    rw[if_neg (by simp),Za]
   ·unfold jk
    rw[Bb (by simp[l6];omega),Jj];exact Le hT hs hk
  ·rw [if_neg (by simp [hr]),h3,Jj]
   refine(gM (λi=>(l6 cols srt++(srt.take i).map Xg.wrap,(i:Int))) srt.length (by simp[l6]) (λi hi=>?_) (b:=tT cols kinds l T' (l6 cols srt++srt.map Xg.wrap)) ?_).trans ?_
   ·simp only [tU]
    rw[if_pos (by simpa using hi),ay hi,Jj,aH (by simp[l6];omega),Jj,ak (by omega),iU hi,Z9];simp only[Z6]
    rfl
   ·simp only [tU]
    rw[if_neg (by simp),Za]
   ·unfold tT
    rw[bD,Zb (by omega) (by omega),rq (by omega),Jj,aH (by simp[l6,dU];omega),Jj];have:=JE (srt:=srt) (kinds:=kinds) hT hs hk;rw[hTl] at this;exact this
 ·left
  exact⟨hr,by rw[if_pos (by simpa using hr)],by rw[if_pos (by simpa using hr)]⟩
set_option linter.unusedVariables false
set_option linter.unusedSimpArgs false
theorem orS {a b:Nat}(k:Nat)(hb:b<2^k)(h:2^k*a+b<4294967296):bOr .i64 ((2^k*a:Nat):Int) (b:Int)=((2^k*a+b:Nat):Int):=by
 unfold bOr
 have h1:(Xf Zk.bits ((2^k*a:Nat):Int)).toNat=2^k*a:=by
  show(Xf 64 ((2^k*a:Nat):Int)).toNat=2^k*a;rw[BitVec.toNat_ofInt];omega
 have h2:(Xf Zk.bits (b:Int)).toNat=b:=by
  show(Xf 64 (b:Int)).toNat=b;rw[BitVec.toNat_ofInt];omega
 rw[BitVec.toNat_or,h1,h2,←Nat.two_pow_add_eq_or_of_lt hb,ak (by omega)]
theorem shI {a:Nat}(k:Nat)(hk:k≤24)(ha:a<256):ew .i64 (a:Int) (k:Int)=((2^k*a:Nat):Int):=by
 unfold ew;have e:min ((k:Int)).toNat Zk.bits=k:=by simp[IntKind.bits];omega
 have h2:2^k≤2^24:=Nat.pow_le_pow_right (by decide) hk;have h3:2^k*a≤2^24*255:=Nat.mul_le_mul h2 (by omega);rw[e,show(a:Int)*2^k=((2^k*a:Nat):Int) by rw[Nat.mul_comm];push_cast;rfl,ak (by omega)]
theorem Gh {a b c d:Int}{t:List Int}(ha:0≤a∧a<256)(hb:0≤b∧b<256)(hc:0≤c∧c<256)(hd:0≤d∧d<256):ej (a::b::c::d::t)=some (ez [a,b,c,d]):=by
 have e0:idx (a::b::c::d::t) 0=some a:=ay (xs:=a::b::c::d::t) (i:=0) (by simp);have e1:idx (a::b::c::d::t) 1=some b:=ay (xs:=a::b::c::d::t) (i:=1) (by simp);have e2:idx (a::b::c::d::t) 2=some c:=ay (xs:=a::b::c::d::t) (i:=2) (by simp);have e3:idx (a::b::c::d::t) 3=some d:=ay (xs:=a::b::c::d::t) (i:=3) (by simp);unfold ej;rw[e0,Jj,e1,Jj,e2,Jj,e3,Jj,ak (by omega),ak (by omega),ak (by omega),ak (by omega)];obtain⟨a,rfl⟩:=Zh ha.1;obtain⟨b,rfl⟩:=Zh hb.1;obtain⟨c,rfl⟩:=Zh hc.1;obtain⟨d,rfl⟩:=Zh hd.1;have s1:=shI (a:=a) 24 (by omega) (by omega);have s2:=shI (a:=b) 16 (by omega) (by omega)
 have s3:=shI (a:=c) 8 (by omega) (by omega);rw[show((24:Nat):Int)=24 from rfl] at s1;rw[show((16:Nat):Int)=16 from rfl] at s2;rw[show((8:Nat):Int)=8 from rfl] at s3;rw[s1,s2,s3,orS 24 (by omega) (by omega),show 2^24*a+2^16*b=2^16*(2^8*a+b) by omega,orS 16 (by omega) (by omega),show 2^16*(2^8*a+b)+2^8*c=2^8*(2^8*(2^8*a+b)+c) by omega,orS 8 (by omega) (by omega)];unfold ez;simp only[List.foldl_cons,List.foldl_nil];congr 1;omega
theorem vm {n:Int}(h:U32 n)(t:List Int):ej (be4 n++t)=some n:=by
 have:=Ju h;unfold be4 at*;rw[Zw,Zw,Zw,Zw,Gh (by omega) (by omega) (by omega) (by omega),this]
theorem HK {kind:Int}{p:List Ap}(h:∀v∈p,Rgt v)(hp:p≠[])(hl:p.length≤64):(wr (yS kind p) p).2=0:=by
 have key:∀k,(enc (kG k p) p).2=0→(wr k p).2=0:=λk hk=>by
  unfold wr;rw[if_neg hp,if_neg (by simpa using hk)]
 apply key;unfold yS;split
 ·rename_i he
  unfold kG;rw[if_neg]
  ·exact he
  ·rintro rfl
   unfold enc at he;rw[if_pos (by omega)] at he;cases he
 ·unfold kG
  rw[if_pos rfl,R6.1];unfold enc;have hr:p.all right=true:=Zi.2 λv hv=>(h v hv).right;rw[if_neg (by omega),if_neg (by omega),if_neg (by simp[hr]),if_neg (λhh=>by omega),if_neg hp]
theorem JF {kind:Int}{p:List Ap}(h:∀v∈p,Rgt v)(hp:p≠[])(hl:p.length≤64){t:List Int}(ht:Byt t)(htl:t.length≤900000000000):kY (fE kind p++t)=some (p,((fE kind p).length:Int),0):=by
 unfold fE;exact K7 (λv hv=>(h v hv).ok) (HK h hp hl) ht htl
theorem Lf {kind:Int}{p:List Ap}(h:∀v∈p,Rgt v)(hp:p≠[])(hl:p.length≤64):0<(fE kind p).length:=by
 unfold fE;obtain⟨k,_,_,_,_,hw,_⟩:=DC (λv hv=>(h v hv).ok) (HK (kind:=kind) h hp hl);rw[hw];unfold mQ;simp[dU]
theorem BX {kind:Int}{l:List Ap}{i:Nat}(hi:i<il l):(((jp l).drop i).map (fE kind)).flatten=fE kind (cR l i)++(((jp l).drop (i+1)).map (fE kind)).flatten:=by
 have hc:i<(jp l).length:=by unfold jp;simpa using hi
 rw[Z3 hc];have:(jp l)[i]=cR l i:=by simp[jp]
 rw[this];rfl
theorem HL {kind:Int}{l:List Ap}(h:∀v∈l,VOK v)(hl:l.length≤4096):∀k i:Nat,i+k=il l→Byt ((((jp l).drop i).map (fE kind)).flatten)∧((((jp l).drop i).map (fE kind)).flatten).length≤100000*k:=by
 intro k
 induction k with
 |zero=>
  intro i hi;rw[Z5 (by unfold jp;simp;omega)];exact⟨.nil,by simp⟩
 |succ k ih=>
  intro i hi;have hb:=xN (kind:=kind) (p:=cR l i) (λv hv=>h v (sw hv));have:=ih (i+1) (by omega);rw[BX (by omega)];exact⟨hb.1.app this.1,by rw[Z1];omega⟩
theorem HM {kind:Int}{l:List Ap}(h:∀v∈l,Rgt v)(hl:l.length≤4096):iY (qo kind l) (l.length:Int)=some (l,true):=by
 unfold iY;have hv:∀v∈l,VOK v:=λv hv=>(h v hv).ok;refine gM (λi=>((((jp l).drop i).map (fE kind)).flatten,l.take (64*i))) (il l) (by simp[qo]) (λi hi=>?_) ?_
 ·have hlt:64*i<l.length:=by unfold il at hi;omega
  have hp:∀v∈cR l i,Rgt v:=λv hv=>h v (sw hv);have hpl:=yT l i;have hplen:(cR l i).length=min 64 (l.length - 64*i):=by unfold cR;simp
  have hne:cR l i≠[]:=λe=>by rw[e] at hplen;simp at hplen;omega
  have hpos:=Lf (kind:=kind) hp hne hpl;obtain⟨hd1,hd2⟩:=HL (kind:=kind) hv hl (il l - (i+1)) (i+1) (by omega);have hcb:il l≤64:=by unfold il;omega
  have htl:(l.take (64*i)).length=64*i:=by simp;omega
  have ht:l.take (64*(i+1))=l.take (64*i)++cR l i:=by unfold cR;rw[←List.take_add];congr 1
  simp only[iG];rw[BX hi,if_pos (by simp;omega),JF hp hne hpl hd1 (by omega),Jj,if_neg (by simp),htl,ak (by omega)]
  have hm:(((cR l i).length:Int) != (if (l.length:Int) - ((64*i:Nat):Int)<64 then (l.length:Int) - ((64*i:Nat):Int) else 64))=false:=by
   rw[hplen];simp;split<;>omega
  dsimp only;rw[hm];unfold iF;rw[if_neg (by simp)];dsimp only;rw[aH (by rw[htl];omega),Jj,fC (by simp),Jj,X9,ht]
 ·have hge:l.length≤64*il l:=by unfold il;omega
  simp only[iG];rw[Z5 (by unfold jp;simp),if_neg (by simp),Z2 hge];unfold kf;simp
def tkV (cols:Int) (n:Nat) (v:aa):aa:=
 ⟨⟨if cols<(n:Int) then v.fId.fEpoch else 0,if cols+1<(n:Int) then v.fId.fNumber else 0⟩,v.fRow.take n,if cols+2<(n:Int) then v.fDeleted else 0⟩
theorem Lg {cols:Int}(hc:1≤cols)(v:aa):tkV cols 0 v=aa.zero:=by
 unfold tkV;rw[if_neg (by omega),if_neg (by omega),if_neg (by omega)]
 rfl
theorem My {cols:Int}{v:aa}(hc:1≤cols)(h:(v.fRow.length:Int)=cols):tkV cols (cols+3).toNat v=v:=by
 unfold tkV;rw[if_pos (by omega),if_pos (by omega),if_pos (by omega),Z2 (by omega)]
theorem Mz {α:Type}{A B:List α}{x:α}{i:Nat}(h:A.length=i):(A++x::B)[i]? =some x:=by simp[←h]
theorem JG {α:Type}{A B:List α}{x y:α}{i:Nat}(h:A.length=i):(A++x::B).set i y=A++y::B:=by simp[←h]
theorem JH {cols:Int} {srt:List Int} {T:List aa} (h:CV cols T) {n:Nat} (hn:(n:Int)<cols+3):
  iH ⟨cols,srt,[]⟩ (T.map (tkV cols n)) (n:Int) (kH cols n T)=some (true,T.map (tkV cols (n+1))):=by
 have hle:=h.le;have hco:=h.co;have hcl:(kH cols n T).length=T.length:=by simp[kH]
 unfold iH;refine gM (λi=>((i:Int),(T.take i).map (tkV cols (n+1))++(T.drop i).map (tkV cols n))) T.length (by simp) (λi hi=>?_) ?_
 ·obtain ⟨h1,h2⟩:=h.ok _ (Z8 hi)
  obtain⟨h3,h4,h5,h6,h7⟩:=qE h1 h2;have hde:=h1.de;have hnu:=h1.nu;have hAl:((T.take i).map (tkV cols (n+1))).length=i:=by simp;omega
  obtain⟨A,hA⟩:∃A,A=(T.take i).map (tkV cols (n+1)):=⟨_,rfl⟩
  obtain⟨B,hB⟩:∃B,B=(T.drop (i+1)).map (tkV cols n):=⟨_,rfl⟩
  have hS:(T.take i).map (tkV cols (n+1))++(T.drop i).map (tkV cols n)=A++tkV cols n T[i]::B:=by
   rw[Z3 hi,Xc,hA,hB]
  have hS':(T.take (i+1)).map (tkV cols (n+1))++(T.drop (i+1)).map (tkV cols n)=A++tkV cols (n+1) T[i]::B:=by
   rw[iU hi,Z9,hA,hB];simp
  have hAl':A.length=i:=by rw[hA];exact hAl
  have hx:(A++tkV cols n T[i]::B)[i]? =some (tkV cols n T[i]):=Mz hAl';have hset:∀y,(A++tkV cols n T[i]::B).set i y=A++y::B:=λy=>JG hAl'
  have hc:idx (kH cols n T) (i:Int)=some (gm cols n T[i]):=by
   rw[ay (by omega)];simp[kH]
  show dY ⟨cols,srt,[]⟩ (n:Int) (kH cols n T) (i:Int) ((T.take i).map (tkV cols (n+1))++(T.drop i).map (tkV cols n))=some (.inl (((i+1:Nat):Int),(T.take (i+1)).map (tkV cols (n+1))++(T.drop (i+1)).map (tkV cols n)));rw[hS,hS'];unfold dY;rw[if_pos (by simp;omega),hc,Jj,od (by simp;omega),Jj]
  have h3':∀z,dy (i:Int) z=some (.inl (((i+1:Nat):Int),z)):=λz=>by
   unfold dy;rw[ak (by omega)];rfl
  have hj2 : dX ⟨cols, srt, []⟩ (n : Int) (i : Int) (A ++ tkV cols n T[i] :: B) (gm cols n T[i]) i false = some (.inl (((i + 1 : Nat) : Int), A ++ tkV cols (n + 1) T[i] :: B)) := by
   unfold dX;dsimp only;rw[if_neg (by simp),ak (by omega),hx];simp only[Jj,hset,h3']
   by_cases c1:(n:Int)=cols
   ·rw [if_pos (by simp;omega)]
    have hcell:gm cols n T[i]=iR T[i].fId.fEpoch:=by unfold gm;rw[if_neg (by omega),if_pos c1]
    rw[hcell,bD];unfold tkV;dsimp only[iR];rw[Zb (by omega) (by omega),Z2 (by omega),Z2 (by omega)];have a0:(cols<(n:Int))=False:=eq_false (by omega);have b0:(cols<((n+1:Nat):Int))=True:=eq_true (by omega);have a1:(cols+1<(n:Int))=False:=eq_false (by omega);have b1:(cols+1<((n+1:Nat):Int))=False:=eq_false (by omega);have a2:(cols+2<(n:Int))=False:=eq_false (by omega);have b2:(cols+2<((n+1:Nat):Int))=False:=eq_false (by omega);simp only[a0,b0,a1,b1,a2,b2,if_true,if_false]
   ·rw [if_neg (by simp; omega)]
    by_cases c2:(n:Int)=cols+1
    ·rw [if_pos (by simp;omega)]
     have hcell:gm cols n T[i]=iR T[i].fId.fNumber:=by unfold gm;rw[if_neg (by omega),if_neg c1,if_pos c2]
     rw[hcell,lK];unfold tkV;dsimp only[iR];rw[if_neg (by simp;omega),Zb (by omega) (by omega),Z2 (by omega),Z2 (by omega)];have a0:(cols<(n:Int))=True:=eq_true (by omega);have b0:(cols<((n+1:Nat):Int))=True:=eq_true (by omega);have a1:(cols+1<(n:Int))=False:=eq_false (by omega);have b1:(cols+1<((n+1:Nat):Int))=True:=eq_true (by omega);have a2:(cols+2<(n:Int))=False:=eq_false (by omega);have b2:(cols+2<((n+1:Nat):Int))=False:=eq_false (by omega);simp only[a0,b0,a1,b1,a2,b2,if_true,if_false]
    ·rw [if_neg (by simp;omega)]
     by_cases c3:(n:Int)=cols+2
     ·rw [if_pos (by simp;omega)]
      have hcell:gm cols n T[i]=iR T[i].fDeleted:=by unfold gm;rw[if_neg (by omega),if_neg c1,if_neg c2]
      rw[hcell,bD];unfold tkV;dsimp only[iR];rw[Zb (by omega) (by omega),Z2 (by omega),Z2 (by omega)];have a0:(cols<(n:Int))=True:=eq_true (by omega);have b0:(cols<((n+1:Nat):Int))=True:=eq_true (by omega);have a1:(cols+1<(n:Int))=True:=eq_true (by omega);have b1:(cols+1<((n+1:Nat):Int))=True:=eq_true (by omega);have a2:(cols+2<(n:Int))=False:=eq_false (by omega);have b2:(cols+2<((n+1:Nat):Int))=True:=eq_true (by omega);simp only[a0,b0,a1,b1,a2,b2,if_true,if_false]
     ·rw [if_neg (by simp;omega)]
      have hr:n<T[i].fRow.length:=by omega
      have e:T[i].fRow.take (n+1)=T[i].fRow.take n++[gm cols n T[i]]:=by
       unfold gm;rw[iU hr,if_pos (by omega)];simp[hr]
      have hxl:(tkV cols n T[i]).fRow.length≤1048576:=by
       have:=h1.len;unfold tkV;simp;omega
      rw[aH (by simp;omega),Jj]
      have:tkV cols (n+1) T[i]={ tkV cols n T[i] with fRow:=(tkV cols n T[i]).fRow++[gm cols n T[i]] }:=by
       unfold tkV;dsimp only;rw[e,if_neg (by omega),if_neg (by omega),if_neg (by omega),if_neg (by omega),if_neg (by omega),if_neg (by omega)]
      rw[this]
  by_cases hnc:cols≤(n:Int)
  ·rw [if_pos (by simpa using hnc)]
   have hk:(gm cols n T[i]).fKind=2∧0≤(gm cols n T[i]).fInt:=by
    unfold gm;rw[if_neg (by omega)];split
    ·exact⟨rfl,by simp only[iR];omega⟩
    ·split
     ·exact⟨rfl,by simp only[iR];omega⟩
     ·exact⟨rfl,by simp only[iR];omega⟩
   rw[if_neg (by simp[hk.1]),decide_eq_false (by omega)];exact hj2
  ·rw [if_neg (by simpa using hnc)]
   exact hj2
 ·show dY ⟨cols,srt,[]⟩ (n:Int) (kH cols n T) (T.length:Int) ((T.take T.length).map (tkV cols (n+1))++(T.drop T.length).map (tkV cols n))=_
  unfold dY;rw[if_neg (by simp;omega),Za,List.drop_length];unfold iQ;simp
set_option linter.unusedVariables false
set_option linter.unusedSimpArgs false
theorem nodup_iff {α:Type} [DecidableEq α](l:List α):l.Nodup↔ ∀(i:Nat) (h:i<l.length),(l.take i).contains l[i]=false:=by
 unfold List.Nodup;rw[Zn];constructor
 ·intro h i hi
  rw[Zu,decide_eq_false_iff_not];intro hm;obtain⟨k,hk,he⟩:=Zf hm;have hk':k<i:=by simp at hk;omega
  have:=h k i (by omega) hi hk';apply this;rw[←he];simp
 ·intro h i j hi hj hij e
  have:=h j hj;rw[Zu,decide_eq_false_iff_not] at this;apply this;rw[←e];exact List.mem_of_getElem? (i:=i) (by rw[X4 hij,Z0 hi])
theorem Ri {cols:Int}{srt:List Int}:ru cols srt=true↔(∀s∈srt,0≤s∧s<cols)∧srt.Nodup:=by
 unfold ru;rw[nodup_iff];simp only[Zi,Zr];constructor
 ·intro h
  have key:∀(i:Nat) (hi:i<srt.length),0≤srt[i]∧srt[i]<cols∧(srt.take i).contains srt[i]=false:=by
   intro i hi;have:=h i hi;unfold rt at this;rw[Z0 hi] at this;simp only[Ze,decide_eq_true_eq,Zd] at this;exact this
  refine⟨λs hs=>?_,λi hi=>(key i hi).2.2⟩;obtain⟨i,hi,rfl⟩:=Zf hs;exact⟨(key i hi).1,(key i hi).2.1⟩
 ·rintro ⟨h1,h2⟩ i hi
  unfold rt;rw[Z0 hi];simp only[Ze,decide_eq_true_eq,Zd];have:=h1 _ (Z8 hi);exact⟨this.1,this.2,h2 i hi⟩
theorem Rj {cols:Int}{l:List aa}:po cols l=true↔(∀v∈l,su cols v=true)∧(l.map (·.fId)).Nodup:=by
 unfold po;rw[nodup_iff];simp only[Zi,Zr,List.length_map,List.getElem_map];constructor
 ·intro h
  have key:∀(i:Nat) (hi:i<l.length),su cols l[i]=true∧((l.take i).map (·.fId)).contains l[i].fId=false:=by
   intro i hi;have:=h i hi;unfold qn at this;rw[Z0 hi] at this;simp only[Ze,Zd] at this;exact this
  refine⟨λs hs=>?_,λi hi=>?_⟩
  ·obtain ⟨i,hi,rfl⟩:=Zf hs
   exact(key i hi).1
  ·have:=(key i hi).2
   rw[Xd] at this;exact this
 ·rintro ⟨h1,h2⟩ i hi
  unfold qn;rw[Z0 hi];simp only[Ze,Zd];refine⟨h1 _ (Z8 hi),?_⟩;have:=h2 i hi;rw[Xd];exact this
theorem JI:∀(n:Nat) (l:List Int),l.Nodup→(∀s∈l,0≤s∧s<(n:Int))→l.length≤n:=by
 intro n
 induction n with
 |zero=>
  intro l _ h;cases l with
  |nil=>simp
  |cons a l=>have:=h a (by simp);omega
 | succ n ih =>
  intro l hn h
  have h1:=ih (l.filter λx=> !decide (x=(n:Int))) (hn.filter _) (λs hs=>by
   obtain⟨hm,hq⟩:=List.mem_filter.1 hs;have:=h s hm;have:s≠(n:Int):=by simpa using hq
   omega)
  have h2:l.count (n:Int)≤1:=List.nodup_iff_count.1 hn _;have h3:=List.length_eq_countP_add_countP (p:=λx=> !decide (x=(n:Int))) (l:=l);rw[List.countP_eq_length_filter] at h3
  have h4:List.countP (λa=>decide ¬((!decide (a=(n:Int)))=true)) l=l.count (n:Int):=by
   unfold List.count;congr 1;funext a
   by_cases e:a=(n:Int)<;>simp[e]
  omega
theorem pp.srt_le {cols:Int}{srt:List Int}{l:List aa}(h:pp cols srt l):srt.length≤8:=by
 obtain⟨h1,h2⟩:=Ri.1 h.so;have hc:=h.co;exact JI 8 srt h2 λs hs=>by have:=h1 s hs;omega
theorem pp.stb {cols:Int}{srt:List Int}{l T:List aa}(h:pp cols srt l)(hs:Stb (qlt srt) l T):pp cols srt T:=by
 have hp:=hs.perm (gr srt);obtain⟨h1,h2⟩:=Rj.1 h.ro;refine⟨h.co,h.so,by rw[hp.length_eq];exact h.le,Rj.2 ⟨λv hv=>h1 v (hp.mem_iff.1 hv),?_⟩⟩;exact(hp.map _).nodup_iff.2 h2
theorem pp.none {cols:Int}{srt:List Int}{l:List aa}(h:pp cols srt l):pp cols srt []:=⟨h.co,h.so,by simp,rfl⟩
theorem pp.id_srt {cols:Int}{srt:List Int}{l:List aa}(h:pp cols srt l):srt.map Xg.wrap=srt:=by
 obtain⟨h1,_⟩:=Ri.1 h.so;have hc:=h.co;rw[Zx (g:=id),List.map_id];intro s hs;have:=h1 s hs;rw[bm,Zb (by omega) (by omega)];rfl
theorem JJ {cols:Int} {srt kinds:List Int} {T:List aa} (h:pp cols srt T) (hs:Byt (d9 cols kinds T (cols+3).toNat)∧(d9 cols kinds T (cols+3).toNat).length≤100000000):
  iE (iT cols srt kinds T)=some ((T.length:Int),d9 cols kinds T (cols+3).toNat,true,⟨cols,srt,[]⟩):=by
 have hco:=h.co;have hle:=h.le;have hsl:=h.srt_le;obtain⟨hs1,hs2⟩:=hs;obtain⟨S,hS⟩:∃S,S=d9 cols kinds T (cols+3).toNat:=⟨_,rfl⟩
 rw[←hS] at hs1 hs2 ⊢
 have hb:iT cols srt kinds T=72::65::89::49::cols::(srt.length:Int)::(srt++(be4 (T.length:Int)++S)):=by
  unfold iT nmB l6;rw[h.id_srt,bm,bm,Zb (by omega) (by omega),Zb (by omega) (by omega),←hS];simp
 rw[hb];obtain⟨p,hp⟩:∃p,p=72::65::89::49::cols::(srt.length:Int)::(srt++(be4 (T.length:Int)++S)):=⟨_,rfl⟩
 rw[←hp];have hpl:p.length=6+(srt.length+(4+S.length)):=by rw[hp];simp[dU];omega
 have e1:sub p 0 4=some [72,65,89,49]:=by
  have:=dI (xs:=p) (lo:=0) (hi:=4) (by omega) (by omega);rw[hp] at this ⊢;exact this
 have i4:idx p 4=some cols:=by rw[hp];exact ay (i:=4) (by simp)
 have i5:idx p 5=some (srt.length:Int):=by rw[hp];exact ay (i:=5) (by simp)
 have e2:sub p 6 (p.length:Int)=some (srt++(be4 (T.length:Int)++S)):=by
  have:=fC (xs:=p) (k:=6) (by omega);rw[show((6:Nat):Int)=6 from rfl] at this;rw[this,hp];rfl
 have hrl:(srt++(be4 (T.length:Int)++S)).length=srt.length+(4+S.length):=by simp[dU]
 have e3:sub (srt++(be4 (T.length:Int)++S)) 0 (srt.length:Int)=some srt:=by
  have:=dI (xs:=srt++(be4 (T.length:Int)++S)) (lo:=0) (hi:=srt.length) (by omega) (by omega);rw[List.take_left] at this;exact this
 have hw:Zk.wrap (srt.length:Int)=(srt.length:Int):=ak (by omega);have hw4:Zk.wrap ((srt.length:Int)+4)=((srt.length+4:Nat):Int):=by rw[ak (by omega)];omega
 unfold iE;rw[if_neg (by simp;omega),e1,Jj];show eS p (!decide ((72,65,89,49)=((72,65,89,49):Int×Int×Int×Int)))=_;unfold eS;rw[if_neg (by simp),i4,Jj,i5,Jj,e2,Jj,hw,hw4,hrl,if_neg (by simp;omega),e3,Jj];refine gM (λi=>((i:Int),(⟨cols,srt.take i,[]⟩:ax))) srt.length ?_ (λi hi=>?_) ?_
 ·rw[ak (by omega)];rfl
 ·simp only [gk]
  obtain⟨hr,_⟩:=Ri.1 h.so;have:=hr _ (Z8 hi);rw[if_pos (by simpa using hi),ay hi,Jj,aH (by simp;omega),Jj,ak (by omega),ak (by omega),iU hi]
  rfl
 ·simp only [gk]
  rw[if_neg (by simp),Za];unfold iP
  have e4:sub (srt++(be4 (T.length:Int)++S)) (srt.length:Int) ((srt++(be4 (T.length:Int)++S)).length:Int)=some (be4 (T.length:Int)++S):=by
   rw[fC (by simp),X9]
  have e5:sub (srt++(be4 (T.length:Int)++S)) ((srt.length+4:Nat):Int) ((srt++(be4 (T.length:Int)++S)).length:Int)=some S:=by
   rw[fC (by omega),←Z6,X3 (by simp[dU])]
  rw[hw,hw4,e4,Jj,vm (by unfold U32;omega),Jj,e5,Jj];dsimp only;rw[vj (by omega) (by simp),Jj,Q8.2 h.none,if_pos (by simp)];unfold gj;rw[decide_eq_true (by omega)]
theorem Bd {xs:List aa}(h:xs.length≤1048576):eL xs xs eE=some true:=by
 unfold eL;rw[if_neg (by simp)];refine gM (λi=>(i:Int)) xs.length rfl (λi hi=>?_) ?_
 ·simp only [ik]
  rw[if_pos (by simpa using hi),ay hi,Jj,Jj];simp only[eE];rw[Jj,if_neg (by simp),ak (by omega)];rfl
 ·simp only [ik]
  rw[if_neg (by simp)];rfl
theorem DT {cols:Int} {srt kinds:List Int} {T:List aa} (h:pp cols srt T) (hv: ∀v∈T,lg v) (hS:Srt (qlt srt) T) (hk:kinds.length≤1048576):
  fg (mn cols srt kinds T)=some (some ⟨cols,srt,T⟩,0):=by
 have hco:=h.co;have hle:=h.le;have hsl:=h.srt_le;have hC:CV cols T:=CV.of h hv;obtain⟨hb1,hb2⟩:=Bc (srt:=srt) (kinds:=kinds) hC (by omega);obtain⟨hs1,hs2⟩:=wV (b:=iT cols srt kinds T) (by omega);obtain⟨hs3,hs4⟩:=vl (kinds:=kinds) hC (cols+3).toNat;have hk11:(cols+3).toNat≤11:=by omega
 have hs5:(d9 cols kinds T (cols+3).toNat).length≤100000000:=Nat.le_trans hs4 (by omega);have hpl:(mn cols srt kinds T).length=(iT cols srt kinds T).length+4:=by unfold mn;rw[Z1,dU]
 have hw:Zk.wrap (((mn cols srt kinds T).length:Int) - 4)=((iT cols srt kinds T).length:Int):=by rw[hpl,ak (by omega)];omega
 have e1:sub (mn cols srt kinds T) ((iT cols srt kinds T).length:Int) ((mn cols srt kinds T).length:Int)=some (be4 (lQ (iT cols srt kinds T))):=by
  rw[fC (by omega)];unfold mn;rw[X9]
 have e2:sub (mn cols srt kinds T) 0 ((iT cols srt kinds T).length:Int)=some (iT cols srt kinds T):=by
  have:=dI (xs:=mn cols srt kinds T) (lo:=0) (hi:=(iT cols srt kinds T).length) (by omega) (by omega);have e:(mn cols srt kinds T).take (iT cols srt kinds T).length=iT cols srt kinds T:=by unfold mn;rw[List.take_left]
  rw[e] at this;exact this
 have hnum:=vm hs2 [];rw[Zz] at hnum
 have hsw:Zk.wrap (lQ (iT cols srt kinds T))=lQ (iT cols srt kinds T):=by
  unfold U32 at hs2;rw[ak (by omega)]
 unfold fg;rw[if_neg (by simp;omega),hw,e1,Jj,hnum,Jj,e2,Jj,hs1,Jj,hsw];unfold jM;rw[if_neg (by simp),hw,e2,Jj,JJ h ⟨hs3,hs5⟩,Jj,if_neg (by simp)];dsimp only
 have hmk:mk 5864062014805 (T.length:Int) aa.zero=some (T.map (tkV cols 0)):=by
  rw[u6 (by omega),Zx (g:=λ_=>aa.zero) (λv _=>Lg hco.1 v),List.map_const']
 rw[hmk,Jj]
 have hdr:∀n,n<(cols+3).toNat→(((Z7 (cols+3).toNat).drop n).map (lR cols kinds T)).flatten=lR cols kinds T n++(((Z7 (cols+3).toNat).drop (n+1)).map (lR cols kinds T)).flatten:=by
  intro n hn;rw[Z3 (by simpa using hn)];simp
 have hdl:∀k n:Nat,n+k=(cols+3).toNat→((((Z7 (cols+3).toNat).drop n).map (lR cols kinds T)).flatten).length≤6400004*k:=by
  intro k
  induction k with
  |zero=>intro n hn;rw[Z5 (by simp;omega)];simp
  |succ k ih=>
   intro n hn;rw[hdr n (by omega),Z1];have:=(E9 (kinds:=kinds) hC n).2;have:=ih (n+1) (by omega);omega
 refine gM (λn=>((((Z7 (cols+3).toNat).drop n).map (lR cols kinds T)).flatten,(n:Int),T.map (tkV cols n))) (cols+3).toNat (by simp[d9]) (λn hn=>?_) ?_
 ·have hrl:=hdl ((cols+3).toNat - (n+1)) (n+1) (by omega)
  have hrl2:6400004*((cols+3).toNat - (n+1))≤6400004*11:=Nat.mul_le_mul_left _ (by omega);obtain⟨R,hR⟩:∃R,R=(((Z7 (cols+3).toNat).drop (n+1)).map (lR cols kinds T)).flatten:=⟨_,rfl⟩
  obtain⟨B,hB⟩:∃B,B=qo (gE cols kinds n) (kH cols n T):=⟨_,rfl⟩
  obtain⟨hcv,hcl⟩:=xO (n:=n) hC;have hBl:=(vk (kind:=gE cols kinds n) hcv hcl).2;rw[←hB] at hBl;rw[←hR] at hrl;show gl ((T.length:Int),d9 cols kinds T (cols+3).toNat,true,⟨cols,srt,[]⟩) ((((Z7 (cols+3).toNat).drop n).map (lR cols kinds T)).flatten) (n:Int) (T.map (tkV cols n))=some (.inl ((((Z7 (cols+3).toNat).drop (n+1)).map (lR cols kinds T)).flatten,((n+1:Nat):Int),T.map (tkV cols (n+1))))
  have hx:(((Z7 (cols+3).toNat).drop n).map (lR cols kinds T)).flatten=be4 (B.length:Int)++(B++R):=by
   rw[hdr n hn,←hR];unfold lR;rw[←hB,Z6]
  rw[hx,←hR];obtain⟨X,hX⟩:∃X,X=be4 (B.length:Int)++(B++R):=⟨_,rfl⟩
  have hXl:X.length=4+(B.length+R.length):=by rw[hX];simp[dU]
  have hn4:ej X=some (B.length:Int):=by rw[hX];exact vm (by unfold U32;omega) _
  have hw4:Zk.wrap (4+(B.length:Int))=((4+B.length:Nat):Int):=by rw[ak (by omega)];omega
  have s1:sub X 4 ((4+B.length:Nat):Int)=some B:=by
   have:=dI (xs:=X) (lo:=4) (hi:=4+B.length) (by omega) (by omega);rw[show((4:Nat):Int)=4 from rfl] at this;rw[this,hX,←Z6,List.take_left' (by simp[dU]),X3 (dU _)]
  have s2:sub X ((4+B.length:Nat):Int) (X.length:Int)=some R:=by
   rw[fC (by omega),hX,←Z6,X3 (by simp[dU])]
  have hval:iY B (T.length:Int)=some (kH cols n T,true):=by
   have hcr:∀v∈kH cols n T,Rgt v:=λv hv=>by
    obtain⟨x,hx,rfl⟩:=Xe.1 hv;exact E7 hC hx n
   have:=HM (kind:=gE cols kinds n) hcr hcl;rw[←hB] at this;rw[show(kH cols n T).length=T.length by simp[kH]] at this;exact this
  rw[←hX];unfold gl;dsimp only;rw[ak (by omega),if_pos (by simp;omega),if_neg (by simp;omega),hn4,Jj,hw4,decide_eq_false (by omega)];unfold jL;rw[if_neg (by simp),hn4,Jj,hw4,s1,Jj];dsimp only;rw[hval,Jj,if_neg (by simp)];dsimp only;rw[JH hC (by omega),Jj];unfold jK;rw[if_neg (by simp),hw4,s2,Jj,ak (by omega)]
  rfl
 ·show gl ((T.length:Int),d9 cols kinds T (cols+3).toNat,true,⟨cols,srt,[]⟩) ((((Z7 (cols+3).toNat).drop (cols+3).toNat).map (lR cols kinds T)).flatten) ((cols+3).toNat:Int) (T.map (tkV cols (cols+3).toNat))=_
  have hT:T.map (tkV cols (cols+3).toNat)=T:=by
   rw[Zx (g:=id) (λv hm=>?_),List.map_id];obtain⟨h1,h2⟩:=hC.ok v hm;exact My hco.1 (qE h1 h2).2.1
  rw[hT,Z5 (by simp)];unfold gl;dsimp only;rw[ak (by omega),if_neg (by simp;omega)];have hrk:Rok T:=λv hm=>(hv v hm).len;obtain⟨T',h1,h2⟩:=BV (cs:=srt) (xs:=T) (by omega) (by omega) hrk;obtain rfl:=h2.unique (gr srt) (Stb.refl hS)
  have hso:gJ (some ⟨cols,srt,T'⟩)=some true:=by
   unfold gJ;simp only[Jj];rw[h1,Jj,Bd (by omega)]
   rfl
  unfold lY;rw[if_neg (by simp)];simp only[Jj];rw[vj (by omega) hv,Jj,Q8.2 h,if_neg (by simp),hso,Jj]
  rfl
set_option linter.unusedVariables false
set_option linter.unusedSimpArgs false
def atB (l:List aa)(id:aM):Option Nat:=l.findIdx? λv=>decide (v.fId=id)
theorem HN {l : List aa} {id : aM} (h : l.length ≤ 1048576) : eM l (λy => da y id) = some (((atB l id).map λi : Nat =>(i : Int)).getD (-1)) := by
  unfold eM
  have key:∀k i:Nat,i+k=l.length→am (λs:Int=>dT l (λy=>da y id) s) (i:Int)=some (((atB (l.drop i) id).map λj=>((i+j:Nat):Int)).getD (-1)):=by
    intro k
    induction k with
    | zero =>
      intro i hi;rw[Z5 (by omega)];apply a7;simp only[dT];rw[if_neg (by simp;omega)];rfl
    | succ k ih =>
      intro i hi;have hlt:i<l.length:=by omega
      unfold atB;rw[Z3 hlt,List.findIdx?_cons]
      by_cases he:l[i].fId=id
      · rw [if_pos (by simpa using he)]
        apply a7;simp only[dT];rw[if_pos (by simpa using hlt),ay hlt,Jj];simp only[da];rw[Jj,if_pos (by simpa using he)];simp
      · rw [if_neg (by simpa using he)]
        rw[bP (s':=((i+1:Nat):Int))]
        · rw [ih (i + 1) (by omega)]
          unfold atB;cases (l.drop (i+1)).findIdx? λv=>decide (v.fId=id) with
          |none=>rfl
          |some j=>simp only[Xa,Option.getD_some];congr 1;omega
        · simp only [dT]
          rw[if_pos (by simpa using hlt),ay hlt,Jj];simp only[da];rw[Jj,if_neg (by simpa using he),ak (by omega)];rfl
  have:=key l.length 0 (by omega);rw[Zq] at this;simpa using this
theorem Lh {f:ax}{id:aM}(h:f.fL.length≤1048576):iI (some f) id=some (((atB f.fL id).map λi:Nat=>(i:Int)).getD 0,(atB f.fL id).isSome):=by
  unfold iI;rw[Jj,HN h,Jj];cases atB f.fL id with
  |none=>rfl
  | some i =>
    simp only[Xa,Option.getD_some,Option.isSome_some];rw[if_neg (by omega),decide_eq_true (by omega)]
theorem BZ:pR=some true:=by
  let v1:aa:=⟨⟨1,0⟩,[⟨2,false,2,[]⟩],0⟩
  let v2:aa:=⟨⟨2,0⟩,[⟨2,false,1,[]⟩],0⟩
  have ok:∀(e n:Int),0≤e→e<10→0≤n→n<10→lg ⟨⟨e,0⟩,[⟨2,false,n,[]⟩],0⟩:=by
    intro e n h1 h2 h3 h4;refine⟨by dsimp only;omega,by dsimp only;omega,by dsimp only;omega,?_,by simp⟩;intro x hx;have:x=iR n:=by simpa using hx
    subst this;exact(Rgt.int n (by unfold cX;omega)).ok
  have hv:∀v∈[v1,v2],lg v:=by
    intro v hv;simp only[Xb,List.not_mem_nil,or_false] at hv;rcases hv with rfl|rfl
    ·exact ok 1 2 (by omega) (by omega) (by omega) (by omega)
    ·exact ok 2 1 (by omega) (by omega) (by omega) (by omega)
  have hA:pp 1 [0] [v1,v2]:=Q8.1 (by decide);rcases BW (cols:=1) (srt:=[0]) (kinds:=[]) (by simp) (by simp) hv with⟨h,_⟩|⟨_,T,h2,hC,hw,_⟩
  ·exact absurd (Q8.2 hA) h
  have hi:Stb (qlt [0]) ([]++[v1]++[v2]) ([]++v2::[v1]):=Stb.ins (gr [0]) (by simp[Srt]) (by
    intro s hs
    rw[List.mem_singleton] at hs;subst hs;decide) (by simp)
  obtain rfl:T=[v2,v1]:=Stb.unique (gr [0]) h2 hi;have hr:=DT (kinds:=[]) (hA.stb h2) (λv hm=>hv v ((h2.mem (gr [0])).1 hm)) h2.srt (by simp);unfold pR;rw[hw,Jj,hr,Jj,if_neg (by simp),if_neg (by simp)];unfold lJ;dsimp only;rw[if_neg (by simp),Lh (by simp),Jj]
  rfl
structure DU (c:bZ):Prop where
  so:c.fSort.length≤1048576
  ki:c.fKinds.length≤1048576
  le:c.fL.length≤1048576
  ok:∀v∈c.fL,lg v
set_option linter.unusedVariables false
section
def mo (x9:List aa) (x12:aa):Option (List aa×Bool):=
 (app 2932031007402 x9 ([x12])).bind λz33=>
 some (z33,true)
def sy (p0:List aa):Option (List aa):=
 (em (λ(s:List aa) (x:aa)=>mo s x) ([]:(List aa)) p0).bind λy42=>
 if y42.2 then
  some y42.1
 else
  none
def gt (p0:(Option ax)) (p1:List Ap):Option (List aa):=
 (dS p1).bind λr3=>
 (p0).bind λx10=>
 (p0).bind λx15=>
 (sub x10.fSort 0 (if (r3.length:Int)<(x15.fSort.length:Int) then (r3.length:Int) else (x15.fSort.length:Int))).bind λx20=>
 (p0).bind λx95=>
 (dH x95.fL r3 (λy0_ y1_=>cJ y0_ y1_ x20)).bind λr108=>
 (fc p0 r108.1).bind λr125=>
 some r125
def gu (x109:Bool):Option Bool:=
 some x109
def ko (p1:List Ap) (r35:((Option ax)×Int)) (r88:List aa):Option Bool:=
 (pR).bind λr111=>
 if r111 then
  if (p1.length:Int)==0 then
   gu true
  else
   (sub p1 0 (Zk.wrap ((p1.length:Int) - 1))).bind λx132=>
   (gt r35.1 x132).bind λr136=>
   (sy r136).bind λr142=>
   gu (decide ((r88.length:Int)≤(r142.length:Int)))
 else
  gu false
def gv (p1:List Ap) (r73:List aa) (r88:List aa) (x159:Int) (x178:List Int):Option (Int⊕Bool):=
 (idx r73 x159).bind λx185=>
 (sa x178 x185.fRow).bind λr194=>
 (rC r194 p1).bind λr201=>
 if !((decide (r201<0))==(decide (x159<(Zk.wrap ((r73.length:Int) - (r88.length:Int)))))) then
  (some false).map Sum.inr
 else
  some (.inl (Zk.wrap (x159+1)))
def iJ (p0:bZ) (p1:List Ap) (r35:((Option ax)×Int)) (r73:List aa) (r88:List aa) (x159:Int):Option (Int⊕Bool):=
 if decide (x159<(r73.length:Int)) then
  if decide ((p1.length:Int)<(p0.fSort.length:Int)) then
   (sub p0.fSort 0 (p1.length:Int)).bind λx225=>
   gv p1 r73 r88 x159 x225
  else
   gv p1 r73 r88 x159 p0.fSort
 else
  (ko p1 r35 r88).map Sum.inr
def iK (p0:bZ) (p1:List Ap) (r35:((Option ax)×Int)) (r73:List aa) (r88:List aa) (x97:Bool):Option Bool:=
 if x97 then
  some false
 else
  am (λs:Int=>iJ p0 p1 r35 r73 r88 s) 0
def iL (p0:bZ) (p1:List Ap) (r35:((Option ax)×Int)) (x62:Bool):Option Bool:=
 if x62 then
  some false
 else
  (jm r35.1).bind λr67=>
  (sy r67).bind λr73=>
  (gt r35.1 p1).bind λr82=>
  (sy r82).bind λr88=>
  if decide ((r73.length:Int)<(r88.length:Int)) then
   iK p0 p1 r35 r73 r88 true
  else
   (sub r73 (Zk.wrap ((r73.length:Int) - (r88.length:Int))) r73.length).bind λx244=>
   (jN x244 r88).bind λr249=>
   iK p0 p1 r35 r73 r88 (!r249)
def mS (p0:bZ) (p1:List Ap):Option Bool:=
 (fm p0.fColumns p0.fSort p0.fKinds p0.fL).bind λr19=>
 (fg r19.1).bind λr35=>
 if r19.2 != 0 then
  (pR).bind λr53=>
  some r53
 else
  if r35.2 != 0 then
   iL p0 p1 r35 true
  else
   iL p0 p1 r35 r35.1.isNone
end
set_option linter.unusedVariables false
set_option linter.unusedSimpArgs false
theorem B3 {f:ax}(n:Nat)(hn:n≤f.fL.length)(h:f.fL.length≤1048576)(hr:Rok f.fL):fc (some f) (n:Int)=some (f.fL.drop n):=by
 unfold fc d4 dM;rw[Jj,fC hn,Jj]
 have:am (λs:Int×List aa=>cF (λ(s:List aa) x=>some (s++[x],true)) (f.fL.drop n) s.1 s.2) (0,[])=some (f.fL.drop n):=by
  refine gM (λi=>((i:Int),(f.fL.drop n).take i)) (f.fL.drop n).length (by simp) (λi hi=>?_) ?_
  ·simp only [cF]
   have hm:(f.fL.drop n)[i]∈f.fL:=Zv (Z8 hi);have hl:(f.fL.drop n).length≤f.fL.length:=by simp
   rw[if_pos (by simpa using hi),ay hi,Jj,own_eq (hr _ hm),Jj,Jj,if_neg (by simp),ak (by omega),iU hi]
   rfl
  ·simp only [cF]
   rw[if_neg (by simp),Za]
 rw[this];rfl
theorem MA {f:ax}(h:f.fL.length≤1048576)(hr:Rok f.fL):jm (some f)=some f.fL:=by
 unfold jm;have:=B3 (f:=f) 0 (by omega) h hr;rw[show((0:Nat):Int)=0 from rfl] at this;rw[this];rfl
theorem JK:fg []=some (none,80):=by
 unfold fg;rw[if_pos (by decide)];rfl
theorem P0 {c:bZ} (h:DU c) (kinds:List Int) (hk:kinds.length≤1048576):(∃e,e≠0∧e=qV c.fColumns c.fSort c.fL∧fm c.fColumns c.fSort kinds c.fL=some ([],e)∧fg []=some (none,80))∨
  (∃T,pp c.fColumns c.fSort T∧Stb (qlt c.fSort) c.fL T∧qV c.fColumns c.fSort c.fL=0∧(∀v∈T,lg v)∧Rok T∧T.length=c.fL.length∧T.length≤4096∧fm c.fColumns c.fSort kinds c.fL=some (mn c.fColumns c.fSort kinds T,0)∧fg (mn c.fColumns c.fSort kinds T)=some (some ⟨c.fColumns,c.fSort,T⟩,0)):=by
 rcases BW (cols:=c.fColumns) (kinds:=kinds) h.so hk h.ok with⟨h1,h2,_⟩|⟨hA,T,hS,hC,h1,_⟩
 ·exact .inl ⟨_,h1,rfl,h2,JK⟩
 ·have hv: ∀v∈T,lg v:=fun v hm=>h.ok v ((hS.mem (gr c.fSort)).1 hm)
  have hA':=hA.stb hS;exact .inr ⟨T,hA',hS,Q8.2 hA,hv,λv hm=>(hv v hm).len,hS.len (gr c.fSort),hA'.le,h1,DT hA' hv hS.srt hk⟩
set_option linter.unusedVariables false
set_option linter.unusedSimpArgs false
theorem DV {α:Type} {lt:α→α→Bool}: ∀A k:List α,lexL lt (A.take k.length) k=lexL lt A k
 |A,[]=>by cases A<;>rfl
 |[],_::_=>rfl
 |a::x,b::y=>by simp only[List.length_cons,List.take_succ_cons,lexL,DV x y]
theorem Aa {α:Type} {lt:α→α→Bool}: ∀(n:Nat) (A k:List α),lexL lt A (k.take n)=true→lexL lt A k=true
 |0,A,k,h=>by cases A<;>simp[lexL] at h
 |n+1,A,[],h=>by simpa using h
 |n+1,[],b::y,h=>rfl
 |n+1,a::x,b::y,h=>by
  simp only[List.take_succ_cons,lexL,X8,Ze] at h ⊢;exact h.imp id λh=>⟨h.1,Aa n x y h.2⟩
def lA (srt:List Int)(k:List Ap)(T:List aa)(i:Nat):Bool:=match T[i]? with
 |none=>false
 |some v=>rlt (dO srt v.fRow) k
theorem Ab {srt:List Int}{k:List Ap}{T:List aa}(h:Srt (qlt srt) T){i j:Nat}(hij:i≤j)(hb:lA srt k T j=true):lA srt k T i=true:=by
 rcases Nat.eq_or_lt_of_le hij with rfl|hlt
 ·exact hb
 unfold lA at hb ⊢
 by_cases hj:j<T.length
 ·rw [Z0 hj] at hb
  rw[Z0 (by omega)];have h1:=Zn.1 h i j (by omega) hj hlt;cases hi:rlt (dO srt T[i].fRow) k with
  |true=>exact hi
  | false =>
   have h2:rlt (dO srt T[j].fRow) (dO srt T[i].fRow)=false:=by
    unfold qlt pn at h1;exact(Zm.1 h1).1
   have h3:=R9.inc _ _ _ h2 hi;dsimp only at hb;rw[h3] at hb;cases hb
 ·rw[List.getElem?_eq_none (by omega)] at hb;cases hb
theorem HO {k:List Ap}(h:k.length≤1048576):dS k=some k:=by
 unfold dS;rw[aH (by simp;omega)];rfl
theorem Ey (srt:List Int)(n:Nat)(row:List Ap):dO (srt.take n) row=(dO srt row).take n:=by
 simp[dO,Xd]
theorem Fa (srt:List Int)(k row:List Ap):rlt (dO (srt.take k.length) row) k=rlt (dO srt row) k:=by
 rw[Ey];exact DV _ _
theorem Fb {f:ax} {k:List Ap} (hl:f.fL.length≤1048576) (hr:Rok f.fL) (hs:f.fSort.length≤1048576) (hk:k.length≤1048576) (hS:Srt (qlt f.fSort) f.fL):
  ∃n,n≤f.fL.length∧(∀i,i<f.fL.length→(lA f.fSort k f.fL i=true↔i<n))∧gt (some f) k=some (f.fL.drop n):=by
 have hb:∃s:Nat,0≤s∧s≤f.fL.length∧(s=0∨lA f.fSort k f.fL (s - 1)=true)∧(s=f.fL.length∨lA f.fSort k f.fL s=false)∧dH f.fL k (λy0_ y1_=>cJ y0_ y1_ (f.fSort.take k.length))=(dZ f.fL k (λy0_ y1_=>cJ y0_ y1_ (f.fSort.take k.length)) s):=by
  unfold dH;refine xL (lA f.fSort k f.fL) 0 f.fL.length _ (λlo hi _ h1 h2=>?_) (λs _ h1=>?_) (Nat.zero_le _)
  ·simp only [fA]
   have hm:(lo+hi)/2<f.fL.length:=by omega
   have hc:((lo:Int)+(hi:Int))/2=(((lo+hi)/2:Nat):Int):=by omega
   rw[if_pos (by simpa using h1),uq (by omega),hc,ay hm,Jj];unfold cJ;rw[z7 (by simp;omega),Jj,vi (by rw[ml];simp;omega) (by omega),Jj,zZ,Fa]
   have hg:lA f.fSort k f.fL ((lo+hi)/2)=rlt (dO f.fSort f.fL[(lo+hi)/2].fRow) k:=by
    unfold lA;rw[Z0 hm]
   rw[hg];cases rlt (dO f.fSort f.fL[(lo+hi)/2].fRow) k with
   |true=>
    rw[if_pos rfl,if_pos rfl,Jj,if_pos (by decide),ak (by omega)];rfl
   |false=>
    rw[if_neg (by simp),if_neg (by simp),Jj,if_neg (by decide)]
  ·simp only [fA]
   rw[if_neg (by simp)]
 obtain⟨n,_,hn,h1,h2,h3⟩:=hb;refine⟨n,hn,λi hi=>⟨λh=>?_,λh=>?_⟩,?_⟩
 ·rcases h2 with rfl|h2
  ·exact hi
  ·refine Nat.lt_of_not_le fun hle=> ?_
   rw[Ab hS hle h] at h2;cases h2
 ·rcases h1 with rfl|h1
  ·omega
  ·exact Ab hS (by omega) h1
 ·have hj:dZ f.fL k (λy0_ y1_=>cJ y0_ y1_ (f.fSort.take k.length)) n=some ((n:Int),false):=by
   unfold dZ fz
   by_cases hlt:n<f.fL.length
   ·rw [if_pos (by simpa using hlt),ay hlt,Jj]
    unfold cJ;dsimp only;rw[z7 (by simp;omega),Jj,vi (by rw[ml];simp;omega) (by omega),Jj,zZ];cases rlt (dO (f.fSort.take k.length) f.fL[n].fRow) k with
    |true=>rw[if_pos rfl,Jj];rfl
    |false=>rw[if_neg (by simp),Jj];rfl
   ·rw[if_neg (by simpa using hlt)]
  have hsub:sub f.fSort 0 (if (k.length:Int)<(f.fSort.length:Int) then (k.length:Int) else (f.fSort.length:Int))=some (f.fSort.take k.length):=by
   by_cases hlt:k.length<f.fSort.length
   ·rw [if_pos (by omega)]
    have:=dI (xs:=f.fSort) (lo:=0) (hi:=k.length) (by omega) (by omega);rw[show((0:Nat):Int)=0 from rfl] at this;rw[this,Zq]
   ·rw [if_neg (by omega)]
    have:=dI (xs:=f.fSort) (lo:=0) (hi:=f.fSort.length) (by omega) (by omega);rw[show((0:Nat):Int)=0 from rfl] at this;rw[this,Zq,Za,Z2 (by omega)]
  unfold gt;rw[HO hk,Jj];simp only[Jj];rw[hsub,Jj,h3,hj,Jj,B3 n hn hl hr]
  rfl
theorem DW {l:List aa}(h:l.length≤1048576):sy l=some l:=by
 unfold sy
 have key:∀(xs out:List aa),out.length+xs.length≤1048576→em (λ(s:List aa) (x:aa)=>mo s x) out xs=some (out++xs,true):=by
  intro xs
  induction xs with
  |nil=>intro out _;simp[em]
  | cons x xs ih =>
   intro out ho;simp only[List.length_cons] at ho
   have hb:mo out x=some (out++[x],true):=by
    unfold mo;rw[aH (by simp;omega),Jj]
   simp only[em];rw[hb,Jj,if_pos rfl,ih _ (by simp;omega)];simp
 rw[key l [] (by simpa using h)]
 rfl
theorem HP {c:bZ}{k:List Ap}(h:DU c)(hk:k.length≤1048576):mS c k=some true:=by
 unfold mS;rcases P0 h c.fKinds h.ki with⟨e,h1,_,h2,h3⟩|⟨T,hA,hSt,_,hv,hr,hl,hle,h2,h3⟩
 ·rw[h2,Jj,h3,Jj,if_pos (by simpa using h1),BZ];rfl
 ·have hlT:T.length≤1048576:=by omega
  have hso:=h.so;rw[h2,Jj,h3,Jj,if_neg (by simp),if_neg (by simp)];obtain⟨n,hn,hnb,hF⟩:=Fb (f:=⟨c.fColumns,c.fSort,T⟩) (k:=k) hlT hr hso hk hSt.srt;dsimp only at hn hnb hF;unfold iL;rw[if_neg (by simp),MA (by dsimp only;omega) hr,Jj];dsimp only;rw[DW hlT,Jj,hF,Jj,DW (by simp;omega),Jj,if_neg (by simp)]
  have hw:Zk.wrap ((T.length:Int) - ((T.drop n).length:Int))=(n:Int):=by
   rw[Zp,ak (by omega)];omega
  rw[hw,fC hn,Jj,xQ (by simp;omega) (λv hv=>hr v (Zv hv)),Jj];unfold iK;rw[if_neg (by simp)];refine gM (λi=>(i:Int)) T.length (by simp) (λi hi=>?_) ?_
  ·simp only [iJ]
   rw[if_pos (by simpa using hi)]
   have hj:gv k T (T.drop n) (i:Int) (c.fSort.take k.length)=some (.inl ((i+1:Nat):Int)):=by
    unfold gv;rw[ay hi,Jj,w5 (by simp;omega),Jj,z6 (by rw[ml];simp;omega) (by omega),Jj,zZ,Fa,hw];have hg:=hnb i hi;unfold lA at hg;rw[Z0 hi] at hg;dsimp only at hg
    have:rlt (dO c.fSort T[i].fRow) k=decide ((i:Int)<(n:Int)):=by
     rw[Zs,hg,decide_eq_true_eq];omega
    rw[this,if_neg (by simp),ak (by omega)];rfl
   by_cases hlt:k.length<c.fSort.length
   ·rw [if_pos (by simpa using hlt)]
    have:=dI (xs:=c.fSort) (lo:=0) (hi:=k.length) (by omega) (by omega);rw[show((0:Nat):Int)=0 from rfl] at this;rw[this,Jj,Zq,hj]
   ·rw [if_neg (by simpa using hlt)]
    rw[Z2 (by omega)] at hj;exact hj
  ·simp only [iJ]
   rw[if_neg (by simp)];unfold ko;rw[BZ,Jj,if_pos rfl];unfold gu
   by_cases h0:k.length=0
   ·rw[if_pos (by simp[h0])]
   ·rw [if_neg (by simpa using h0)]
    have hw1:Zk.wrap ((k.length:Int) - 1)=((k.length - 1:Nat):Int):=by
     rw[ak (by omega)];omega
    have:=dI (xs:=k) (lo:=0) (hi:=k.length - 1) (by omega) (by omega);rw[show((0:Nat):Int)=0 from rfl] at this;rw[hw1,this,Jj,Zq];obtain⟨n',hn',hnb',hF'⟩:=Fb (f:=⟨c.fColumns,c.fSort,T⟩) (k:=k.take (k.length - 1)) hlT hr hso (by simp;omega) hSt.srt;dsimp only at hn' hnb' hF';rw[hF',Jj,DW (by simp;omega),Jj]
    have hle2:n'≤n:=by
     refine Nat.le_of_not_lt λhlt=>?_;have h4:=(hnb' (n' - 1) (by omega)).2 (by omega)
     have h5:lA c.fSort k T (n' - 1)=true:=by
      unfold lA at h4 ⊢;rw[Z0 (by omega)] at h4 ⊢;exact Aa _ _ _ h4
     have:=(hnb (n' - 1) (by omega)).1 h5;omega
    rw[decide_eq_true (by simp only[Zp];omega)]
set_option maxRecDepth 100000
set_option linter.unusedSimpArgs false
open Go.Proofs Tryz
theorem mixed:prog.follows .mixedOrders=true:=by kernel_rfl
def Ap.pr (x:Ap):Int×Bool×Int×List Int:=(x.fKind,x.fBool,x.fInt,x.fText)
def kAp:Kd Ap:=oP Ap.pr (bS (ai .i64) (bS cG (bS (ai .i64) qJ)))
theorem MB:Fld kAp (ai .i64) 0 (λx=>x.fKind):=b9 dt
theorem DX:StF kAp (ai .i64) 0 (λx y=>{ x with fKind:=y }):=cc dB (λ_ _=>rfl)
theorem MC:Fld kAp cG 1 (λx=>x.fBool):=b9 (be dt)
theorem MD:StF kAp cG 1 (λx y=>{ x with fBool:=y }):=cc (aX dB) (λ_ _=>rfl)
theorem ME:Fld kAp (ai .i64) 2 (λx=>x.fInt):=b9 (be (be dt))
theorem DY:StF kAp (ai .i64) 2 (λx y=>{ x with fInt:=y }):=cc (aX (aX dB)) (λ_ _=>rfl)
theorem MG:Fld kAp qJ 3 (λx=>x.fText):=b9 (be (be (be i8)))
theorem MH:StF kAp qJ 3 (λx y=>{ x with fText:=y }):=cc (aX (aX (aX bq))) (λ_ _=>rfl)
def aT.pr (x:aT):Int×Ap:=(x.fMany,x.fValue)
def cy:Kd aT:=oP aT.pr (bS (ai .i64) kAp)
theorem Li:Fld cy (ai .i64) 0 (λx=>x.fMany):=b9 dt
theorem Be:StF cy (ai .i64) 0 (λx y=>{ x with fMany:=y }):=cc dB (λ_ _=>rfl)
theorem Lj:Fld cy kAp 1 (λx=>x.fValue):=b9 (be i8)
theorem Fc:StF cy kAp 1 (λx y=>{ x with fValue:=y }):=cc (aX bq) (λ_ _=>rfl)
def bO.pr (x:bO):Int×Int×Ap×Ap×Int×Int:=(x.fKind,x.fMany,x.fMin,x.fMax,x.fNulls,x.fBytes)
def cW:Kd bO:=oP bO.pr (bS (ai .i64) (bS (ai .i64) (bS kAp (bS kAp (bS (ai .i64) (ai .i64))))))
theorem MI:Fld cW (ai .i64) 0 (λx=>x.fKind):=b9 dt
theorem HQ:StF cW (ai .i64) 0 (λx y=>{ x with fKind:=y }):=cc dB (λ_ _=>rfl)
theorem MJ:Fld cW (ai .i64) 1 (λx=>x.fMany):=b9 (be dt)
theorem HR:StF cW (ai .i64) 1 (λx y=>{ x with fMany:=y }):=cc (aX dB) (λ_ _=>rfl)
theorem MK:Fld cW kAp 2 (λx=>x.fMin):=b9 (be (be dt))
theorem HS:StF cW kAp 2 (λx y=>{ x with fMin:=y }):=cc (aX (aX dB)) (λ_ _=>rfl)
theorem ML:Fld cW kAp 6 (λx=>x.fMax):=b9 (be (be (be dt)))
theorem HT:StF cW kAp 6 (λx y=>{ x with fMax:=y }):=cc (aX (aX (aX dB))) (λ_ _=>rfl)
theorem MM:Fld cW (ai .i64) 10 (λx=>x.fNulls):=b9 (be (be (be (be dt))))
theorem HU:StF cW (ai .i64) 10 (λx y=>{ x with fNulls:=y }):=cc (aX (aX (aX (aX dB)))) (λ_ _=>rfl)
theorem MN:Fld cW (ai .i64) 11 (λx=>x.fBytes):=b9 (be (be (be (be (be i8)))))
theorem MO:StF cW (ai .i64) 11 (λx y=>{ x with fBytes:=y }):=cc (aX (aX (aX (aX (aX bq))))) (λ_ _=>rfl)
def fG.pr (x:fG):Int×Ap:=(x.fMany,x.fValue)
def rF:Kd fG:=oP fG.pr (bS (ai .i64) kAp)
theorem Lk:Fld rF (ai .i64) 0 (λx=>x.fMany):=b9 dt
theorem Ll:StF rF (ai .i64) 0 (λx y=>{ x with fMany:=y }):=cc dB (λ_ _=>rfl)
theorem Lm:Fld rF kAp 1 (λx=>x.fValue):=b9 (be i8)
theorem Ln:StF rF kAp 1 (λx y=>{ x with fValue:=y }):=cc (aX bq) (λ_ _=>rfl)
def du.pr (x:du):Int×Int×Ap×Ap×Int×Int:=(x.fKind,x.fMany,x.fMin,x.fMax,x.fNulls,x.fBytes)
def fF:Kd du:=oP du.pr (bS (ai .i64) (bS (ai .i64) (bS kAp (bS kAp (bS (ai .i64) (ai .i64))))))
theorem MP:Fld fF (ai .i64) 0 (λx=>x.fKind):=b9 dt
theorem MQ:StF fF (ai .i64) 0 (λx y=>{ x with fKind:=y }):=cc dB (λ_ _=>rfl)
theorem MR:Fld fF (ai .i64) 1 (λx=>x.fMany):=b9 (be dt)
theorem MS:StF fF (ai .i64) 1 (λx y=>{ x with fMany:=y }):=cc (aX dB) (λ_ _=>rfl)
theorem MT:Fld fF kAp 2 (λx=>x.fMin):=b9 (be (be dt))
theorem MU:StF fF kAp 2 (λx y=>{ x with fMin:=y }):=cc (aX (aX dB)) (λ_ _=>rfl)
theorem MV:Fld fF kAp 6 (λx=>x.fMax):=b9 (be (be (be dt)))
theorem MW:StF fF kAp 6 (λx y=>{ x with fMax:=y }):=cc (aX (aX (aX dB))) (λ_ _=>rfl)
theorem MX:Fld fF (ai .i64) 10 (λx=>x.fNulls):=b9 (be (be (be (be dt))))
theorem MY:StF fF (ai .i64) 10 (λx y=>{ x with fNulls:=y }):=cc (aX (aX (aX (aX dB)))) (λ_ _=>rfl)
theorem MZ:Fld fF (ai .i64) 11 (λx=>x.fBytes):=b9 (be (be (be (be (be i8)))))
theorem M0:StF fF (ai .i64) 11 (λx y=>{ x with fBytes:=y }):=cc (aX (aX (aX (aX (aX bq))))) (λ_ _=>rfl)
def aj.pr (x:aj):List Int×Bool:=(x.fB,x.fOk)
def i6:Kd aj:=oP aj.pr (bS (kSl (ai .u8)) cG)
theorem Lo:Fld i6 (kSl (ai .u8)) 0 (λx=>x.fB):=b9 dt
theorem Lu:StF i6 (kSl (ai .u8)) 0 (λx y=>{ x with fB:=y }):=cc dB (λ_ _=>rfl)
theorem Lw:Fld i6 cG 1 (λx=>x.fOk):=b9 (be i8)
theorem Fd:StF i6 cG 1 (λx y=>{ x with fOk:=y }):=cc (aX bq) (λ_ _=>rfl)
def aM.pr (x:aM):Int×Int:=(x.fEpoch,x.fNumber)
def bA:Kd aM:=oP aM.pr (bS (ai .u64) (ai .u32))
theorem M1:Fld bA (ai .u64) 0 (λx=>x.fEpoch):=b9 dt
theorem w8:StF bA (ai .u64) 0 (λx y=>{ x with fEpoch:=y }):=cc dB (λ_ _=>rfl)
theorem M2:Fld bA (ai .u32) 1 (λx=>x.fNumber):=b9 (be i8)
theorem HV:StF bA (ai .u32) 1 (λx y=>{ x with fNumber:=y }):=cc (aX bq) (λ_ _=>rfl)
def aa.pr (x:aa):aM×List Ap×Int:=(x.fId,x.fRow,x.fDeleted)
def ab:Kd aa:=oP aa.pr (bS bA (bS (kSl kAp) (ai .u64)))
theorem Ad:Fld ab bA 0 (λx=>x.fId):=b9 dt
theorem w9:StF ab bA 0 (λx y=>{ x with fId:=y }):=cc dB (λ_ _=>rfl)
theorem HW:Fld ab (kSl kAp) 2 (λx=>x.fRow):=b9 (be dt)
theorem Ae:StF ab (kSl kAp) 2 (λx y=>{ x with fRow:=y }):=cc (aX dB) (λ_ _=>rfl)
theorem M3:Fld ab (ai .u64) 3 (λx=>x.fDeleted):=b9 (be (be i8))
theorem HX:StF ab (ai .u64) 3 (λx y=>{ x with fDeleted:=y }):=cc (aX (aX bq)) (λ_ _=>rfl)
def ax.pr (x:ax):Int×List Int×List aa:=(x.fColumns,x.fSort,x.fL)
def aW:Kd ax:=oP ax.pr (bS (ai .i64) (bS (kSl (ai .i64)) (kSl ab)))
theorem Fe:Fld aW (ai .i64) 0 (λx=>x.fColumns):=b9 dt
theorem Ff:StF aW (ai .i64) 0 (λx y=>{ x with fColumns:=y }):=cc dB (λ_ _=>rfl)
theorem uu:Fld aW (kSl (ai .i64)) 1 (λx=>x.fSort):=b9 (be dt)
theorem Fg:StF aW (kSl (ai .i64)) 1 (λx y=>{ x with fSort:=y }):=cc (aX dB) (λ_ _=>rfl)
theorem oK:Fld aW (kSl ab) 2 (λx=>x.fL):=b9 (be (be i8))
theorem Lx:StF aW (kSl ab) 2 (λx y=>{ x with fL:=y }):=cc (aX (aX bq)) (λ_ _=>rfl)
def bZ.pr (x:bZ):Int×List Int×List Int×List aa:=(x.fColumns,x.fSort,x.fKinds,x.fL)
def bT:Kd bZ:=oP bZ.pr (bS (ai .i64) (bS (kSl (ai .i64)) (bS (kSl (ai .i64)) (kSl ab))))
theorem M4:Fld bT (ai .i64) 0 (λx=>x.fColumns):=b9 dt
theorem M5:StF bT (ai .i64) 0 (λx y=>{ x with fColumns:=y }):=cc dB (λ_ _=>rfl)
theorem M6:Fld bT (kSl (ai .i64)) 1 (λx=>x.fSort):=b9 (be dt)
theorem M7:StF bT (kSl (ai .i64)) 1 (λx y=>{ x with fSort:=y }):=cc (aX dB) (λ_ _=>rfl)
theorem M8:Fld bT (kSl (ai .i64)) 2 (λx=>x.fKinds):=b9 (be (be dt))
theorem M9:StF bT (kSl (ai .i64)) 2 (λx y=>{ x with fKinds:=y }):=cc (aX (aX dB)) (λ_ _=>rfl)
theorem Na:Fld bT (kSl ab) 3 (λx=>x.fL):=b9 (be (be (be i8)))
theorem Nb:StF bT (kSl ab) 3 (λx y=>{ x with fL:=y }):=cc (aX (aX (aX bq))) (λ_ _=>rfl)
def ET.pr (x:ET):Int×List Int×List aa:=(x.fColumns,x.fSort,x.fL)
theorem DZ:om prog 32 4 40:=⟨⟨t32,_,type32,rfl,rfl,rfl,rfl⟩⟩
theorem fh:dv prog 32 kAp:=⟨sizeOf32,isAgg32⟩
def xa:List Value:=[.int .i64 0,.bool false,.int .i64 0,.string (bts [])]
theorem pY:∀m,kAp.R m xa Ap.zero:=λ_=>⟨⟨rfl,aw (by decide)⟩,⟨rfl,⟨⟨rfl,aw (by decide)⟩,⟨rfl,(by decide),(by decide)⟩⟩⟩⟩
theorem D0:cQ prog 32 0 0:=cH underlying32 rfl sizeOf3 (by decide) rfl
theorem ty3:dv prog 3 (ai .i64):=⟨sizeOf3,isAgg3⟩
theorem Bf {m:M}{cs:List Value}{x:Ap}(h:kAp.R m cs x):cs=[.int .i64 x.fKind,.bool x.fBool,.int .i64 x.fInt,.string (bts x.fText)]∧(∀n∈x.fText,0≤n∧n<256):=by
 obtain⟨h0,h1,h2,h3⟩:=h;refine⟨?_,h3.2.1⟩;rw[←Z4 1 cs,show(cs).take 1=_ from h0.1,←Z4 1 ((cs).drop 1),show((cs).drop 1).take 1=_ from h1,←Z4 1 (((cs).drop 1).drop 1),show(((cs).drop 1).drop 1).take 1=_ from h2.1,show(((cs).drop 1).drop 1).drop 1=_ from h3.1]
 rfl
theorem Bg:vT prog 32 kAp:=by
 refine⟨λm cs ds x y d w hx hy=>?_,λop o o' cs ds w=>?_⟩
 ·obtain ⟨rfl,p3⟩:=Bf hx
  obtain⟨rfl,q3⟩:=Bf hy;have e:x=y↔x.fKind=y.fKind∧x.fBool=y.fBool∧x.fInt=y.fInt∧x.fText=y.fText:=by cases x;cases y;simp
  show(Op.equalIn (d+20) 32 (.agg #[_,_,_,_]) (.agg #[_,_,_,_])).run _ _=_;rw[run_equalIn_struct w (d+19) 32 _ _ underlying32 stoodInHeld32];simp only[Program.fieldsOf,underlying32,Op.eqFields];simp[part,run_equalIn_int,run_equalIn_bool',run_equalIn_string,xv p3 q3]
  repeat' split
  all_goals simp_all
 ·show (eqGuard op 32 o o' (.agg _) (.agg _)).run _ _=_
  cases op<;>simp[eqGuard]
theorem Nc:cQ prog 32 1 1:=cH underlying32 rfl sizeOf4 (by decide) rfl
theorem ty4:dv prog 4 cG:=⟨sizeOf4,isAgg4⟩
theorem uv:cQ prog 32 2 2:=cH underlying32 rfl sizeOf2 (by decide) rfl
theorem ty2:dv prog 2 (ai .i64):=⟨sizeOf2,isAgg2⟩
theorem Nd:cQ prog 32 3 3:=cH underlying32 rfl sizeOf9 (by decide) rfl
theorem el2:om prog 2 1 8:=⟨⟨t2,_,type2,rfl,rfl,rfl,rfl⟩⟩
theorem Fh:cQ prog 187 1 1:=cH underlying187 rfl sizeOf32 (by decide) rfl
theorem Bh:cQ prog 187 0 0:=cH underlying187 rfl sizeOf3 (by decide) rfl
def P1:List Value:=[.int .i64 0,.int .i64 0,.bool false,.int .i64 0,.string (bts [])]
theorem Gi:∀m,cy.R m P1 aT.zero:=λ_=>⟨⟨rfl,aw (by decide)⟩,⟨⟨rfl,aw (by decide)⟩,⟨rfl,⟨⟨rfl,aw (by decide)⟩,⟨rfl,(by decide),(by decide)⟩⟩⟩⟩⟩
theorem J7:om prog 187 5 48:=⟨⟨t187,_,type187,rfl,rfl,rfl,rfl⟩⟩
def zc5:List Value:=[.int .u8 0]
theorem zr5:∀m,(ai .u8).R m zc5 0:=λ_=>⟨rfl,aw (by decide)⟩
def Gj:List Value:=(List.replicate 8 zc5).flatten
theorem P2:∀m b,GS (ai .u8) m b Gj (.slice (some ⟨b,0,none⟩) 8 8) (List.replicate 8 0):=λ_ _=>GS.zero zr5 rfl
theorem ty5:dv prog 5 (ai .u8):=⟨sizeOf5,isAgg5⟩
theorem el5:om prog 5 1 1:=⟨⟨t5,_,type5,rfl,rfl,rfl,rfl⟩⟩
theorem P3:dv prog 187 cy:=⟨sizeOf187,isAgg187⟩
theorem yU:dv prog 54 (ai .u64):=⟨sizeOf54,isAgg54⟩
theorem Nf:om prog 54 1 8:=⟨⟨t54,_,type54,rfl,rfl,rfl,rfl⟩⟩
theorem tX:dv prog 22 (kSl kAp):=⟨sizeOf22,isAgg22⟩
def vn:List Value:=[.int .i64 0,.int .i64 0,.int .i64 0,.bool false,.int .i64 0,.string (bts []),.int .i64 0,.bool false,.int .i64 0,.string (bts []),.int .i64 0,.int .i64 0]
theorem yV:∀m,cW.R m vn bO.zero:=λ_=>⟨⟨rfl,aw (by decide)⟩,⟨⟨rfl,aw (by decide)⟩,⟨⟨⟨rfl,aw (by decide)⟩,⟨rfl,⟨⟨rfl,aw (by decide)⟩,⟨rfl,(by decide),(by decide)⟩⟩⟩⟩,⟨⟨⟨rfl,aw (by decide)⟩,⟨rfl,⟨⟨rfl,aw (by decide)⟩,⟨rfl,(by decide),(by decide)⟩⟩⟩⟩,⟨⟨rfl,aw (by decide)⟩,⟨rfl,aw (by decide)⟩⟩⟩⟩⟩⟩
theorem yW:dv prog 34 cW:=⟨sizeOf34,isAgg34⟩
theorem xb:cQ prog 34 4 10:=cH underlying34 rfl sizeOf3 (by decide) rfl
theorem JL:dv prog 55 (ai .u32):=⟨sizeOf55,isAgg55⟩
theorem HY:cQ prog 34 1 1:=cH underlying34 rfl sizeOf3 (by decide) rfl
theorem D1:cQ prog 34 2 2:=cH underlying34 rfl sizeOf32 (by decide) rfl
theorem D2:cQ prog 34 3 6:=cH underlying34 rfl sizeOf32 (by decide) rfl
theorem P4:dv prog 155 rF:=⟨sizeOf155,isAgg155⟩
def P5:List Value:=[.int .i64 0,.int .i64 0,.bool false,.int .i64 0,.string (bts [])]
theorem J8:∀m,rF.R m P5 fG.zero:=λ_=>⟨⟨rfl,aw (by decide)⟩,⟨⟨rfl,aw (by decide)⟩,⟨rfl,⟨⟨rfl,aw (by decide)⟩,⟨rfl,(by decide),(by decide)⟩⟩⟩⟩⟩
theorem Lz:cQ prog 155 0 0:=cH underlying155 rfl sizeOf3 (by decide) rfl
theorem P6:om prog 155 5 48:=⟨⟨t155,_,type155,rfl,rfl,rfl,rfl⟩⟩
theorem LA:cQ prog 155 1 1:=cH underlying155 rfl sizeOf32 (by decide) rfl
def Rk:List Value:=[.int .i64 0,.int .i64 0,.int .i64 0,.bool false,.int .i64 0,.string (bts []),.int .i64 0,.bool false,.int .i64 0,.string (bts []),.int .i64 0,.int .i64 0]
theorem Ng:∀m,fF.R m Rk du.zero:=λ_=>⟨⟨rfl,aw (by decide)⟩,⟨⟨rfl,aw (by decide)⟩,⟨⟨⟨rfl,aw (by decide)⟩,⟨rfl,⟨⟨rfl,aw (by decide)⟩,⟨rfl,(by decide),(by decide)⟩⟩⟩⟩,⟨⟨⟨rfl,aw (by decide)⟩,⟨rfl,⟨⟨rfl,aw (by decide)⟩,⟨rfl,(by decide),(by decide)⟩⟩⟩⟩,⟨⟨rfl,aw (by decide)⟩,⟨rfl,aw (by decide)⟩⟩⟩⟩⟩⟩
theorem Rn:dv prog 37 fF:=⟨sizeOf37,isAgg37⟩
theorem Nh:cQ prog 37 2 2:=cH underlying37 rfl sizeOf32 (by decide) rfl
theorem Ni:cQ prog 37 3 6:=cH underlying37 rfl sizeOf32 (by decide) rfl
theorem Nj:cQ prog 37 4 10:=cH underlying37 rfl sizeOf3 (by decide) rfl
theorem Nk:cQ prog 37 1 1:=cH underlying37 rfl sizeOf3 (by decide) rfl
theorem Af:cQ prog 34 5 11:=cH underlying34 rfl sizeOf3 (by decide) rfl
theorem LB:cQ prog 161 0 0:=cH underlying161 rfl sizeOf24 (by decide) rfl
theorem JM:dv prog 24 (kSl (ai .u8)):=⟨sizeOf24,isAgg24⟩
theorem Fi:cQ prog 161 1 1:=cH underlying161 rfl sizeOf4 (by decide) rfl
def Ro:List Value:=[.int .u64 0]
theorem Nl:∀m,(ai .u64).R m Ro 0:=λ_=>⟨rfl,aw (by decide)⟩
def P7:List Value:=[.slice none 0 0,.bool false]
theorem J9:∀m,i6.R m P7 aj.zero:=λ_=>⟨⟨none,0,0,rfl,rfl,Zl _,(by decide),rfl⟩,rfl⟩
theorem D3:cQ prog 34 0 0:=cH underlying34 rfl sizeOf3 (by decide) rfl
theorem Nm:cQ prog 37 5 11:=cH underlying37 rfl sizeOf3 (by decide) rfl
theorem Nn:cQ prog 37 0 0:=cH underlying37 rfl sizeOf3 (by decide) rfl
theorem Ka (d:Nat)(w:World)(x y:Ap)(p0:∀n∈x.fText,0≤n∧n<256)(q0:∀n∈y.fText,0≤n∧n<256):(Op.equalIn (d+10) 32 (.agg #[.int .i64 x.fKind,.bool x.fBool,.int .i64 x.fInt,.string (bts x.fText)]) (.agg #[.int .i64 y.fKind,.bool y.fBool,.int .i64 y.fInt,.string (bts y.fText)])).run prog w= .ok (decide (x=y)) w:=by
 have e:x=y↔x.fKind=y.fKind∧x.fBool=y.fBool∧x.fInt=y.fInt∧x.fText=y.fText:=by cases x;cases y;simp
 rw[run_equalIn_struct w (d+9) 32 _ _ underlying32 stoodInHeld32];simp only[Program.fieldsOf,underlying32,Op.eqFields];simp[part,run_equalIn_int,run_equalIn_bool',run_equalIn_string,xv p0 q0]
 repeat' split
 all_goals simp_all
theorem No {m:M}{cs:List Value}{x:du}(h:fF.R m cs x):cs=[.int .i64 x.fKind,.int .i64 x.fMany,.int .i64 x.fMin.fKind,.bool x.fMin.fBool,.int .i64 x.fMin.fInt,.string (bts x.fMin.fText),.int .i64 x.fMax.fKind,.bool x.fMax.fBool,.int .i64 x.fMax.fInt,.string (bts x.fMax.fText),.int .i64 x.fNulls,.int .i64 x.fBytes]∧(∀n∈x.fMin.fText,0≤n∧n<256)∧(∀n∈x.fMax.fText,0≤n∧n<256):=by
 obtain⟨h0,h1,h2,h3,h4,h5⟩:=h;refine⟨?_,(Bf h2).2,(Bf h3).2⟩;rw[←Z4 1 cs,show(cs).take 1=_ from h0.1,←Z4 1 ((cs).drop 1),show((cs).drop 1).take 1=_ from h1.1,←Z4 4 (((cs).drop 1).drop 1),show(((cs).drop 1).drop 1).take 4=_ from(Bf h2).1,←Z4 4 ((((cs).drop 1).drop 1).drop 4),show((((cs).drop 1).drop 1).drop 4).take 4=_ from(Bf h3).1,←Z4 1 (((((cs).drop 1).drop 1).drop 4).drop 4),show(((((cs).drop 1).drop 1).drop 4).drop 4).take 1=_ from h4.1,show(((((cs).drop 1).drop 1).drop 4).drop 4).drop 1=_ from h5.1]
 rfl
theorem Rp:vT prog 37 fF:=by
 refine⟨λm cs ds x y d w hx hy=>?_,λop o o' cs ds w=>?_⟩
 ·obtain ⟨rfl,p0,p1⟩:=No hx
  obtain⟨rfl,q0,q1⟩:=No hy;have e:x=y↔x.fKind=y.fKind∧x.fMany=y.fMany∧x.fMin=y.fMin∧x.fMax=y.fMax∧x.fNulls=y.fNulls∧x.fBytes=y.fBytes:=by cases x;cases y;simp
  have e2:=λw=>Ka (d+9) w x.fMin y.fMin p0 q0;have e3:=λw=>Ka (d+9) w x.fMax y.fMax p1 q1;show(Op.equalIn (d+20) 37 (.agg #[_,_,_,_,_,_,_,_,_,_,_,_]) (.agg #[_,_,_,_,_,_,_,_,_,_,_,_])).run _ _=_;rw[run_equalIn_struct w (d+19) 37 _ _ underlying37 stoodInHeld37];simp only[Program.fieldsOf,underlying37,Op.eqFields];simp[part,run_equalIn_int,run_equalIn_bool',run_equalIn_string,e2,e3]
  repeat' split
  all_goals simp_all
 ·show (eqGuard op 37 o o' (.agg _) (.agg _)).run _ _=_
  cases op<;>simp[eqGuard]
theorem eC:dv prog 59 ab:=⟨sizeOf59,isAgg59⟩
def D4:List Value:=[.int .u64 0,.int .u32 0,.slice none 0 0,.int .u64 0]
theorem vo:∀m,ab.R m D4 aa.zero:=λ_=>⟨⟨⟨rfl,aw (by decide)⟩,⟨rfl,aw (by decide)⟩⟩,⟨⟨none,0,0,rfl,rfl,Zl _,(by decide),rfl⟩,⟨rfl,aw (by decide)⟩⟩⟩
theorem sA:cQ prog 59 1 2:=cH underlying59 rfl sizeOf22 (by decide) rfl
theorem JN:om prog 59 4 48:=⟨⟨t59,_,type59,rfl,rfl,rfl,rfl⟩⟩
theorem Ag:cQ prog 57 0 0:=cH underlying57 rfl sizeOf54 (by decide) rfl
theorem Ah:cQ prog 57 1 1:=cH underlying57 rfl sizeOf55 (by decide) rfl
theorem oy:dv prog 49 (kSl (ai .i64)):=⟨sizeOf49,isAgg49⟩
theorem qH:cQ prog 59 0 0:=cH underlying59 rfl sizeOf57 (by decide) rfl
theorem yX:dv prog 57 bA:=⟨sizeOf57,isAgg57⟩
theorem HZ:cQ prog 59 2 3:=cH underlying59 rfl sizeOf54 (by decide) rfl
theorem JO {m:M}{cs:List Value}{x:aM}(h:bA.R m cs x):cs=[.int .u64 x.fEpoch,.int .u32 x.fNumber]:=by
 obtain⟨h0,h1⟩:=h
 skip
 rw[←Z4 1 cs,show(cs).take 1=_ from h0.1,show(cs).drop 1=_ from h1.1]
 rfl
theorem Np:vT prog 57 bA:=by
 refine⟨λm cs ds x y d w hx hy=>?_,λop o o' cs ds w=>?_⟩
 ·obtain rfl:=JO hx
  obtain rfl:=JO hy;have e:x=y↔x.fEpoch=y.fEpoch∧x.fNumber=y.fNumber:=by cases x;cases y;simp
  show(Op.equalIn (d+20) 57 (.agg #[_,_]) (.agg #[_,_])).run _ _=_;rw[run_equalIn_struct w (d+19) 57 _ _ underlying57 stoodInHeld57];simp only[Program.fieldsOf,underlying57,Op.eqFields];simp[part,run_equalIn_int,run_equalIn_bool',run_equalIn_string]
  repeat' split
  all_goals simp_all
 ·show (eqGuard op 57 o o' (.agg _) (.agg _)).run _ _=_
  cases op<;>simp[eqGuard]
theorem P8:laidOutB prog=true:=by kernel_rfl
def D5 (x:aM):Value:= .agg #[.int .u64 x.fEpoch,.int .u32 x.fNumber]
theorem Nq {m:M}{v:Value}{x:aM}(h:RV bA m v x):v=D5 x:=by
 obtain⟨cs,h,rfl⟩:=h;obtain rfl:=JO h
 rfl
theorem Rq {m:M}{v:Value}{x:aM}(h:RV bA m v x):∃l,keyOf prog 57 v=some l:=by
 rw[Nq h];obtain⟨cs,h,rfl⟩:=h;obtain⟨h0,h1⟩:=h;exact GM (d:=250) underlying57 (by decide) underlying54 underlying55 rfl rfl (by kernel_rfl) (by kernel_rfl) (by kernel_rfl) (by kernel_rfl) (by kernel_rfl) (JU h0.2) (JU h1.2)
theorem Rr {x y:aM}(h:D5 x=D5 y):x=y:=by
 obtain⟨a0,a1⟩:=x;obtain⟨b0,b1⟩:=y;simp[D5] at h;simp[h]
def Gk:CR prog 57 bA:=⟨D5,Nq,Rr,deep_law_laid P8 (m:=2) (by omega) (of_decide_eq_true (by kernel_rfl)) (by kernel_rfl) (by rw[underlying57]),Rq⟩
def tn:List Value:=[.int .i64 0,.slice none 0 0,.slice none 0 0]
theorem Cs:∀m,aW.R m tn ax.zero:=λ_=>⟨⟨rfl,aw (by decide)⟩,⟨⟨none,0,0,rfl,rfl,Zl _,(by decide),rfl⟩,⟨none,0,0,rfl,rfl,Zl _,(by decide),rfl⟩⟩⟩
theorem P9:dv prog 178 kA4:=⟨sizeOf178,isAgg178⟩
theorem Qa:vT prog 178 kA4:=Rc underlying178 type5 (by kernel_rfl) underlying5 isAgg5 (by kernel_rfl)
theorem oL:cQ prog 120 0 0:=cH underlying120 rfl sizeOf3 (by decide) rfl
theorem mT:cQ prog 120 1 1:=cH underlying120 rfl sizeOf49 (by decide) rfl
theorem el3:om prog 3 1 8:=⟨⟨t3,_,type3,rfl,rfl,rfl,rfl⟩⟩
theorem lN:cQ prog 120 2 2:=cH underlying120 rfl sizeOf50 (by decide) rfl
theorem sB:dv prog 50 (kSl ab):=⟨sizeOf50,isAgg50⟩
def Ru:List Value:=[.int .u64 0,.int .u32 0]
theorem D6:∀m,bA.R m Ru aM.zero:=λ_=>⟨⟨rfl,aw (by decide)⟩,⟨rfl,aw (by decide)⟩⟩
theorem H0:cQ prog 62 3 3:=cH underlying62 rfl sizeOf50 (by decide) rfl
theorem H1:cQ prog 62 0 0:=cH underlying62 rfl sizeOf3 (by decide) rfl
theorem D7:cQ prog 62 1 1:=cH underlying62 rfl sizeOf49 (by decide) rfl
theorem H2:cQ prog 62 2 2:=cH underlying62 rfl sizeOf49 (by decide) rfl
theorem Rw:dv prog 65 (kPt aW):=⟨sizeOf65,isAgg65⟩
open Go.Proofs Go.Shelf Go.Lib
open Go.Sort (putRowK flatK HoldsK SWO PermIn SortedIn)

section
variable {P:Program}{W0:Bse}{m:M}{L:List (Nat×List Value)}{TL:List (Nat×Value)}{w:World}{α:Type}{k:Kd α}{b:Nat}{cs:List Value}{xs:List α}
theorem S.rebase (h:S W0 m w L TL):S ⟨w,fun _=>none⟩ m w [] []:=
 ⟨⟨Bel.refl _ _,λk o h=>by cases h⟩,h.imm,λi e he=>by simp at he,λi j e e' he=>by simp at he,λi e he=>by simp at he,λi j e e' he=>by simp at he⟩
theorem Nr (l:List (El k m xs)):Rl k m (l.flatMap λa=>a.1.1) (l.map λa=>a.1.2):=by
 induction l with
 |nil=>exact Rl.nil
 |cons a r ih=>exact Rl.app (Rl.single a.2.1) ih
theorem Gl {ρ:Ren} {v fv:Value} {cmp:α→α→Option Int} {r:List α} (Ly:SlLaysF0.n6 P ρ) (aE: ∀w,(isAgg (ρ.t 24)).run P w= .ok true w) (zE: ∀w,(Go.sizeOf (ρ.t 24)).run P w= .ok k.sz w) (hagg:k.agg=true)
  (hS:S W0 m w ((b,cs)::L) TL) (hg:GS k m b cs v xs) (hf:Fn2 P k k (ai .i64) m fv cmp) (h:xz cmp xs=some r):
  Calls P (ρ.f 6) [v,fv].toArray w (Ret λ_ w'=>∃m',M.le m m'∧∃q0:List Value,S W0 m' w' ((b,q0)::L) TL∧GS k m' b q0 v r):=by
 obtain⟨g,cb,rfl,eg,hcall⟩:=hf;obtain⟨hgood,hperm,hpw⟩:=zd h;have hrl:r.length=xs.length:=hperm.length_eq
 by_cases hx:xs=[]
 ·subst hx
  have hr:r=[]:=Zg hrl;subst hr;obtain⟨a,cap,rfl,_⟩:=hg.val;refine(AnyF.slices_SortFunc_none Ly a cap (.func (.func g) #[] cb) w).mono ?_;rintro e w' ⟨rfl,rfl⟩;exact⟨m,M.le.refl m,cs,hS,hg⟩
 ·have hg':=hg
  obtain⟨h0,⟨rfl,_⟩|⟨cap,rfl,h2,h3,h4⟩⟩:=hg
  ·exact absurd rfl hx
  have hn:0<xs.length:=List.length_pos_iff.2 hx;have hp:=k.pos;have hle:xs.length*k.sz≤cap*k.sz:=Nat.mul_le_mul_right _ h2;have hpos:0<xs.length*k.sz:=Nat.mul_pos hn hp;have hne:cs≠[]:=λe=>by subst e;simp at h3;omega
  obtain⟨dl,hd1,hd2⟩:=Fp h4
  have hdl:dl.length=xs.length:=by
   have:=congrArg List.length hd1;simpa using this
  obtain⟨hB,hm,t,ht⟩:=hS.own 0 _ rfl hne;simp only at hB hm ht;have hi:Inhabited (El k m xs):=⟨dl[0]'(by omega)⟩
  have hblk:b<w.heap.size:=(Array.getElem?_eq_some_iff.1 ht).1
  -- the worlds of the sort
  have hworld:∀(mm:Nat) (os:Array Obj) (dk:Array (El k m xs)),dk.size=xs.length→sortWorldK (λa:El k m xs=>a.1.1) k.sz w b 0 mm dk os=Go.Sort.grow ((Go.Sort.ahead w mm).setRow b (((dk.toList.flatMap λa=>a.1.1)++cs.drop (xs.length*k.sz)).toArray)) os:=by
   intro mm os dk hdk;unfold sortWorldK;rw[GG _ _ (Go.Sort.ahead w mm) b cs t dk ht (by rw[hdk];omega),CK,hdk]
  have hSw:∀(mm:Nat) (os:Array Obj) (q:List Value),S W0 m (Go.Sort.grow ((Go.Sort.ahead w mm).setRow b q.toArray) os) ((b,q)::L) TL:=λmm os q=>((hS.aheadN mm).setL (i:=0) rfl hne q).more os;have hcf:∀x y:El k m xs,∃c,cmp x.1.2 y.1.2=some c∧inR .i64 c:=λx y=>hgood.1 _ x.2.2 _ y.2.2
  have hcmp:CmpLays P g cb (λa:El k m xs=>a.1.1) k.sz (λx y=>(cmp x.1.2 y.1.2).getD 0) b 0 dl.toArray.size w:=by
   intro mm os dk hdk x y;rw[hworld mm os dk (by rw[hdk];simpa using hdl)];generalize hw1:Go.Sort.grow ((Go.Sort.ahead w mm).setRow b _) os=w1;have hS1:=(hSw mm os ((dk.toList.flatMap λa=>a.1.1)++cs.drop (xs.length*k.sz))).rebase;rw[hw1] at hS1;obtain⟨c,hc,_⟩:=hcf x y;have hv:∀z:El k m xs,Value.agg z.1.1.toArray=k.val z.1.1:=λz=>by simp[Kd.val,hagg]
   rw[hv x,hv y];refine(hcall ⟨w1,λ_=>none⟩ m w1 [] [] _ _ x.1.2 y.1.2 c (M.le.refl m) hS1 ⟨_,x.2.1,rfl⟩ ⟨_,y.2.1,rfl⟩ hc).mono ?_;intro e w' he;cases e with
   |returned u=>
    obtain⟨m',_,hS2,hu⟩:=he;obtain⟨rfl,_⟩:=aI hu;exact⟨by simp[hc],CJ hS2.below.toBel⟩
   |panicked ch=>exact he.elim
   |outgrown=>exact he.elim
  have hO:SWO (ltOf λx y:El k m xs=>(cmp x.1.2 y.1.2).getD 0):=by
   refine⟨λx=>?_,λx y z h1 h2=>?_,λx y z h1 h2=>?_⟩
   ·simp only[ltOf,decide_eq_false_iff_not];exact hgood.2.1 _ x.2.2
   ·simp only[ltOf,decide_eq_true_eq] at*;exact hgood.2.2.1 _ x.2.2 _ y.2.2 _ z.2.2 h1 h2
   ·simp only[ltOf,decide_eq_false_iff_not] at*;exact hgood.2.2.2.1 _ x.2.2 _ y.2.2 _ z.2.2 h1 h2
  have hH:HoldsK (λa:El k m xs=>a.1.1) k.sz w b 0 dl.toArray:=by
   intro j hj;have hj':j<xs.length*k.sz:=by simpa[hdl] using hj
   have hfl:=CK dl.toArray
   have e1:(flatK (λa:El k m xs=>a.1.1) k.sz dl.toArray)[j]! =cs[j]'(by omega):=by
    rw[getElem!_pos _ j (by simpa[hdl] using hj')]
    have:(flatK (λa:El k m xs=>a.1.1) k.sz dl.toArray).toList[j]? =cs[j]? :=by
     rw[hfl];show(dl.flatMap _)[j]? =_;rw[hd2,List.getElem?_take,if_pos hj']
    rw[Z0 (by simpa[hdl] using hj'),Z0 (by omega)] at this;injection this with this
   refine⟨?_,?_⟩
   ·rw [e1]
    simp[World.cell?,ht,show j<cs.length by omega]
   ·simp[World.frozen?,ht]
  have hcon:=AnyQ.slices_SortFunc Ly k.sz aE zE (λa:El k m xs=>a.1.1) (λx=>k.len x.2.1) (λx v hv=>k.one x.2.1 v hv) (λx y=>(cmp x.1.2 y.1.2).getD 0) hO g cb b 0 cap dl.toArray w eg hcmp hH hblk (by have:xs.length≤281474976710656:=h0;simp[hdl];omega);have hds:dl.toArray.size=xs.length:=by simpa using hdl
  rw[hds] at hcon;refine hcon.mono ?_;rintro e w' ⟨rfl,d',n,os,hpi,hso,rfl⟩;have hd's:d'.size=xs.length:=by rw[hpi.1,hds]
  rw[hworld n os d' hd's];refine⟨m,M.le.refl m,_,hSw n os _,?_⟩;have hR:=Nr d'.toList
  have hmap:(d'.toList.map λa=>a.1.2)=r:=by
   have hp1:(d'.toList.map λa=>a.1.2).Perm xs:=by
    have:=hpi.2.2;rw[←hd's,Array.extract_size] at this;rw[hd's,←hds,Array.extract_size] at this;have h9:=this.map (λa:El k m xs=>a.1.2);rw[List.toList_toArray,hd1] at h9;exact h9
   have hpw1:(d'.toList.map λa=>a.1.2).Pairwise (λx y=> ¬ (cmp y x).getD 0<0):=by
    rw[List.pairwise_map,Zn];intro i j hi' hj' hij;have:=hso i j (Nat.zero_le _) hij (by simpa[hd's] using hj');rw[getElem!_pos d' i (by simpa using hi'),getElem!_pos d' j (by simpa using hj')] at this;simpa[ltOf] using this
   refine List.Perm.eq_of_pairwise (le:=λx y=> ¬ (cmp y x).getD 0<0) ?_ hpw1 hpw (hp1.trans hperm.symm);intro x y hx' hy' h1 h2;exact hgood.2.2.2.2 x (hp1.mem_iff.1 hx') y (hperm.mem_iff.1 hy') h2 h1
  have hfl:(d'.toList.flatMap λa=>a.1.1).length=xs.length*k.sz:=by
   have:=hR.1;simpa[hd's] using this
  refine⟨by rw[hrl];exact h0,.inr ⟨cap,by rw[hrl],by rw[hrl];exact h2,by simp[hfl];omega,?_⟩⟩;rw[hrl,List.take_append_of_le_length (by omega),Z2 (by omega),←hmap];exact hR
end
open Go.Proofs Tryz
def yg:Go.Shelf.Ren:=⟨fun|6=>148|15=>152|14=>178|28=>179|29=>154|20=>186|21=>187|22=>188|23=>189|24=>190|25=>191|26=>192|27=>193|46=>199|47=>200|48=>201|49=>202|50=>203|57=>204|n=>n,fun|22=>22|24=>32|25=>134|3=>3|39=>94|0=>0|53=>55|55=>54|4=>4|46=>219|45=>218|50=>78|5=>5|9=>9|66=>228|70=>231|76=>233|77=>234|n=>n,λn=>n⟩
theorem LC:SlLaysF0.n6 prog yg:={
 mixed:=by kernel_rfl
 f6:=⟨f148.name,by decide,func148.trans (congrArg some (by kernel_rfl))⟩
 f14:=⟨f178.name,by decide,func178.trans (congrArg some (by kernel_rfl))⟩
 f15:=func152.trans (congrArg some (by kernel_rfl))
 f20:=⟨f186.name,by decide,func186.trans (congrArg some (by kernel_rfl))⟩
 f21:=⟨f187.name,by decide,func187.trans (congrArg some (by kernel_rfl))⟩
 f22:=⟨f188.name,by decide,func188.trans (congrArg some (by kernel_rfl))⟩
 f23:=⟨f189.name,by decide,func189.trans (congrArg some (by kernel_rfl))⟩
 f24:=⟨f190.name,by decide,func190.trans (congrArg some (by kernel_rfl))⟩
 f25:=⟨f191.name,by decide,func191.trans (congrArg some (by kernel_rfl))⟩
 f26:=⟨f192.name,by decide,func192.trans (congrArg some (by kernel_rfl))⟩
 f27:=⟨f193.name,by decide,func193.trans (congrArg some (by kernel_rfl))⟩
 f28:=func179.trans (congrArg some (by kernel_rfl))
 f29:=func154.trans (congrArg some (by kernel_rfl))
 f46:=⟨f199.name,by decide,func199.trans (congrArg some (by kernel_rfl))⟩
 f47:=func200.trans (congrArg some (by kernel_rfl))
 f48:=func201.trans (congrArg some (by kernel_rfl))
 f49:=⟨f202.name,by decide,func202.trans (congrArg some (by kernel_rfl))⟩
 f50:=⟨f203.name,by decide,func203.trans (congrArg some (by kernel_rfl))⟩
 f57:=⟨f204.name,by decide,func204.trans (congrArg some (by kernel_rfl))⟩
 t0:=underlying0
 a0:=isAgg0
 z0:=sizeOf0
 v0:=zeroValue0
 t3:=underlying3
 a3:=isAgg3
 z3:=sizeOf3
 v3:=zeroValue3
 t4:=underlying4
 a4:=isAgg4
 z4:=sizeOf4
 v4:=zeroValue4
 t5:=underlying5
 a5:=isAgg5
 z5:=sizeOf5
 v5:=zeroValue5
 t9:=underlying9
 a9:=isAgg9
 z9:=sizeOf9
 v9:=zeroValue9
 t22:=underlying22
 a22:=isAgg22
 z22:=sizeOf22
 v22:=zeroValue22
 t25:=underlying134
 a25:=isAgg134
 z25:=sizeOf134
 v25:=zeroValue134
 t39:=underlying94
 a39:=isAgg94
 z39:=sizeOf94
 v39:=zeroValue94
 t45:=underlying218
 a45:=isAgg218
 z45:=sizeOf218
 v45:=zeroValue218
 t46:=underlying219
 a46:=isAgg219
 z46:=sizeOf219
 v46:=zeroValue219
 t50:=underlying78
 a50:=isAgg78
 z50:=sizeOf78
 v50:=zeroValue78
 t53:=underlying55
 a53:=isAgg55
 z53:=sizeOf55
 v53:=zeroValue55
 t55:=underlying54
 a55:=isAgg54
 z55:=sizeOf54
 v55:=zeroValue54
 t66:=underlying228
 a66:=isAgg228
 z66:=sizeOf228
 v66:=zeroValue228
 t70:=underlying231
 a70:=isAgg231
 z70:=sizeOf231
 v70:=zeroValue231
 t76:=underlying233
 a76:=isAgg233
 z76:=sizeOf233
 v76:=zeroValue233
 t77:=underlying234
 a77:=isAgg234
 z77:=sizeOf234
 v77:=zeroValue234
}
set_option maxRecDepth 100000
open Go.Proofs Tryz
theorem Qb:dv prog 161 i6:=⟨sizeOf161,isAgg161⟩
theorem Rx:dv prog 62 bT:=⟨sizeOf62,isAgg62⟩
def Ry:List Value:=[.int .i64 0,.slice none 0 0,.slice none 0 0,.slice none 0 0]
theorem Ns:∀m,bT.R m Ry bZ.zero:=λ_=>⟨⟨rfl,aw (by decide)⟩,⟨⟨none,0,0,rfl,rfl,Zl _,(by decide),rfl⟩,⟨⟨none,0,0,rfl,rfl,Zl _,(by decide),rfl⟩,⟨none,0,0,rfl,rfl,Zl _,(by decide),rfl⟩⟩⟩⟩
theorem Qc:dv prog 120 aW:=⟨sizeOf120,isAgg120⟩
theorem Rz:om prog 22 1 24:=⟨⟨t22,_,type22,rfl,rfl,rfl,rfl⟩⟩
def Sz:Sg:=Rg [(32,⟨Ap,kAp⟩),(57,⟨aM,bA⟩),(59,⟨aa,ab⟩),(187,⟨aT,cy⟩),(34,⟨bO,cW⟩),(155,⟨fG,rF⟩),(37,⟨du,fF⟩),(120,⟨ax,aW⟩),(161,⟨aj,i6⟩),(62,⟨bZ,bT⟩)]
def ti2:TI prog Sz 2:=oS underlying2 sizeOf2 isAgg2 zeroValue2 rfl (by decide)
def ti3:TI prog Sz 3:=oS underlying3 sizeOf3 isAgg3 zeroValue3 rfl (by decide)
def ti4:TI prog Sz 4:=Mh underlying4 sizeOf4 isAgg4 zeroValue4 rfl
def ti5:TI prog Sz 5:=oS underlying5 sizeOf5 isAgg5 zeroValue5 rfl (by decide)
def ti6:TI prog Sz 6:=oS underlying6 sizeOf6 isAgg6 zeroValue6 rfl (by decide)
def ti9:TI prog Sz 9:=FN underlying9 sizeOf9 isAgg9 zeroValue9 rfl
def RA:TI prog Sz 10:=FN underlying10 sizeOf10 isAgg10 zeroValue10 rfl
def RB:TI prog Sz 11:=FN underlying11 sizeOf11 isAgg11 zeroValue11 rfl
def RC:TI prog Sz 12:=oS underlying12 sizeOf12 isAgg12 zeroValue12 rfl (by decide)
def RD:TI prog Sz 21:=oS underlying21 sizeOf21 isAgg21 zeroValue21 rfl (by decide)
def RE:TI prog Sz 25:=oS underlying25 sizeOf25 isAgg25 zeroValue25 rfl (by decide)
def Nt:TI prog Sz 54:=oS underlying54 sizeOf54 isAgg54 zeroValue54 rfl (by decide)
def Nu:TI prog Sz 55:=oS underlying55 sizeOf55 isAgg55 zeroValue55 rfl (by decide)
def RF:TI prog Sz 94:=oS underlying94 sizeOf94 isAgg94 zeroValue94 rfl (by decide)
def Qd:TI prog Sz 218:=oS underlying218 sizeOf218 isAgg218 zeroValue218 rfl (by decide)
def RG:TI prog Sz 24:=uO _ (slI ti5 _ 1 underlying24 sizeOf5 el5 type5 rfl rfl rfl) sizeOf24 isAgg24 zeroValue24 rfl
def Nv:TI prog Sz 32:=tB fh zeroValue32 Ap.zero pY
def RH:TI prog Sz 49:=uO _ (slI ti3 _ 8 underlying49 sizeOf3 el3 type3 rfl rfl rfl) sizeOf49 isAgg49 zeroValue49 rfl
def RI:TI prog Sz 57:=tB yX zeroValue57 aM.zero D6
def Qe:TI prog Sz 143:=uO _ (slI ti2 _ 8 underlying143 sizeOf2 el2 type2 rfl rfl rfl) sizeOf143 isAgg143 zeroValue143 rfl
def Qf:TI prog Sz 189:=uO _ (slI Nt _ 8 underlying189 sizeOf54 Nf type54 rfl rfl rfl) sizeOf189 isAgg189 zeroValue189 rfl
def Nw:TI prog Sz 22:=uO _ (slI Nv _ 40 underlying22 sizeOf32 DZ type32 rfl rfl rfl) sizeOf22 isAgg22 zeroValue22 rfl
def RJ:TI prog Sz 34:=tB yW zeroValue34 bO.zero yV
def RK:TI prog Sz 37:=tB Rn zeroValue37 du.zero Ng
def Kb:TI prog Sz 155:=tB P4 zeroValue155 fG.zero J8
def Qg:TI prog Sz 161:=tB Qb zeroValue161 aj.zero J9
def Kc:TI prog Sz 187:=tB P3 zeroValue187 aT.zero Gi
def Nx:TI prog Sz 59:=tB eC zeroValue59 aa.zero vo
def Qh:TI prog Sz 126:=uO _ (slI Nw _ 24 underlying126 sizeOf22 Rz type22 rfl rfl rfl) sizeOf126 isAgg126 zeroValue126 rfl
def Qi:TI prog Sz 152:=uO _ (slI Kb _ 48 underlying152 sizeOf155 P6 type155 rfl rfl rfl) sizeOf152 isAgg152 zeroValue152 rfl
def Qj:TI prog Sz 185:=uO _ (slI Kc _ 48 underlying185 sizeOf187 J7 type187 rfl rfl rfl) sizeOf185 isAgg185 zeroValue185 rfl
def RL:TI prog Sz 50:=uO _ (slI Nx _ 48 underlying50 sizeOf59 JN type59 rfl rfl rfl) sizeOf50 isAgg50 zeroValue50 rfl
def RM:TI prog Sz 62:=tB Rx zeroValue62 bZ.zero Ns
def Qk:TI prog Sz 120:=tB Qc zeroValue120 ax.zero Cs
def Ql:AI prog Sz 177:=arI Nu 16 underlying177 sizeOf55 zeroValue177 rfl rfl
def Qm:AI prog Sz 178:=arI ti5 4 underlying178 sizeOf5 zeroValue178 rfl rfl
def Qn:AI prog Sz 224:=arI ti5 8 underlying224 sizeOf5 zeroValue224 rfl rfl
def Ny:FI prog Sz 32 0:=⟨(.int .i64),⟨0,λx=>x.fKind,λx y=>{ x with fKind:=y },MB,DX⟩,D0⟩
def Nz:FI prog Sz 32 1:=⟨.bool,⟨1,λx=>x.fBool,λx y=>{ x with fBool:=y },MC,MD⟩,Nc⟩
def NA:FI prog Sz 32 2:=⟨(.int .i64),⟨2,λx=>x.fInt,λx y=>{ x with fInt:=y },ME,DY⟩,uv⟩
def NB:FI prog Sz 32 3:=⟨.str,⟨3,λx=>x.fText,λx y=>{ x with fText:=y },MG,MH⟩,Nd⟩
def RN:BI prog Sz 32:=⟨_,[(0,1),(1,1),(2,1),(3,1)],Ap.zero,_,underlying32,rfl,zeroValue32,pY,rfl⟩
def NC:FI prog Sz 57 0:=⟨(.int .u64),⟨0,λx=>x.fEpoch,λx y=>{ x with fEpoch:=y },M1,w8⟩,Ag⟩
def ND:FI prog Sz 57 1:=⟨(.int .u32),⟨1,λx=>x.fNumber,λx y=>{ x with fNumber:=y },M2,HV⟩,Ah⟩
def RO:BI prog Sz 57:=⟨_,[(0,1),(1,1)],aM.zero,_,underlying57,rfl,zeroValue57,D6,rfl⟩
def NE:FI prog Sz 59 0:=⟨(.st 57),⟨0,λx=>x.fId,λx y=>{ x with fId:=y },Ad,w9⟩,qH⟩
def NF:FI prog Sz 59 1:=⟨(.sl (.st 32)),⟨2,λx=>x.fRow,λx y=>{ x with fRow:=y },HW,Ae⟩,sA⟩
def NG:FI prog Sz 59 2:=⟨(.int .u64),⟨3,λx=>x.fDeleted,λx y=>{ x with fDeleted:=y },M3,HX⟩,HZ⟩
def RQ:BI prog Sz 59:=⟨_,[(0,2),(2,1),(3,1)],aa.zero,_,underlying59,rfl,zeroValue59,vo,rfl⟩
def LD:FI prog Sz 187 0:=⟨(.int .i64),⟨0,λx=>x.fMany,λx y=>{ x with fMany:=y },Li,Be⟩,Bh⟩
def LE:FI prog Sz 187 1:=⟨(.st 32),⟨1,λx=>x.fValue,λx y=>{ x with fValue:=y },Lj,Fc⟩,Fh⟩
def Qo:BI prog Sz 187:=⟨_,[(0,1),(1,4)],aT.zero,_,underlying187,rfl,zeroValue187,Gi,rfl⟩
def NH:FI prog Sz 34 0:=⟨(.int .i64),⟨0,λx=>x.fKind,λx y=>{ x with fKind:=y },MI,HQ⟩,D3⟩
def NI:FI prog Sz 34 1:=⟨(.int .i64),⟨1,λx=>x.fMany,λx y=>{ x with fMany:=y },MJ,HR⟩,HY⟩
def NJ:FI prog Sz 34 2:=⟨(.st 32),⟨2,λx=>x.fMin,λx y=>{ x with fMin:=y },MK,HS⟩,D1⟩
def NK:FI prog Sz 34 3:=⟨(.st 32),⟨6,λx=>x.fMax,λx y=>{ x with fMax:=y },ML,HT⟩,D2⟩
def NL:FI prog Sz 34 4:=⟨(.int .i64),⟨10,λx=>x.fNulls,λx y=>{ x with fNulls:=y },MM,HU⟩,xb⟩
def NM:FI prog Sz 34 5:=⟨(.int .i64),⟨11,λx=>x.fBytes,λx y=>{ x with fBytes:=y },MN,MO⟩,Af⟩
def RR:BI prog Sz 34:=⟨_,[(0,1),(1,1),(2,4),(6,4),(10,1),(11,1)],bO.zero,_,underlying34,rfl,zeroValue34,yV,rfl⟩
def LG:FI prog Sz 155 0:=⟨(.int .i64),⟨0,λx=>x.fMany,λx y=>{ x with fMany:=y },Lk,Ll⟩,Lz⟩
def LH:FI prog Sz 155 1:=⟨(.st 32),⟨1,λx=>x.fValue,λx y=>{ x with fValue:=y },Lm,Ln⟩,LA⟩
def Qp:BI prog Sz 155:=⟨_,[(0,1),(1,4)],fG.zero,_,underlying155,rfl,zeroValue155,J8,rfl⟩
def NN:FI prog Sz 37 0:=⟨(.int .i64),⟨0,λx=>x.fKind,λx y=>{ x with fKind:=y },MP,MQ⟩,Nn⟩
def NO:FI prog Sz 37 1:=⟨(.int .i64),⟨1,λx=>x.fMany,λx y=>{ x with fMany:=y },MR,MS⟩,Nk⟩
def NQ:FI prog Sz 37 2:=⟨(.st 32),⟨2,λx=>x.fMin,λx y=>{ x with fMin:=y },MT,MU⟩,Nh⟩
def NR:FI prog Sz 37 3:=⟨(.st 32),⟨6,λx=>x.fMax,λx y=>{ x with fMax:=y },MV,MW⟩,Ni⟩
def NS:FI prog Sz 37 4:=⟨(.int .i64),⟨10,λx=>x.fNulls,λx y=>{ x with fNulls:=y },MX,MY⟩,Nj⟩
def NT:FI prog Sz 37 5:=⟨(.int .i64),⟨11,λx=>x.fBytes,λx y=>{ x with fBytes:=y },MZ,M0⟩,Nm⟩
def RS:BI prog Sz 37:=⟨_,[(0,1),(1,1),(2,4),(6,4),(10,1),(11,1)],du.zero,_,underlying37,rfl,zeroValue37,Ng,rfl⟩
def LI:FI prog Sz 120 0:=⟨(.int .i64),⟨0,λx=>x.fColumns,λx y=>{ x with fColumns:=y },Fe,Ff⟩,oL⟩
def LJ:FI prog Sz 120 1:=⟨(.sl (.int .i64)),⟨1,λx=>x.fSort,λx y=>{ x with fSort:=y },uu,Fg⟩,mT⟩
def LK:FI prog Sz 120 2:=⟨(.sl (.st 59)),⟨2,λx=>x.fL,λx y=>{ x with fL:=y },oK,Lx⟩,lN⟩
def Qq:BI prog Sz 120:=⟨_,[(0,1),(1,1),(2,1)],ax.zero,_,underlying120,rfl,zeroValue120,Cs,rfl⟩
def LL:FI prog Sz 161 0:=⟨(.sl (.int .u8)),⟨0,λx=>x.fB,λx y=>{ x with fB:=y },Lo,Lu⟩,LB⟩
def LM:FI prog Sz 161 1:=⟨.bool,⟨1,λx=>x.fOk,λx y=>{ x with fOk:=y },Lw,Fd⟩,Fi⟩
def Qr:BI prog Sz 161:=⟨_,[(0,1),(1,1)],aj.zero,_,underlying161,rfl,zeroValue161,J9,rfl⟩
def NU:FI prog Sz 62 0:=⟨(.int .i64),⟨0,λx=>x.fColumns,λx y=>{ x with fColumns:=y },M4,M5⟩,H1⟩
def NV:FI prog Sz 62 1:=⟨(.sl (.int .i64)),⟨1,λx=>x.fSort,λx y=>{ x with fSort:=y },M6,M7⟩,D7⟩
def NW:FI prog Sz 62 2:=⟨(.sl (.int .i64)),⟨2,λx=>x.fKinds,λx y=>{ x with fKinds:=y },M8,M9⟩,H2⟩
def NX:FI prog Sz 62 3:=⟨(.sl (.st 59)),⟨3,λx=>x.fL,λx y=>{ x with fL:=y },Na,Nb⟩,H0⟩
def RT:BI prog Sz 62:=⟨_,[(0,1),(1,1),(2,1),(3,1)],bZ.zero,_,underlying62,rfl,zeroValue62,Ns,rfl⟩
def NY:EI prog Sz 32:=⟨inferInstanceAs (DecidableEq Ap),Bg,rfl⟩
def NZ:EI prog Sz 57:=⟨inferInstanceAs (DecidableEq aM),Np,rfl⟩
def N0:EI prog Sz 37:=⟨inferInstanceAs (DecidableEq du),Rp,rfl⟩
def Γ:Tab prog Sz:=⟨zu [⟨2,ti2⟩,⟨3,ti3⟩,⟨4,ti4⟩,⟨5,ti5⟩,⟨6,ti6⟩,⟨9,ti9⟩,⟨10,RA⟩,⟨11,RB⟩,⟨12,RC⟩,⟨21,RD⟩,⟨22,Nw⟩,⟨24,RG⟩,⟨25,RE⟩,⟨32,Nv⟩,⟨34,RJ⟩,⟨37,RK⟩,⟨49,RH⟩,⟨50,RL⟩,⟨54,Nt⟩,⟨55,Nu⟩,⟨57,RI⟩,⟨59,Nx⟩,⟨62,RM⟩,⟨94,RF⟩,⟨120,Qk⟩,⟨126,Qh⟩,⟨143,Qe⟩,⟨152,Qi⟩,⟨155,Kb⟩,⟨161,Qg⟩,⟨185,Qj⟩,⟨187,Kc⟩,⟨189,Qf⟩,⟨218,Qd⟩],zu [⟨177,Ql⟩,⟨178,Qm⟩,⟨224,Qn⟩],Df [⟨32,0,Ny⟩,⟨32,1,Nz⟩,⟨32,2,NA⟩,⟨32,3,NB⟩,⟨57,0,NC⟩,⟨57,1,ND⟩,⟨59,0,NE⟩,⟨59,1,NF⟩,⟨59,2,NG⟩,⟨187,0,LD⟩,⟨187,1,LE⟩,⟨34,0,NH⟩,⟨34,1,NI⟩,⟨34,2,NJ⟩,⟨34,3,NK⟩,⟨34,4,NL⟩,⟨34,5,NM⟩,⟨155,0,LG⟩,⟨155,1,LH⟩,⟨37,0,NN⟩,⟨37,1,NO⟩,⟨37,2,NQ⟩,⟨37,3,NR⟩,⟨37,4,NS⟩,⟨37,5,NT⟩,⟨120,0,LI⟩,⟨120,1,LJ⟩,⟨120,2,LK⟩,⟨161,0,LL⟩,⟨161,1,LM⟩,⟨62,0,NU⟩,⟨62,1,NV⟩,⟨62,2,NW⟩,⟨62,3,NX⟩],zu [⟨32,NY⟩,⟨57,NZ⟩,⟨37,N0⟩],zu [⟨32,RN⟩,⟨57,RO⟩,⟨59,RQ⟩,⟨187,Qo⟩,⟨34,RR⟩,⟨155,Qp⟩,⟨37,RS⟩,⟨120,Qq⟩,⟨161,Qr⟩,⟨62,RT⟩]⟩
def mC {f:FuncId}{ps:List Pm}{rs:List Rm}{g:d6 Sz ps→Option (bI Sz (ia ps rs))}(ok:Ctr Sz prog f ps rs g)(hc:∀vs w,(callFunc f vs).run prog w= .ok (.enter f vs) w):CS prog Sz:=⟨f,ps,rs,g,ok,hc⟩
theorem ncR {f:FuncId} {fn:Func} {n:Nat} {ps:List Pm} {rs:List Rm} {g:d6 Sz ps→Option (bI Sz (ia ps rs))} (D:List (CS prog Sz)) (res:List Nat) (hf:prog.funcs[f]? =some fn) (hn:fn.ntmps=n) (A:An Sz (bI Sz (ia ps rs))) (h: ∀x,exF n Γ D (fn.body.getD .skip) ps rs res A x=g x)
  (hA:A.nc=true:=by exact rfl) (hb:fn.body=some (fn.body.getD .skip):=by exact rfl) (hle:Nat.ble ps.length n=true:=by exact rfl) (hres:fn.results.toList=res.map ResultVar.tmp:=by exact rfl):Ctr Sz prog f ps rs g:=Ctr.nc A hA mixed hf hb hn hle hres h
theorem nxR {f:FuncId} {fn:Func} {n:Nat} {ps:List Pm} {rs:List Rm} {g:d6 Sz ps→Option (bI Sz (ia ps rs))} (D:List (CS prog Sz)) (res:List ResultVar) (hf:prog.funcs[f]? =some fn) (hn:fn.ntmps=n) (A:An Sz (bI Sz (ia ps rs))) (h: ∀x,exX n Γ D (fn.body.getD .skip) ps rs res A x=g x)
  (hA:A.nc=true:=by exact rfl) (hb:fn.body=some (fn.body.getD .skip):=by exact rfl) (hle:Nat.ble ps.length n=true:=by exact rfl) (hres:fn.results.toList=res:=by exact rfl):Ctr Sz prog f ps rs g:=Ctr.nX A hA mixed hf hb hn hle hres h
end
end Go.Proofs.YthbonoagbeilkaaGreat.Hay
