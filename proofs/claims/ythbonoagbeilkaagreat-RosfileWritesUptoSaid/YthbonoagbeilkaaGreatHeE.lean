import Derived.Test.YthbonoagbeilkaaGreatHcW
import Derived.Test.YthbonoagbeilkaaGreatExX
import Derived.Test.YthbonoagbeilkaaGreatProg
import Derived.Test.YthbonoagbeilkaaGreatHbM
import Derived.Shelf.SlSortCmp.NoneTotal
import Derived.Shelf.SlLaysF0
set_option linter.unusedVariables false
set_option linter.unusedSimpArgs false
namespace Go.Proofs.YthbonoagbeilkaaGreat.Hay
noncomputable section
open Option renaming bind_some→Z0,all_some→Zk,map_some→X8
open List renaming getElem?_eq_getElem→Z1,length_append→Z2,drop_eq_getElem_cons→Z3,take_of_length_le→Z4,take_append_drop→Z5,drop_of_length_le→Z6,append_assoc→Z7,range→Z8,getElem_mem→Z9,map_append→Za,take_length→Zd,getElem_of_mem→Zf,eq_nil_of_length_eq_zero→Zg,all_eq_true→Zj,flatten_append→Zm,mem_range→Zn,contains_eq_mem→Zr,cons_append→Zs,map_congr_left→Zt,nil_append→Zu,append_nil→Zv,drop_left'→Zw,pairwise_iff_getElem→Zy,getElem?_take_of_lt→Zz,length_eq_one_iff→X3,length_take→X5,length_drop→X6,drop_left→X7,mem_cons→X9,map_cons→Xa,mem_map→Xb
open Nat renaming le_refl→Zl,strongRecOn→X4
open Bool renaming eq_false_or_eq_true→Zc,not_eq_true'→Ze,and_eq_true→Zi,and_eq_false_iff→Zp,or_eq_false_iff→Zq,eq_iff_iff→Zx
open Int renaming emod_eq_of_lt→Zb,eq_ofNat_of_zero_le→Zh
open BitVec renaming ofInt→Xc
open IntKind renaming i64→Zo,u8→Xd
section
variable {lt:aa→aa→Bool} {p:aa→aa→Option Int}
theorem PL (h : Swo lt) (hp : Cmp lt p) {self_ : List aa → Int → Int → Int → (aa → aa → Option Int) → Option (List aa)} {N : Nat} (hself : FA lt p self_ N) :
    FA lt p (cW self_) (N+1):=by
  intro L A B R a m b xs hA0 hB0 ha hm hb hxs hN hn hA hB;have hlen:xs.length=L.length+A.length+B.length+R.length:=by rw [hxs];simp;omega
  simp only [cW]
  by_cases hA1:A.length=1
  · rw [ak (n := m - a) (by omega), if_pos (by simp; omega)]
    obtain ⟨x,rfl⟩:=X3.1 hA1;exact KF h hp hB0 ha (by simpa using hm) (by simpa using hb) hxs hn hB
  rw [ak (n:=m - a) (by omega),if_neg (by simp;omega)]
  by_cases hB1:B.length=1
  · rw [ak (n := b - m) (by omega), if_pos (by simp; omega)]
    obtain ⟨y,rfl⟩:=X3.1 hB1;exact I1 h hp hA0 ha hm hxs hn hA
  rw [ak (n:=b - m) (by omega),if_neg (by simp;omega)];have hM:Zo.wrap (aA .u64 (IntKind.u64.wrap (Zo.wrap (a+b))) 1)=(a+b)/2:=wy (by omega);have hNn:Zo.wrap ((a+b)/2+m)=(a+b)/2+m:=ak (by omega)
  -- numbers
  obtain ⟨aN,haN⟩: ∃n:Nat,n=L.length:=⟨_,rfl⟩
  obtain ⟨mN,hmN⟩: ∃n:Nat,n=L.length+A.length:=⟨_,rfl⟩
  obtain ⟨bN,hbN⟩: ∃n:Nat,n=L.length+A.length+B.length:=⟨_,rfl⟩
  have ha':a=(aN:Int):=by omega
  have hm':m=(mN:Int):=by omega
  have hb':b=(bN:Int):=by omega
  obtain ⟨mid,hmid⟩: ∃n:Nat,n=(aN+bN)/2:=⟨_,rfl⟩
  have hmid':(a+b)/2=(mid:Int):=by omega
  rw [hmid'] at hM hNn
  -- the search
  have key: ∀lo0 hi0:Nat,aN≤lo0→lo0≤hi0→hi0≤mN→hi0≤mid→(lo0=aN∨lo0+bN=mid+mN)→(hi0=mN∨hi0=mid)→mid+mN≤lo0+bN→
      ∃T,ct xs a m b p self_ (lo0:Int) (hi0:Int)=some (L++T++R)∧Stb lt (A++B) T:=by
    intro lo0 hi0 q1 q2 q3 q4 q5 q6 q7
    obtain ⟨s,h1,h2,h3,h4,h5⟩:=Ag (F:=fun s:(Int×Int)=>cp xs a m b p self_ s.1 s.2) (fun c=> !gx lt xs (mid+mN - 1 - c) c) lo0 hi0
      (fun s=>cm xs a m b p self_ (s:Int)) (fun lo hi g1 g2 g3=>by
        have hc:(lo+hi)/2<xs.length:=by omega
        have hd:mid+mN - 1 - (lo+hi)/2<xs.length:=by omega
        have ec:xs[(lo+hi)/2]? =some xs[(lo+hi)/2]:=Z1 hc;have ed:xs[mid+mN - 1 - (lo+hi)/2]? =some xs[mid+mN - 1 - (lo+hi)/2]:=Z1 hd;obtain ⟨c,hc1,hc2⟩:=hp xs[mid+mN - 1 - (lo+hi)/2] xs[(lo+hi)/2];simp only [cp];rw [if_pos (by simp;omega),hM,wy (by omega),hNn,ak (n:=(mid:Int)+m - 1) (by omega),ak (n:=(mid:Int)+m - 1 - ((lo:Int)+hi)/2) (by omega),t6 ed (by omega),t6 ec (by omega),hc1,Z0,hc2,zj ed ec,ak (by omega)]
        split<;>rfl)
      (fun s g1 g2=>by
        simp only [cp]
        rw [if_neg (by simp)]) q2
    unfold ct;rw [h5,PK (mid:=(mid:Int)) (e:=((mid+mN - s:Nat):Int)) hmid'.symm (by omega) (by omega) (by omega) (by omega) (by omega) (by omega) (by omega) (by omega) (by omega)];obtain ⟨k1,hk1⟩: ∃k,s=L.length+k:=⟨s - L.length,by omega⟩
    obtain ⟨k2,hk2⟩: ∃k,mid+mN - s=L.length+A.length+k:=⟨mid+mN - s - (L.length+A.length),by omega⟩
    have hkA:k1≤A.length:=by omega
    have hkB:k2≤B.length:=by omega
    obtain ⟨c1,c2⟩:=wz h hxs hA hB k1 k2 hkA hkB
      (by rcases h4 with h4 | h4
          · rcases q6 with q6 | q6
            · right;left;omega
            · left;omega
          · by_cases e1 : k2 = 0
            · left;exact e1
            by_cases e2:k1=A.length
            · right;left;exact e2
            right;right;refine ⟨by omega,by omega,?_⟩;rw [show L.length+A.length+(k2 - 1)=mid+mN - 1 - s by omega, ←hk1]
            simpa using h4)
      (by rcases h3 with h3 | h3
          · rcases q5 with q5 | q5
            · left;omega
            · right;left;omega
          · by_cases e1 : k1 = 0
            · left;exact e1
            by_cases e2:k2=B.length
            · right;left;exact e2
            right;right;refine ⟨by omega,by omega,?_⟩;rw [show L.length+A.length+k2=mid+mN - 1 - (s - 1) by omega,show L.length+(k1 - 1)=s - 1 by omega]
            simpa using h3)
    have eA:A.take k1++A.drop k1=A:=Z5 _ _;have eB:B.take k2++B.drop k2=B:=Z5 _ _;have lA1:(A.take k1).length=k1:=by simp;omega
    have lA2:(A.drop k1).length=A.length - k1:=by simp
    have lB1:(B.take k2).length=k2:=by simp;omega
    have lB2:(B.drop k2).length=B.length - k2:=by simp
    have hx4:xs=L++A.take k1++A.drop k1++B.take k2++(B.drop k2++R):=by
      rw [hxs]
      conv=>lhs;rw [←eA, ←eB]
      simp only [Z7]
    -- the turn
    have hrot:(if (s:Int)<m∧m<((mid+mN - s:Nat):Int) then cy xs s m ((mid+mN - s:Nat):Int) p else some xs)=some (L++A.take k1++B.take k2++(A.drop k1++B.drop k2++R)):=by
      split
      · rename_i hc
        rw [LZ (A:=L++A.take k1) (X:=A.drop k1) (Y:=B.take k2) (C:=B.drop k2++R) (by rw [lA2];omega) (by rw [lB1];omega) (by rw [Z2,lA1];omega) (by rw [lA2];omega) (by rw [lB1];omega)
          hx4 (by omega)]
        simp
      · rename_i hc
        rw [hx4]
        by_cases e1:k1=A.length
        · have : A.drop k1 = [] := Z6 (by omega)
          rw [this];simp only [Z7,Zu,Zv]
        · have e2 : k2 = 0 := by omega
          have:B.take k2=[]:=by rw [e2];rfl
          rw [this];simp only [Z7,Zu,Zv]
    rw [hrot,Z0]
    -- ahead
    have h1': ∃T1,(if a<(s:Int)∧(s:Int)<(mid:Int) then self_ (L++A.take k1++B.take k2++(A.drop k1++B.drop k2++R)) a s mid p else some (L++A.take k1++B.take k2++(A.drop k1++B.drop k2++R)))=some (L++T1++(A.drop k1++B.drop k2++R))∧Stb lt (A.take k1++B.take k2) T1:=by
      split
      · rename_i hc
        exact hself L (A.take k1) (B.take k2) _ a s mid _ (by omega) (by omega) ha (by rw [lA1];omega) (by rw [lA1,lB1];omega) rfl (by omega) (by simp only [Z2,lA1,lB1,lA2,lB2];omega) (hA.take _) (hB.take _)
      · rename_i hc
        refine ⟨A.take k1++B.take k2,by simp,Stb.refl ?_⟩
        by_cases e1:k1=0
        · rw [e1];simpa using hB.take k2
        · have e2 : k2 = 0 := by omega
          rw [e2];simpa using hA.take k1
    obtain ⟨T1,e1,s1⟩:=h1';rw [e1,Z0];have lT1:T1.length=k1+k2:=by rw [s1.len h,Z2,lA1,lB1]
    have h2': ∃T2,(if (mid:Int)<((mid+mN - s:Nat):Int)∧((mid+mN - s:Nat):Int)<b then self_ (L++T1++(A.drop k1++B.drop k2++R)) mid ((mid+mN - s:Nat):Int) b p else some (L++T1++(A.drop k1++B.drop k2++R)))=some (L++T1++T2++R)∧Stb lt (A.drop k1++B.drop k2) T2:=by
      split
      · rename_i hc
        exact hself (L++T1) (A.drop k1) (B.drop k2) R mid _ b _ (by omega) (by omega) (by rw [Z2,lT1];omega) (by rw [Z2,lT1,lA2];omega) (by rw [Z2,lT1,lA2,lB2];omega) (by simp) (by omega) (by simp only [Z2,lA2,lB2,lT1];omega) (hA.drop _) (hB.drop _)
      · rename_i hc
        refine ⟨A.drop k1++B.drop k2,by simp,Stb.refl ?_⟩
        by_cases e1:k1=A.length
        · rw [e1];simpa using hB.drop k2
        · have e2 : k2 = B.length := by omega
          rw [e2];simpa using hA.drop k1
    obtain ⟨T2,e2,s2⟩:=h2';rw [e2];refine ⟨T1++T2,by simp,?_⟩;have:=Stb.cat h s1 s2 (by rw [eA];exact hA) (by rw [eB];exact hB) c1 c2;rw [eA,eB] at this;exact this
  rw [hM]
  by_cases hmm:mid<mN
  · rw [if_pos (by simp; omega), hNn, ak (by omega)]
    have:=key (mid+mN - bN) mid (by omega) (by omega) (by omega) (by omega) (Or.inr (by omega)) (Or.inr rfl) (by omega);rw [show ((mid+mN - bN:Nat):Int)=(mid:Int)+m - b by omega] at this;exact this
  · rw [if_neg (by simp; omega)]
    have:=key aN mN (by omega) (by omega) (by omega) (by omega) (Or.inl rfl) (Or.inl rfl) (by omega);rw [←ha', ←hm'] at this;exact this
theorem PM (h:Swo lt) (hp:Cmp lt p): ∀n,FA lt p (cX n) n:=by
  intro n
  induction n with
  |zero=>intro L A B R a m b xs hA hB _ _ _ _ hN;omega
  |succ n ih=>exact PL h hp ih
theorem G6 (h:Swo lt) (hp:Cmp lt p) {L A B R xs:List aa} {a m b:Int} (hA0:0<A.length) (hB0:0<B.length) (ha:a=(L.length:Int)) (hm:m=(L.length:Int)+A.length) (hb:b=(L.length:Int)+A.length+B.length)
    (hxs:xs=L++A++B++R) (hn:xs.length<1152921504606846976) (hA:Srt lt A) (hB:Srt lt B):
    ∃T,dp xs a m b p=some (L++T++R)∧Stb lt (A++B) T:=by
  unfold dp;exact PM h hp _ L A B R a m b xs hA0 hB0 ha hm hb hxs (by rw [hxs];simp;omega) hn hA hB
end
set_option linter.unusedVariables false
set_option linter.unusedSimpArgs false
inductive Bls {α:Type} (lt:α→α→Bool) (k:Nat):List α→List α→Prop
 |last {l l':List α} (h:l.length≤k) (s:Stb lt l l'):Bls lt k l l'
 |more {l l' t t':List α} (h:l.length=k) (s:Stb lt l l') (ht:Bls lt k t t'):Bls lt k (l++t) (l'++t')
section
variable {α:Type} {lt:α→α→Bool}
theorem Stb.nil:Stb lt ([]:List α) []:=⟨List.Pairwise.nil,fun _=>rfl⟩
theorem Bls.len (h:Swo lt) {k:Nat} {l l':List α} (hb:Bls lt k l l'):l'.length=l.length:=by
 induction hb with
 |last _ s=>exact s.len h
 |more _ s _ ih=>rw [Z2,Z2,s.len h,ih]
theorem Bls.done (h:Swo lt) {k:Nat} (hk:0<k) {l l':List α} (hb:Bls lt k l l') (hl:l.length≤k):Stb lt l l':=by
 cases hb with
 |last _ s=>exact s
 | @more l l' t t' h1 s ht=>
  rw [Z2] at hl;have:t=[]:=Zg (by omega);subst this;have:t'=[]:=Zg (by rw [ht.len h];rfl);subst this;simpa using s
theorem Bls.split (h:Swo lt) {k:Nat} {l l':List α} (hb:Bls lt k l l') (hl:k≤l.length): ∃l1 l2 l1' l2',l=l1++l2∧l'=l1'++l2'∧l1.length=k∧Stb lt l1 l1'∧Bls lt k l2 l2':=by
 cases hb with
 |last h1 s=>exact ⟨l,[],l',[],by simp,by simp,by omega,s,.last (by simp) Stb.nil⟩
 | @more l l' t t' h1 s ht=>exact ⟨l,t,l',t',rfl,rfl,h1,s,ht⟩
end
section
variable {lt:aa→aa→Bool} {p:aa→aa→Option Int}
theorem PN (h:Swo lt) (hp:Cmp lt p) (n:Int) (hn:n<1152921504606846976): ∀(k:Nat) (X D:List aa) (a:Int) (xs:List aa),X.length=k→a=(D.length:Int)→n=(D.length:Int)+X.length→xs=D++X→
  ∃X',Bls lt 20 X X'∧aq (fun s:(Int×Int×List aa)=>bw n p s.1 s.2.1 s.2.2) (a,a+20,xs)=
   aq (fun s:(Int×List aa)=>a7 n p s.1 s.2) (20,D++X'):=by
 intro k
 induction k using X4 with
 | _ k ih =>
  intro X D a xs hk ha hN hxs
  by_cases hX:20≤X.length
  ·have e:X=X.take 20++X.drop 20:=(Z5 _ _).symm
   obtain ⟨T,h1,h2⟩:=G5 h hp D (X.take 20) (X.drop 20) (a:=a) (b:=a+20) (xs:=xs) ha (by simp;omega) (by omega) (by rw [hxs];simp);have hlT:=h2.len h;rw [X5] at hlT
   have hst:bw n p a (a+20) xs=some (.inl (a+20,a+20+20,(D++T)++X.drop 20)):=by
    simp only [bw];rw [if_pos (by simp;omega),h1,Z0,ak (by omega)]
   obtain ⟨X',h3,h4⟩:=ih (X.length - 20) (by omega) (X.drop 20) (D++T) (a+20) _ (by simp) (by rw [Z2];omega) (by rw [Z2,X6];omega) rfl;refine ⟨T++X',?_,?_⟩
   ·have:=Bls.more (by rw [X5];omega) h2 h3
    rw [←e] at this;exact this
   ·rw [bK hst,h4,Z7]
  ·obtain ⟨T,h1,h2⟩:=G5 h hp D X [] (a:=a) (b:=n) (xs:=xs) ha hN (by omega) (by rw [hxs];simp)
   refine ⟨T,.last (by omega) h2,?_⟩;rw [o4]
   have:bw n p a (a+20) xs=(aq (fun s:(Int×List aa)=>a7 n p s.1 s.2) (20,D++T)).map Sum.inr:=by
    simp only [bw,dX];rw [if_neg (by simp;omega),h1,Z0,Zv]
   simp only [this];cases aq (fun s:(Int×List aa)=>a7 n p s.1 s.2) (20,D++T)<;>rfl
theorem PO (h:Swo lt) (hp:Cmp lt p) (n:Int) (hn:n<288230376151711744) (bs:Nat) (h0:0<bs) (hbs:(bs:Int)<n): ∀(k:Nat) (X0 X D:List aa) (a b:Int) (xs:List aa),X.length=k→a=(D.length:Int)→b=a+2*bs→n=(D.length:Int)+X.length→xs=D++X→Bls lt bs X0 X→
  ∃X',Bls lt (2*bs) X0 X'∧aq (fun s:(Int×Int×List aa)=>bO n p bs s.1 s.2.1 s.2.2) (a,b,xs)=some (.inl (((2*bs:Nat):Int),D++X')):=by
 intro k
 induction k using X4 with
 | _ k ih =>
  intro X0 X D a b xs hk ha hb hN hxs hbl;have hl:=hbl.len h;have hxl:xs.length<1152921504606846976:=by rw [hxs,Z2];omega
  by_cases hX:2*bs≤X.length
  ·obtain ⟨l1,l2,l1',l2',e1,e1',hl1,s1,hb2⟩:=hbl.split h (by omega)
   have hl2:=hb2.len h;have q1:l1'.length=bs:=by rw [s1.len h,hl1]
   have q2:X.length=l1'.length+l2'.length:=by rw [e1',Z2]
   obtain ⟨l3,l4,l3',l4',e2,e2',hl3,s3,hb4⟩:=hb2.split h (by omega);have q3:l3'.length=bs:=by rw [s3.len h,hl3]
   have q4:l2'.length=l3'.length+l4'.length:=by rw [e2',Z2]
   obtain ⟨T,h1,h2⟩:=G6 h hp (L:=D) (A:=l1') (B:=l3') (R:=l4') (a:=a) (m:=a+bs) (b:=b) (xs:=xs) (by omega) (by omega) ha (by omega) (by omega) (by rw [hxs,e1',e2'];simp) hxl s1.srt s3.srt;have hlT:=h2.len h;rw [Z2] at hlT
   have hst:bO n p bs a b xs=some (.inl (b,b+2*bs,(D++T)++l4')):=by
    simp only [bO];rw [if_pos (by simp;omega),ak (n:=a+bs) (by omega),h1,Z0,ak (n:=2*(bs:Int)) (by omega),ak (by omega)]
   obtain ⟨X',h3,h4⟩:=ih l4'.length (by omega) l4 l4' (D++T) b (b+2*bs) _ rfl (by rw [Z2];omega) rfl (by rw [Z2];omega) rfl hb4;refine ⟨T++X',?_,?_⟩
   ·rw [e1,e2, ←Z7]
    exact Bls.more (by rw [Z2];omega) (h2.trans fun c=>by simp [s1.flt,s3.flt]) h3
   ·rw [bK hst,h4,Z7]
  ·by_cases hX2:bs<X.length
   ·obtain ⟨l1,l2,l1',l2',e1,e1',hl1,s1,hb2⟩:=hbl.split h (by omega)
    have hl2:=hb2.len h;have q1:l1'.length=bs:=by rw [s1.len h,hl1]
    have q2:X.length=l1'.length+l2'.length:=by rw [e1',Z2]
    have s2:=hb2.done h h0 (by omega);obtain ⟨T,h1,h2⟩:=G6 h hp (L:=D) (A:=l1') (B:=l2') (R:=[]) (a:=a) (m:=a+bs) (b:=n) (xs:=xs) (by omega) (by omega) ha (by omega) (by omega) (by rw [hxs,e1'];simp) hxl s1.srt s2.srt;refine ⟨T,.last (by omega) ?_,?_⟩
    ·rw [e1]
     exact h2.trans fun c=>by simp [s1.flt,s2.flt]
    ·apply aY
     simp only [bO,dc,cC];rw [if_neg (by simp;omega),ak (n:=a+bs) (by omega),if_pos (by simp;omega),h1,Z0,ak (by omega)];simp [Int.mul_comm]
   ·refine ⟨X,.last (by omega) (hbl.done h h0 (by omega)),?_⟩
    apply aY;simp only [bO,dc,cC];rw [if_neg (by simp;omega),ak (n:=a+bs) (by omega),if_neg (by simp;omega),ak (by omega),hxs];simp [Int.mul_comm]
theorem PP (h:Swo lt) (hp:Cmp lt p) (n:Int) (hn:n<288230376151711744) (X0:List aa) (hX0:n=(X0.length:Int)): ∀(k bs:Nat) (X:List aa),(X0.length - bs)=k→0<bs→Bls lt bs X0 X→
  ∃X',aq (fun s:(Int×List aa)=>a7 n p s.1 s.2) ((bs:Int),X)=some X'∧Stb lt X0 X':=by
 intro k
 induction k using X4 with
 | _ k ih =>
  intro bs X hk h0 hbl;have hl:=hbl.len h
  by_cases hb:(bs:Int)<n
  ·obtain ⟨X',h1,h2⟩:=PO h hp n hn bs h0 hb X.length X0 X [] 0 (2*bs) X rfl rfl (by simp) (by simp;omega) (by simp) hbl
   have hst:a7 n p bs X=some (.inl (((2*bs:Nat):Int),X')):=by
    simp only [a7];rw [if_pos (by simp;omega),ak (by omega),h2,Zu]
   obtain ⟨X2,h3,h4⟩:=ih (X0.length - 2*bs) (by omega) (2*bs) X' rfl (by omega) h1;exact ⟨X2,by rw [bK hst];exact h3,h4⟩
  ·refine ⟨X,?_,hbl.done h h0 (by omega)⟩
   apply aY;simp only [a7];rw [if_neg (by simp;omega)]
   rfl
theorem G7 (h:Swo lt) (hp:Cmp lt p) (X:List aa) (hn:X.length<288230376151711744): ∃X',dC X p=some X'∧Stb lt X X':=by
 obtain ⟨X1,h1,h2⟩:=PN h hp (X.length:Int) (by omega) X.length X [] 0 X rfl rfl (by simp) rfl;obtain ⟨X2,h3,h4⟩:=PP h hp (X.length:Int) (by omega) X rfl _ 20 X1 rfl (by omega) h1;refine ⟨X2,?_,h4⟩;unfold dC eJ;have h2:aq (fun s:(Int×Int×List aa)=>bw (X.length:Int) p s.1 s.2.1 s.2.2) (0,20,X)=_:=h2;rw [h2,Zu];have h3:aq (fun s:(Int×List aa)=>a7 (X.length:Int) p s.1 s.2) (20,X1)=_:=h3;rw [h3]
 rfl
end
set_option linter.unusedVariables false
set_option linter.unusedSimpArgs false
theorem gX {σ β:Type} {f:σ→Option (σ⊕β)} {s:σ} {b:Option β} (S:Nat→σ) (n:Nat) (h0:s=S 0) (step: ∀i,i<n→f (S i)=some (.inl (S (i+1)))) (fin:f (S n)=b.map Sum.inr):aq f s=b:=by
 have key: ∀i,i≤n→aq f s=aq f (S i):=by
  intro i
  induction i with
  |zero=>intro _;rw [h0]
  |succ i ih=>intro h;rw [ih (by omega),bK (step i (by omega))]
 rw [key n (Zl n),o4,fin];cases b<;>rfl
section
variable {α β:Type}
theorem Swo.comap {lt:α→α→Bool} (h:Swo lt) (f:β→α):Swo fun a b=>lt (f a) (f b):=
 ⟨fun a=>h.irr _,fun a b c=>h.tr _ _ _,fun a b c=>h.inc _ _ _⟩
def py (l1 l2:α→α→Bool) (a b:α):Bool:=l1 a b||(!l1 b a&&l2 a b)
theorem Swo.lex {l1 l2:α→α→Bool} (h1:Swo l1) (h2:Swo l2):Swo (py l1 l2):=by
 refine ⟨fun a=>by simp [py,h1.irr,h2.irr],fun a b c hab hbc=> ?_,fun a b c hab hbc=> ?_⟩
 ·simp only [py,Bool.or_eq_true,Zi,Ze] at*
  rcases hab with hab|⟨nba,hab⟩<;>rcases hbc with hbc|⟨ncb,hbc⟩
  ·exact Or.inl (h1.tr _ _ _ hab hbc)
  ·left
   cases hac:l1 a c with
   |true=>rfl
   |false=>rw [h1.inc a c b hac ncb] at hab;cases hab
  ·left
   cases hac:l1 a c with
   |true=>rfl
   |false=>rw [h1.inc b a c nba hac] at hbc;cases hbc
  ·exact Or.inr ⟨h1.inc c b a ncb nba,h2.tr _ _ _ hab hbc⟩
 ·simp only [py,Zq,Zp,Bool.not_eq_false'] at*
  refine ⟨h1.inc _ _ _ hab.1 hbc.1,?_⟩;rcases hab.2 with h3|h3
  ·left
   cases hca:l1 c a with
   |true=>rfl
   |false=>rw [h1.inc b c a hbc.1 hca] at h3;cases h3
  ·rcases hbc.2 with h4|h4
   ·left
    cases hca:l1 c a with
    |true=>rfl
    |false=>rw [h1.inc c a b hca hab.1] at h4;cases h4
   ·right;exact h2.inc _ _ _ h3 h4
def lexL (lt:α→α→Bool):List α→List α→Bool
 |_,[]=>false
 |[],_::_=>true
 |a::x,b::y=>lt a b||(!lt b a&&lexL lt x y)
theorem Swo.lexL {lt:α→α→Bool} (h:Swo lt):Swo (lexL lt):=by
 refine ⟨?_,?_,?_⟩
 ·intro a
  induction a with
  |nil=>rfl
  |cons a x ih=>simp [Hay.lexL,h.irr,ih]
 ·intro a
  induction a with
  |nil=>
   intro b c hab hbc;cases c with
   |nil=>cases b<;>simp [Hay.lexL] at hbc
   |cons c z=>rfl
  | cons a x ih =>
   intro b c hab hbc;cases b with
   |nil=>simp [Hay.lexL] at hab
   | cons b y =>
    cases c with
    |nil=>simp [Hay.lexL] at hbc
    | cons c z =>
     simp only [Hay.lexL,Bool.or_eq_true,Zi,Ze] at*;rcases hab with hab|⟨nba,hab⟩<;>rcases hbc with hbc|⟨ncb,hbc⟩
     ·exact Or.inl (h.tr _ _ _ hab hbc)
     ·left
      cases hac:lt a c with
      |true=>rfl
      |false=>rw [h.inc a c b hac ncb] at hab;cases hab
     ·left
      cases hac:lt a c with
      |true=>rfl
      |false=>rw [h.inc b a c nba hac] at hbc;cases hbc
     ·exact Or.inr ⟨h.inc c b a ncb nba,ih _ _ hab hbc⟩
 ·intro a
  induction a with
  |nil=>
   intro b c hab hbc;cases b with
   |nil=>exact hbc
   |cons b y=>simp [Hay.lexL] at hab
  | cons a x ih =>
   intro b c hab hbc;cases c with
   |nil=>rfl
   | cons c z =>
    cases b with
    |nil=>simp [Hay.lexL] at hbc
    | cons b y =>
     simp only [Hay.lexL,Zq,Zp,Bool.not_eq_false'] at*;refine ⟨h.inc _ _ _ hab.1 hbc.1,?_⟩;rcases hab.2 with h3|h3
     ·left
      cases hca:lt c a with
      |true=>rfl
      |false=>rw [h.inc b c a hbc.1 hca] at h3;cases h3
     ·rcases hbc.2 with h4|h4
      ·left
       cases hca:lt c a with
       |true=>rfl
       |false=>rw [h.inc c a b hca hab.1] at h4;cases h4
      ·right;exact ih _ _ h3 h4
theorem Su:Swo fun a b:Int=>decide (a<b):=
 ⟨fun a=>by simp,fun a b c h1 h2=>by simp at*;omega,fun a b c h1 h2=>by simp at*;omega⟩
theorem xj: ∀s u:List Int,ltB s u=lexL (fun a b:Int=>decide (a<b)) s u
 |s,[]=>by cases s<;>rfl
 |[],_::_=>rfl
 | a :: x, b :: y => by
  simp only [ltB,lexL,xj x y]
  by_cases h1:a<b
  ·simp [h1]
  ·by_cases h2:b<a
   ·have:a≠b:=by omega
    simp [h1,h2,this]
   ·have:a=b:=by omega
    simp [this]
theorem Sv:Swo ltB:=by
 have h:=Su.lexL;exact ⟨fun a=>by rw [xj];exact h.irr a,fun a b c=>by simp only [xj];exact h.tr a b c,fun a b c=>by simp only [xj];exact h.inc a b c⟩
def sgn (lt:α→α→Bool) (a b:α):Int:=if lt a b then -1 else if lt b a then 1 else 0
theorem L3 {lt:α→α→Bool} {a b:α}:decide (sgn lt a b<0)=lt a b:=by
 unfold sgn;cases lt a b
 ·cases lt b a<;>simp
 ·simp
theorem uQ {l1 l2:α→α→Bool} (h1:Swo l1) {a b:α}:sgn (py l1 l2) a b=if sgn l1 a b≠0 then sgn l1 a b else sgn l2 a b:=by
 unfold sgn py;cases e1:l1 a b
 ·cases e2:l1 b a
  ·simp
  ·simp
 ·simp
theorem C5 {lt:α→α→Bool} (h:Swo lt) {a b:α} {x y:List α}:sgn (lexL lt) (a::x) (b::y)=if sgn lt a b≠0 then sgn lt a b else sgn (lexL lt) x y:=by
 by_cases e1:lt a b=true
 ·simp [sgn,lexL,e1]
 ·by_cases e2:lt b a=true
  ·simp [sgn,lexL,e1,e2]
  ·simp [sgn,lexL,e1,e2]
end
def vk2 (v:Ap):Int:=if v.fKind=1 then (if v.fBool then 1 else 0) else if v.fKind=2 then v.fInt else 0
def vk3 (v:Ap):List Int:=if v.fKind=3 then v.fText else []
def vlt:Ap→Ap→Bool:=
 py (fun a b=>decide (a.fKind<b.fKind)) (py (fun a b=>decide (vk2 a<vk2 b)) (fun a b=>ltB (vk3 a) (vk3 b)))
theorem Ep:Swo vlt:=(Su.comap fun v:Ap=>v.fKind).lex ((Su.comap vk2).lex (Sv.comap vk3))
theorem C6 (a b:Ap):pg a b=some (vlt a b):=by
 unfold pg vlt py
 by_cases hk:a.fKind=b.fKind
 ·rw [if_neg (by simp [hk])]
  by_cases h1:b.fKind=1
  ·simp only [kz,vk2,vk3,hk,h1]
   cases ha:a.fBool<;>cases hb:b.fBool<;>simp [ltB]
  ·by_cases h2:b.fKind=2
   ·simp only [kz,vk2,vk3,hk,h2]
    simp [ltB]
   ·by_cases h3:b.fKind=3
    ·simp only [kz,oG,vk2,vk3,hk,h3]
     simp
    ·simp only [kz,oG,vk2,vk3,hk]
     simp [h1,h2,h3,ltB]
 ·rw [if_pos (by simp [hk])]
  by_cases hl:a.fKind<b.fKind
  ·simp [hl]
  ·have:b.fKind<a.fKind:=by omega
   simp [hl,this]
theorem Bn (a b:Ap):iw a b=some (sgn vlt a b):=by
 unfold iw sgn;rw [C6,C6,Z0,Z0];cases vlt a b<;>cases vlt b a<;>rfl
theorem Jy (a b:Int):hZ a b=some (sgn (fun a b:Int=>decide (a<b)) a b):=by
 simp only [hZ,kR,sgn,Z0,bne_self_eq_false]
 by_cases h1:a<b<;>by_cases h2:b<a<;>simp [h1,h2]
theorem KG (a b:Int):il a b=some (sgn (fun a b:Int=>decide (a<b)) a b):=by
 simp only [il,jr,sgn,Z0,bne_self_eq_false]
 by_cases h1:a<b<;>by_cases h2:b<a<;>simp [h1,h2]
theorem PQ (a b:Int):gT a b=some (sgn (fun a b:Int=>decide (a<b)) a b):=by
 simp only [gT,kE,sgn,Z0,bne_self_eq_false]
 by_cases h1:a<b<;>by_cases h2:b<a<;>simp [h1,h2]
theorem PS (a b:Int):gU a b=some (sgn (fun a b:Int=>decide (a<b)) a b):=by
 simp only [gU,kF,sgn,Z0,bne_self_eq_false]
 by_cases h1:a<b<;>by_cases h2:b<a<;>simp [h1,h2]
theorem Bo (a b:Ap):cB a b=some (sgn vlt a b):=by
 unfold cB vlt;rw [uQ (Su.comap fun v:Ap=>v.fKind),uQ (Su.comap vk2)]
 by_cases hk:a.fKind=b.fKind
 ·rw [if_neg (by simp [hk])]
  have e0:sgn (fun a b:Ap=>decide (a.fKind<b.fKind)) a b=0:=by simp [sgn,hk]
  rw [e0];simp only [ne_eq,not_true_eq_false,if_false]
  by_cases h1:b.fKind=1
  ·simp only [ff,vk2,vk3,hk,h1,sgn]
   cases ha:a.fBool<;>cases hb:b.fBool<;>simp [ltB]
  ·by_cases h2:b.fKind=2
   ·have ka:a.fKind=2:=hk.trans h2
    have a2:vk2 a=a.fInt:=by simp [vk2,ka]
    have b2:vk2 b=b.fInt:=by simp [vk2,h2]
    have a3:vk3 a=[]:=by simp [vk3,ka]
    have b3:vk3 b=[]:=by simp [vk3,h2]
    rw [if_neg (by simp [ka]),ff,if_neg (by simp),if_pos (by simp [ka]),KG];simp only [sgn,a2,b2,a3,b3,ltB]
    by_cases q1:a.fInt<b.fInt<;>by_cases q2:b.fInt<a.fInt<;>simp [q1,q2]
   ·by_cases h3:b.fKind=3
    ·have ka:a.fKind=3:=hk.trans h3
     have a2:vk2 a=0:=by simp [vk2,ka]
     have b2:vk2 b=0:=by simp [vk2,h3]
     have a3:vk3 a=a.fText:=by simp [vk3,ka]
     have b3:vk3 b=b.fText:=by simp [vk3,h3]
     rw [if_neg (by simp [ka]),ff,if_neg (by simp),if_neg (by simp [ka]),if_pos (by simp [ka]),lD,ek,Z0,Z0,sX];simp only [sgn,a2,b2,a3,b3];simp
    ·have ka:a.fKind≠1∧a.fKind≠2∧a.fKind≠3:=by rw [hk];exact ⟨h1,h2,h3⟩
     have a2:vk2 a=0:=by simp [vk2,ka]
     have b2:vk2 b=0:=by simp [vk2,h1,h2]
     have a3:vk3 a=[]:=by simp [vk3,ka]
     have b3:vk3 b=[]:=by simp [vk3,h3]
     rw [if_neg (by simp [ka]),ff,if_neg (by simp),if_neg (by simp [ka]),if_neg (by simp [ka])];simp only [sgn,a2,b2,a3,b3,ltB];simp
 ·rw [if_pos (by simp [hk]),Jy,Z0]
  have:sgn (fun a b:Ap=>decide (a.fKind<b.fKind)) a b≠0:=by
   unfold sgn
   by_cases hl:a.fKind<b.fKind
   ·simp [hl]
   ·have:b.fKind<a.fKind:=by omega
    simp [hl,this]
  rw [if_pos this]
  rfl
def rlt:List Ap→List Ap→Bool:=lexL vlt
theorem Sw:Swo rlt:=Ep.lexL
theorem FB {s t:List Ap} (hs:s.length<4611686018427387904) (ht:t.length<4611686018427387904):oK s t=some (sgn rlt s t):=by
 unfold oK;refine n8 (fun i=> ∃k:Nat,i=(k:Int)∧k≤s.length∧k≤t.length∧sgn rlt (s.drop k) (t.drop k)=sgn rlt s t) (fun i=>s.length - i.toNat) ?_ ⟨0,rfl,by simp,by simp,by simp⟩;rintro i ⟨k,rfl,h1,h2,h3⟩;simp only [vd]
 by_cases hk:k<s.length∧k<t.length
 ·obtain ⟨hk1,hk2⟩:=hk
  rw [if_pos (by split<;>simp<;>omega),ay hk1,Z0,ay hk2,Z0,Bo,Z0];rw [Z3 hk1,Z3 hk2,rlt,C5 Ep] at h3
  by_cases hc:sgn vlt s[k] t[k]=0
  ·left
   rw [if_neg (by simp [hc])];refine ⟨_,rfl,⟨k+1,by rw [ak (by omega)];rfl,by omega,by omega,?_⟩,?_⟩
   ·rw [if_neg (by simp [hc])] at h3;exact h3
   ·rw [ak (by omega)];omega
  ·right
   rw [if_pos (by simp [hc])];rw [if_pos hc] at h3;rw [h3];rfl
 ·right
  rw [if_neg (by split<;>simp<;>omega),vc,Jy,Z0, ←h3]
  have key: ∀(x y:List Ap),(x=[]∨y=[])→sgn rlt x y=sgn (fun a b:Int=>decide (a<b)) (x.length:Int) (y.length:Int):=by
   intro x y hxy;rcases hxy with rfl|rfl
   ·cases y<;>simp [sgn,rlt,lexL]<;>omega
   ·cases x<;>simp [sgn,rlt,lexL]<;>omega
  rw [key]
  ·have e1:((s.length:Int)<t.length)↔(((s.length - k:Nat):Int)<((t.length - k:Nat):Int)):=by omega
   have e2:((t.length:Int)<s.length)↔(((t.length - k:Nat):Int)<((s.length - k:Nat):Int)):=by omega
   simp only [sgn,X6,decide_eq_true_eq,e1,e2,X8]
  ·by_cases q:k<s.length
   ·right;exact Z6 (by omega)
   ·left;exact Z6 (by omega)
theorem FC {s t:List Ap} (hs:s.length<4611686018427387904) (ht:t.length<4611686018427387904):xc s t=some (sgn rlt s t):=by
 unfold xc;refine n8 (fun i=> ∃k:Nat,i=(k:Int)∧k≤s.length∧k≤t.length∧sgn rlt (s.drop k) (t.drop k)=sgn rlt s t) (fun i=>s.length - i.toNat) ?_ ⟨0,rfl,by simp,by simp,by simp⟩;rintro i ⟨k,rfl,h1,h2,h3⟩;simp only [yY]
 by_cases hk1:k<s.length
 ·rw [if_pos (by simp;omega)]
  by_cases hk2:k<t.length
  ·rw [if_neg (by simp;omega),ay hk1,Z0,ay hk2,Z0,Bn,Z0]
   rw [Z3 hk1,Z3 hk2,rlt,C5 Ep] at h3
   by_cases hc:sgn vlt s[k] t[k]=0
   ·left
    rw [if_neg (by simp [hc])];refine ⟨_,rfl,⟨k+1,by rw [ak (by omega)];rfl,by omega,by omega,?_⟩,?_⟩
    ·rw [if_neg (by simp [hc])] at h3;exact h3
    ·rw [ak (by omega)];omega
   ·right
    rw [if_pos (by simp [hc])];rw [if_pos hc] at h3;rw [h3];rfl
  ·right
   have:k=t.length:=by omega
   rw [if_pos (by simp;omega), ←h3,this,List.drop_length,Z3 (by omega)];simp [sgn,rlt,lexL]
 ·right
  rw [if_neg (by simp;omega), ←h3,Z6 (by omega:s.length≤k),yX]
  by_cases hk2:k<t.length
  ·rw [if_pos (by simp;omega),Z3 hk2]
   simp [sgn,rlt,lexL]
  ·rw [if_neg (by simp;omega),Z6 (by omega:t.length≤k)]
   simp [sgn,rlt,lexL]
def jA (cs:List Int) (row:List Ap):List Ap:=cs.map fun c=>if 0≤c∧c<(row.length:Int) then row.getD c.toNat Ap.zero else Ap.zero
theorem sQ (cs:List Int) (row:List Ap):(jA cs row).length=cs.length:=by simp [jA]
theorem G8 {α:Type} {xs:List α} {i:Int} (d:α) (h:0≤i∧i<(xs.length:Int)):idx xs i=some (xs.getD i.toNat d):=by
 obtain ⟨n,rfl⟩:=Zh h.1;have hn:n<xs.length:=by omega
 rw [ay hn];simp [hn]
theorem C7 {f:List Ap×Int→Option ((List Ap×Int)⊕List Ap)} {cs:List Int} {row:List Ap} {g:Int→Ap}
  (step: ∀(i:Nat) (l:List Ap) (h:i<cs.length),l.length=i→f (l,(i:Int))=some (.inl (l++[g cs[i]],((i+1:Nat):Int)))) (fin: ∀l,f (l,(cs.length:Int))=some (.inr l)):aq f ([],0)=some (cs.map g):=by
 refine gX (fun i=>((cs.take i).map g,(i:Int))) cs.length (by simp) (fun i hi=> ?_) ?_
 ·show f ((cs.take i).map g,(i:Int))=_
  have e:(cs.take (i+1)).map g=(cs.take i).map g++[g cs[i]]:=by rw [List.take_add_one,Z1 hi,Za];rfl
  rw [step i _ hi (by simp;omega),e]
 ·show f ((cs.take cs.length).map g,(cs.length:Int))=_
  rw [fin,Zd];rfl
theorem G9 {cs:List Int} {row:List Ap} (hc:cs.length≤3518437208883):ll cs row=some (jA cs row):=by
 unfold ll jA;refine C7 (row:=row) (fun i l hi hl=> ?_) (fun l=> ?_)
 ·simp only [pj]
  rw [if_pos (by simpa using hi),ay hi,Z0,kp,Z0]
  have hj: ∀x,mf l (i:Int) x=some (.inl (l++[x],((i+1:Nat):Int))):=by
   intro x;unfold mf;rw [aF (by simp;omega),Z0,ak (by omega)]
   rfl
  by_cases h0:0≤cs[i]
  ·rw [if_pos (by simp [h0])]
   unfold mg
   by_cases h1:cs[i]<(row.length:Int)
   ·rw [if_pos (by simp [h1]),G8 Ap.zero ⟨h0,h1⟩,Z0,hj,if_pos ⟨h0,h1⟩]
   ·rw [if_neg (by simp;omega),hj,if_neg (by omega)];rfl
  ·rw [if_neg (by simp;omega)]
   unfold mg;rw [if_neg (by simp),hj,if_neg (by omega)];rfl
 ·simp only [pj]
  rw [if_neg (by simp)];rfl
theorem Ba {cs:List Int} {row:List Ap} (hc:cs.length≤3518437208883):vY cs row=some (jA cs row):=by
 unfold vY jA;refine C7 (row:=row) (fun i l hi hl=> ?_) (fun l=> ?_)
 ·simp only [vX]
  rw [if_pos (by simpa using hi),ay hi,Z0]
  have hj: ∀x,sA l (i:Int) x=some (.inl (l++[x],((i+1:Nat):Int))):=by
   intro x;unfold sA;rw [aF (by simp;omega),Z0,ak (by omega)]
   rfl
  by_cases h0:0≤cs[i]
  ·rw [if_pos (by simp [h0]),Z0]
   unfold sB
   by_cases h1:cs[i]<(row.length:Int)
   ·rw [if_pos (by simp [h1]),ay hi,Z0,G8 Ap.zero ⟨h0,h1⟩,Z0,hj,if_pos ⟨h0,h1⟩]
   ·rw [if_neg (by simp;omega),hj,if_neg (by omega)];rfl
  ·rw [if_neg (by simp;omega)]
   unfold sB;rw [if_neg (by simp),hj,if_neg (by omega)];rfl
 ·simp only [vX]
  rw [if_neg (by simp)];rfl
def ilt:aK→aK→Bool:=py (fun a b=>decide (a.fEpoch<b.fEpoch)) (fun a b=>decide (a.fNumber<b.fNumber))
theorem Sx:Swo ilt:=(Su.comap fun v:aK=>v.fEpoch).lex (Su.comap fun v:aK=>v.fNumber)
def qlt (cs:List Int):aa→aa→Bool:=py (fun a b=>rlt (jA cs a.fRow) (jA cs b.fRow)) (fun a b=>ilt a.fId b.fId)
theorem ie (cs:List Int):Swo (qlt cs):=(Sw.comap fun v:aa=>jA cs v.fRow).lex (Sx.comap fun v:aa=>v.fId)
theorem Bb (a b:Int):mh [a,b]=some (if a≠0 then a else b):=by
 unfold mh;have e0:idx [a,b] 0=some a:=rfl;have e1:idx [a,b] 1=some b:=rfl
 by_cases ha:a=0
 ·have h0:gc [a,b] 0=some (.inl 1):=by
   simp only [gc];rw [if_pos (by simp),e0,Z0,if_neg (by simp [ha])];rfl
  rw [bK h0]
  by_cases hb:b=0
  ·have h1:gc [a,b] 1=some (.inl 2):=by
    simp only [gc];rw [if_pos (by simp),e1,Z0,if_neg (by simp [hb])];rfl
   rw [bK h1];apply aY;simp only [gc];rw [if_neg (by simp),ha,hb];rfl
  ·apply aY
   simp only [gc];rw [if_pos (by simp),e1,Z0,if_pos (by simp [hb]),if_neg (by simp [ha])];rfl
 ·apply aY
  simp only [gc];rw [if_pos (by simp),e0,Z0,if_pos (by simp [ha]),if_pos ha];rfl
theorem I3 (a b:aK):kW a b=some (sgn ilt a b):=by
 unfold kW ilt;rw [PQ,Z0,PS,Z0,Bb,Z0,uQ (Su.comap fun v:aK=>v.fEpoch)]
 rfl
theorem FD {cs:List Int} (hc:cs.length≤3518437208883) (a b:aa):eu a b cs=some (sgn (qlt cs) a b):=by
 unfold eu qlt;rw [G9 hc,Z0,G9 hc,Z0,FB (by rw [sQ];omega) (by rw [sQ];omega),Z0,I3,Z0,Bb,Z0,uQ (Sw.comap fun v:aa=>jA cs v.fRow)]
 rfl
theorem FE {cs:List Int} (hc:cs.length≤3518437208883):Cmp (qlt cs) (fun a b=>eu a b cs):=fun a b=>⟨_,FD hc a b,L3⟩
theorem C8 (a b:aK):sC a b=some (ilt a b):=by
 unfold sC ilt py
 by_cases h:a.fEpoch=b.fEpoch
 ·rw [if_neg (by simp [h])];simp [h]
 ·rw [if_pos (by simp [h])]
  by_cases hl:a.fEpoch<b.fEpoch
  ·simp [hl]
  ·have:b.fEpoch<a.fEpoch:=by omega
   simp [hl,this]
theorem Bc {cs:List Int} (hc:cs.length≤3518437208883) (a b:aa):sD cs a b=some (qlt cs a b):=by
 unfold sD qlt py;rw [Ba hc,Z0,Ba hc,Z0,FC (by rw [sQ];omega) (by rw [sQ];omega),Z0,C8];unfold sgn;cases e1:rlt (jA cs a.fRow) (jA cs b.fRow)
 ·cases e2:rlt (jA cs b.fRow) (jA cs a.fRow)
  ·simp [e1,e2]
  ·simp [e1,e2]
 ·simp [e1]
set_option linter.unusedVariables false
set_option linter.unusedSimpArgs false
def Rok (l:List aa):Prop:= ∀v∈l,v.fRow.length≤1048576
theorem own_eq {v:aa} (h:v.fRow.length≤1048576):mX v=some v:=by
  unfold mX gP;rw [aF (by simp;omega)];simp
theorem iE {α:Type} {xs:List α} {i:Nat} (h:i<xs.length):xs.take (i+1)=xs.take i++[xs[i]]:=by
  rw [List.take_add_one,Z1 h];rfl
theorem Bd {cs:List Int} {xs:List aa} (hc:cs.length≤1048576) (hx:xs.length≤1048576) (hr:Rok xs): ∃T,iH cs xs=some T∧Stb (qlt cs) xs T:=by
  obtain ⟨T,h1,h2⟩:=G7 (ie cs) (FE (cs:=cs) (by omega)) xs (by omega);refine ⟨T,?_,h2⟩;unfold iH;refine (gX (fun i=>((i:Int),xs.take i)) xs.length (by simp) (fun i hi=> ?_) (b:=im cs xs) ?_).trans ?_
  · simp only [io]
    rw [if_pos (by simpa using hi),ay hi,Z0,own_eq (hr _ (Z9 hi)),Z0,aF (by simp;omega),Z0,iE hi,ak (by omega)]
    rfl
  · simp only [io]
    rw [if_neg (by simp),Zd]
  · unfold im
    rw [h1];rfl
theorem C9 {cs : List Int} {xs : List aa} (hc : cs.length ≤ 1048576) (hx : xs.length ≤ 1048576) : ∃ T, sE cs xs = some T ∧ Stb (qlt cs) xs T := by
  unfold sE;refine gg (fun s=> ∃k:Nat,s.2=(k:Int)∧k≤xs.length∧Stb (qlt cs) (xs.take k) s.1) (fun s=>xs.length - s.2.toNat) (fun T=>Stb (qlt cs) xs T) ?_ ⟨0,rfl,by simp,Stb.nil⟩;rintro ⟨out,i⟩ ⟨k,rfl,hk,hs⟩;simp only at hk hs;have hol:=hs.len (ie cs);rw [X5] at hol;simp only [vZ]
  by_cases hkx:k<xs.length
  · left
    rw [if_pos (by simpa using hkx)]
    have inner: ∀(n:Nat) (S1 S2:List aa),S1.length=n→out=S1++S2→(∀s∈S2,qlt cs xs[k] s=true)→
        ∃T,aq (fun s:Int=>j5 cs xs out (k:Int) s) (n:Int)=some (.inl (T,((k+1:Nat):Int)))∧Stb (qlt cs) (out++[xs[k]]) T:=by
      intro n
      induction n with
      | zero =>
        intro S1 S2 hn ho h2;obtain rfl:=Zg hn;have hst:=Stb.ins (ie cs) (S1:=[]) (S2:=S2) (v:=xs[k]) (by rw [←ho];exact hs.srt) h2 (by simp);rw [←ho] at hst;refine ⟨_,?_,hst⟩;apply aY;simp only [j5];rw [if_neg (by simp),oL];have e1:sub out 0 ((0:Nat):Int)=some ((out.take 0).drop 0):=ef (lo:=0) (hi:=0) (by omega) (by omega);have e2:sub out ((0:Nat):Int) (out.length:Int)=some ((out.take out.length).drop 0):=ef (lo:=0) (hi:=out.length) (by omega) (by omega);rw [e1,Z0,aF (by simp),Z0,ay hkx,Z0,aF (by simp),Z0,e2,Z0,aF (by simp;omega),Z0,rG,ak (by omega)];simp [ho]
      | succ n ih =>
        intro S1 S2 hn ho h2;obtain ⟨S1',s,rfl,hn'⟩:=Af hn;have hol2:out.length=n+1+S2.length:=by rw [ho];simp;omega
        have hs1:out[n]? =some s:=by rw [ho, ←hn'];simp
        obtain ⟨hsl,hsx⟩:=List.getElem?_eq_some_iff.1 hs1;cases hl:qlt cs xs[k] s with
        | true =>
          have hst:j5 cs xs out (k:Int) ((n+1:Nat):Int)=some (.inl (n:Int)):=by
            simp only [j5];rw [if_pos (by simp),ay hkx,Z0,ak (by omega),show ((n+1:Nat):Int) - 1=(n:Int) by omega,ay hsl,Z0,hsx,Bc (by omega),Z0,hl]
            rfl
          rw [bK hst]
          exact ih S1' (s::S2) hn' (by rw [ho];simp) (by
            intro x hx;rcases X9.1 hx with rfl|hx
            · exact hl
            · exact h2 x hx)
        | false =>
          have hsrt:Srt (qlt cs) ((S1'++[s])++S2):=by rw [←ho];exact hs.srt
          have hst:=Stb.ins (ie cs) (v:=xs[k]) hsrt h2 (Ch (ie cs) (List.Pairwise.sublist (List.sublist_append_left _ _) hsrt) hl);rw [←ho] at hst;refine ⟨_,?_,hst⟩;apply aY;simp only [j5];rw [if_pos (by simp),ay hkx,Z0,ak (by omega),show ((n+1:Nat):Int) - 1=(n:Int) by omega,ay hsl,Z0,hsx,Bc (by omega),Z0,hl];rw [if_pos (by rfl),oL];have e1:sub out 0 ((n+1:Nat):Int)=some ((out.take (n+1)).drop 0):=ef (lo:=0) (hi:=n+1) (by omega) (by omega);have e2:sub out ((n+1:Nat):Int) (out.length:Int)=some ((out.take out.length).drop (n+1)):=ef (lo:=n+1) (hi:=out.length) (by omega) (by omega)
          rw [e1,Z0,aF (by simp;omega),Z0,ay hkx,Z0,aF (by simp;omega),Z0,e2,Z0,aF (by simp;omega),Z0,rG,ak (by omega)];have t1:out.take (n+1)=S1'++[s]:=by rw [ho];exact List.take_left' hn
          have t2:out.drop (n+1)=S2:=by rw [ho];exact Zw hn
          rw [Zd,t2,List.drop_zero,t1];simp
    obtain ⟨T,h1,h2⟩:=inner out.length out [] rfl (by simp) (by simp);refine ⟨(T,((k+1:Nat):Int)),h1,⟨k+1,rfl,hkx,?_⟩,by simp;omega⟩;rw [iE hkx];exact hs.app h2
  · right
    rw [if_neg (by simp;omega)];refine ⟨out,rfl,?_⟩;rwa [Z4 (by omega)] at hs
theorem Rok.flat {ls:List (List aa)} (h: ∀l∈ls,Rok l):Rok ls.flatten:=by
  intro v hv;obtain ⟨l,hl,hv⟩:=List.mem_flatten.1 hv;exact h l hl v hv
theorem Da {r:List Ap} (h:r.length≤1048576):qJ r r=some true:=by
  unfold qJ;rw [if_neg (by simp)];refine gX (fun i=>(i:Int)) r.length rfl (fun i hi=> ?_) ?_
  · simp only [qp]
    rw [if_pos (by simpa using hi),ay hi,Z0,Z0,if_neg (by simp),ak (by omega)];rfl
  · simp only [qp]
    rw [if_neg (by simp)];rfl
theorem xr {xs:List aa} (h:xs.length≤1048576) (hr:Rok xs):lF xs xs=some true:=by
  unfold lF;rw [if_neg (by simp)];refine gX (fun i=>(i:Int)) xs.length rfl (fun i hi=> ?_) ?_
  · have hv : mj xs[i] xs[i] = some true := by
      unfold mj;rw [Da (hr _ (Z9 hi)),Z0,if_pos rfl,if_pos (by simp)];simp [jP]
    simp only [lT];rw [if_pos (by simpa using hi),ay hi,Z0,Z0,hv,Z0,if_neg (by simp),ak (by omega)];rfl
  · simp only [lT]
    rw [if_neg (by simp)];rfl
theorem KH {r:List Ap} (h:r.length≤1048576):w9 r=some r:=by
  unfold w9;rw [aF (by simp;omega)];simp
set_option linter.unusedVariables false
set_option linter.unusedSimpArgs false
theorem qi {σ β:Type} {f:σ→Option (σ⊕β)} {s:σ} (S:Nat→σ) (n:Nat) (good:Nat→Bool) (b0:β) (K:Option β) (h0:s=S 0) (step: ∀i,i<n→good i=true→f (S i)=some (.inl (S (i+1)))) (out: ∀i,i<n→good i=false→f (S i)=some (.inr b0))
  (fin:f (S n)=K.map Sum.inr):aq f s=if (Z8 n).all good then K else some b0:=by
 have key: ∀k i:Nat,i+k=n→aq f (S i)=if (List.range' i k).all good then K else some b0:=by
  intro k
  induction k with
  |zero=>
   intro i hi;obtain rfl:i=n:=by omega
   rw [o4,fin];cases K<;>rfl
  |succ k ih=>
   intro i hi;rw [List.range'_succ,List.all_cons];cases hg:good i with
   |true=>rw [bK (step i (by omega) hg),ih (i+1) (by omega),Bool.true_and]
   |false=>rw [aY (out i (by omega) hg)];simp
 rw [h0,key n 0 (by omega),List.range_eq_range']
structure mq (v:aa):Prop where
 ep:0≤v.fId.fEpoch∧v.fId.fEpoch<18446744073709551616
 nu:0≤v.fId.fNumber∧v.fId.fNumber<4294967296
 de:0≤v.fDeleted∧v.fDeleted<18446744073709551616
 row: ∀x∈v.fRow,VOK x
 len:v.fRow.length≤1048576
theorem Ha {xs:List Int} {n:Int} (h:xs.length≤1048576): ∃i,kG xs n=some i∧decide (0≤i)=xs.contains n:=by
 unfold kG
 have key : ∀ k i : Nat, i + k = xs.length → ∃ r, aq (fun s : Int => gp xs n s) (i : Int) = some r ∧ decide (0 ≤ r) = (xs.drop i).contains n := by
  intro k
  induction k with
  |zero=>
   intro i hi;refine ⟨-1,?_,by rw [Z6 (by omega)];rfl⟩;apply aY;simp only [gp];rw [if_neg (by simp;omega)];rfl
  | succ k ih =>
   intro i hi;have hlt:i<xs.length:=by omega
   rw [Z3 hlt]
   by_cases he:n=xs[i]
   ·refine ⟨(i:Int),?_,by rw [List.contains_cons,he,beq_self_eq_true,Bool.true_or];simp⟩
    apply aY;simp only [gp];rw [if_pos (by simpa using hlt),ay hlt,Z0,if_pos (by simp [he])];rfl
   ·obtain ⟨r,h1,h2⟩:=ih (i+1) (by omega)
    refine ⟨r,?_,?_⟩
    ·rw [bK (s':=((i+1:Nat):Int))]
     ·exact h1
     ·simp only [gp]
      rw [if_pos (by simpa using hlt),ay hlt,Z0,if_neg (by simp [he]),ak (by omega)];rfl
    ·have e1:(n==xs[i])=false:=by simpa using he
     rw [h2,List.contains_cons,e1,Bool.false_or]
 obtain ⟨r,h1,h2⟩:=key xs.length 0 (by omega);exact ⟨r,h1,by simpa using h2⟩
theorem Db {xs:List Int} {n:Int} (h:xs.length≤1048576):gq xs n=some (xs.contains n):=by
 obtain ⟨i,h1,h2⟩:=Ha (n:=n) h;unfold gq;rw [h1,Z0,h2]
def rS (cols:Int) (v:aa):Bool:=
 v.fRow.all right&&(decide ((v.fRow.length:Int)=cols)&&(decide (1≤v.fId.fEpoch)&&(decide (v.fId.fEpoch≤9223372036854775807)&& !(decide (v.fDeleted≠0)&&(decide (v.fDeleted≤v.fId.fEpoch)||decide (9223372036854775807<v.fDeleted))))))
theorem Hb {cols:Int} {v:aa} (h:v.fRow.length≤1048576):kX cols v=some (rS cols v):=by
 unfold kX
 have hj: ∀x,iW cols v x=some (decide ((v.fRow.length:Int)=cols)&&(decide (1≤v.fId.fEpoch)&&(decide (v.fId.fEpoch≤9223372036854775807)&& !x))):=by
  intro x;unfold iW iV
  by_cases h1:(v.fRow.length:Int)=cols<;>by_cases h2:1≤v.fId.fEpoch<;>by_cases h3:v.fId.fEpoch≤9223372036854775807<;>simp [h1,h2,h3]
 have hK:kH cols v=some (decide ((v.fRow.length:Int)=cols)&&(decide (1≤v.fId.fEpoch)&&(decide (v.fId.fEpoch≤9223372036854775807)&& !(decide (v.fDeleted≠0)&&(decide (v.fDeleted≤v.fId.fEpoch)||decide (9223372036854775807<v.fDeleted)))))):=by
  unfold kH;simp only [hj]
  by_cases h1:v.fDeleted=0<;>by_cases h2:v.fDeleted≤v.fId.fEpoch<;>simp [h1,h2]
 refine (qi (fun i=>(i:Int)) v.fRow.length (fun i=>match v.fRow[i]? with|some x=>right x|none=>true) false (kH cols v) rfl (fun i hi hg=> ?_) (fun i hi hg=> ?_) ?_).trans ?_
 ·simp only [Z1 hi] at hg
  simp only [kI];rw [if_pos (by simpa using hi),ay hi,Z0,iJ,Z0,hg,if_neg (by simp),ak (by omega)];rfl
 ·simp only [Z1 hi] at hg
  simp only [kI];rw [if_pos (by simpa using hi),ay hi,Z0,iJ,Z0,hg,if_pos (by simp)];rfl
 ·simp only [kI]
  rw [if_neg (by simp)]
 ·have e:(Z8 v.fRow.length).all (fun i=>match v.fRow[i]? with|some x=>right x|none=>true)=v.fRow.all right:=by
   rw [Zx];simp only [Zj,Zn];constructor
   ·intro h x hx
    obtain ⟨i,hi,rfl⟩:=Zf hx;have:=h i hi;rwa [Z1 hi] at this
   ·intro h i hi
    rw [Z1 hi];exact h _ (Z9 hi)
  rw [e,hK];unfold rS;cases v.fRow.all right<;>simp
def qU (cols:Int) (srt:List Int) (i:Nat):Bool:=match srt[i]? with
 |some n=>decide (0≤n)&&(decide (n<cols)&& !(srt.take i).contains n)
 |none=>true
def pU (cols:Int) (l:List aa) (i:Nat):Bool:=match l[i]? with
 |some v=>rS cols v&& !((l.take i).map (·.fId)).contains v.fId
 |none=>true
def qV (cols:Int) (srt:List Int):Bool:=(Z8 srt.length).all (qU cols srt)
def oU (cols:Int) (l:List aa):Bool:=(Z8 l.length).all (pU cols l)
def tB (cols:Int) (srt:List Int) (l:List aa):Int:=
 if cols<1∨8<cols then 1 else if qV cols srt then (if 4096<l.length then 81 else if oU cols l then 0 else 81) else 1
def mr (l:List aa) (i:Nat):List aK:=((l.take i).map (·.fId)).reverse
theorem I4 {l:List aK} {x:aK} (h:l.length≤1048576):decide (1<jh (x::l) x)=l.contains x:=by
 unfold jh;have h1:(x::l).count x=l.count x+1:=by simp
 have h2:l.count x≤l.length:=List.count_le_length;rw [h1,ak (by omega)]
 by_cases hm:x∈l
 ·have:0<l.count x:=List.count_pos_iff.2 hm
  simp [hm];omega
 ·have:l.count x=0:=List.count_eq_zero.2 hm
  simp [hm,this]
theorem Dc {cols:Int} {l:List aa} (hl:l.length≤4096) (hv: ∀v∈l,mq v):
  aq (fun s:(Int×List aK)=>dq cols l s.1 s.2) (0,([]:List aK))=if oU cols l then some 0 else some 81:=by
 have hj: ∀(i:Nat) (hi:i<l.length) b,fq (i:Int) (mr l i) l[i] b=if b then some (.inr 81) else some (.inl (((i+1:Nat):Int),mr l (i+1))):=by
  intro i hi b;unfold fq;cases b
  ·rw [if_neg (by simp),if_neg (by simp),ak (by omega)]
   have:mr l (i+1)=l[i].fId::mr l i:=by
    unfold mr;rw [iE hi,Za,List.reverse_append];rfl
   rw [this];rfl
  ·rw [if_pos rfl,if_pos rfl];rfl
 have hb: ∀(i:Nat) (hi:i<l.length),dq cols l (i:Int) (mr l i)=if pU cols l i then some (.inl (((i+1:Nat):Int),mr l (i+1))) else some (.inr 81):=by
  intro i hi;have hlen:=(hv _ (Z9 hi)).len;simp only [dq];rw [if_pos (by simpa using hi),ay hi,Z0,Hb hlen,Z0,hj i hi,hj i hi,I4 (by simp [mr];omega)];unfold pU;rw [Z1 hi];dsimp only
  have hc:(mr l i).contains l[i].fId=((l.take i).map (·.fId)).contains l[i].fId:=by
   unfold mr;rw [Zx];simp
  rw [hc];rcases Zc (((l.take i).map (·.fId)).contains l[i].fId) with hq|hq<;>rcases Zc (rS cols l[i]) with hz|hz<;>simp only [hq,hz]<;>rfl
 refine qi (fun i=>((i:Int),mr l i)) l.length (pU cols l) 81 (some 0) rfl (fun i hi hg=> ?_) (fun i hi hg=> ?_) ?_
 ·show dq cols l (i:Int) (mr l i)=_
  rw [hb i hi,hg];rfl
 ·show dq cols l (i:Int) (mr l i)=_
  rw [hb i hi,hg];rfl
 ·simp only [dq]
  rw [if_neg (by simp)];rfl
theorem uR {cols:Int} {srt:List Int} {l:List aa} (hs:srt.length≤1048576) (hv: ∀v∈l,mq v):fT cols srt l=some (tB cols srt l):=by
 have h2:ew cols l=some (if 4096<l.length then 81 else if oU cols l then 0 else 81):=by
  unfold ew
  by_cases h:4096<l.length
  ·rw [if_pos (by simp;omega),if_pos h]
  ·rw [if_neg (by simp;omega),if_neg h,Dc (by omega) hv]
   cases oU cols l<;>rfl
 have hj: ∀i:Nat,i<srt.length→ ∀b,ez (i:Int) b=if b then some (.inr 1) else some (.inl ((i+1:Nat):Int)):=by
  intro i hi b;unfold ez;cases b
  ·rw [if_neg (by simp),if_neg (by simp),ak (by omega)];rfl
  ·rfl
 have h1 : ∀ b, fu cols srt l b = if b then some 1 else if qV cols srt then ew cols l else some 1 := by
  intro b;unfold fu;cases b
  ·rw [if_neg (by simp), if_neg (by simp)]
   have hb: ∀(i:Nat) (hi:i<srt.length),ft cols srt l (i:Int)=if qU cols srt i then some (.inl ((i+1:Nat):Int)) else some (.inr 1):=by
    intro i hi;simp only [ft];rw [if_pos (by simpa using hi),ay hi,Z0]
    have hsb:sub srt 0 (i:Int)=some (srt.take i):=by
     have:=ef (xs:=srt) (lo:=0) (hi:=i) (by omega) (by omega);simpa using this
    rw [hsb,Z0,Db (by simp;omega),Z0];simp only [hj i hi];unfold qU;rw [Z1 hi];dsimp only
    by_cases q1:srt[i]<0
    ·have q4: ¬ 0≤srt[i]:=by omega
     simp [q1,q4]
    ·by_cases q2:cols≤srt[i]
     ·have q3: ¬ srt[i]<cols:=by omega
      simp [q1,q2,q3]
     ·have q3:srt[i]<cols:=by omega
      have q4:0≤srt[i]:=by omega
      rw [if_neg (by simp [q1]),if_neg (by simp [q2])];rcases Zc ((srt.take i).contains srt[i]) with hq|hq<;>simp only [hq,decide_eq_true q3,decide_eq_true q4]<;>rfl
   refine qi (fun i=>(i:Int)) srt.length (qU cols srt) 1 (ew cols l) rfl (fun i hi hg=> ?_) (fun i hi hg=> ?_) ?_
   ·rw [hb i hi,hg];rfl
   ·rw [hb i hi,hg];rfl
   ·simp only [ft]
    rw [if_neg (by simp)]
  ·rfl
 unfold fT tB;simp only [h1,h2]
 by_cases q1:cols<1
 ·simp [q1]
 ·by_cases q2:8<cols
  ·simp [q1,q2]
  ·simp only [q1,q2,decide_false,Bool.false_eq_true,if_false,or_self]
   cases qV cols srt<;>simp
set_option linter.unusedVariables false
set_option linter.unusedSimpArgs false
theorem Dd {α:Type} [DecidableEq α] {l:List α} {i:Nat} {x:α} (h:i≤l.length):(Z8 i).all (fun k=>(l[k]?).all fun y=> !decide (y=x))= !(l.take i).contains x:=by
 rw [Zx];simp only [Zj,Zn,Ze,Zr,decide_eq_false_iff_not];constructor
 ·intro h1 hm
  obtain ⟨k,hk,he⟩:=Zf hm;have hk':k<i:=by simp at hk;omega
  have h2:=h1 k hk'
  have h3:l[k]? =some x:=by
   rw [Z1 (by omega)];simpa using he
  rw [h3,Zk] at h2;simp at h2
 ·intro h1 k hk
  have hkl:k<l.length:=by omega
  rw [Z1 hkl,Zk];simp only [Ze,decide_eq_false_iff_not];intro e;apply h1;rw [←e];exact List.mem_of_getElem? (i:=k) (by rw [Zz hk,Z1 hkl])
theorem I5 {α:Type} (l:List α) (p:α→Bool):(Z8 l.length).all (fun i=>(l[i]?).all fun x=>p x)=l.all p:=by
 rw [Zx];simp only [Zj,Zn];constructor
 ·intro h x hx
  obtain ⟨i,hi,rfl⟩:=Zf hx;have:=h i hi;rwa [Z1 hi,Zk] at this
 ·intro h i hi
  rw [Z1 hi,Zk];exact h _ (Z9 hi)
theorem De {cols:Int} {l:List aa} (hl:l.length≤4096) (hv: ∀v∈l,mq v) (i:Nat) (hi:i<l.length):
  nE cols l (i:Int)=if pU cols l i then some (.inl ((i+1:Nat):Int)) else some (.inr 81):=by
 have hok:=hv _ (Z9 hi);have hlen:=hok.len
 have h6:kY l (i:Int) l[i]=if !((l.take i).map (·.fId)).contains l[i].fId then some (.inl ((i+1:Nat):Int)) else some (.inr 81):=by
  have hrow:((l.take i).map (·.fId))=(l.map (·.fId)).take i:=by simp
  have ha:=Dd (l:=l.map (·.fId)) (i:=i) (x:=l[i].fId) (by simp;omega);rw [hrow, ←ha];unfold kY
  have e:(Z8 i).all (fun k=>((l.map (·.fId))[k]?).all fun y=> !decide (y=l[i].fId))=(Z8 i).all (fun k=>(l[k]?).all fun y=> !decide (y.fId=l[i].fId)):=by
   congr 1;funext k;rw [List.getElem?_map];cases l[k]? <;>rfl
  rw [e];refine qi (fun k=>(k:Int)) i (fun k=>(l[k]?).all fun y=> !decide (y.fId=l[i].fId)) (Sum.inr 81) (some (.inl ((i+1:Nat):Int))) rfl (fun k hk hg=> ?_) (fun k hk hg=> ?_) ?_
  ·have hkl:k<l.length:=by omega
   simp only [Z1 hkl,Zk] at hg;simp only [nC];rw [if_pos (by simpa using hk),ay hkl,Z0,if_neg (by simpa using hg),ak (by omega)];rfl
  ·have hkl:k<l.length:=by omega
   simp only [Z1 hkl,Zk] at hg;simp only [nC];rw [if_pos (by simpa using hk),ay hkl,Z0,if_pos (by simpa using hg)];rfl
  ·simp only [nC]
   rw [if_neg (by simp),ve,ak (by omega)];rfl
 have h5: ∀b,ge l (i:Int) l[i] b=if b then some (.inr 81) else if l[i].fRow.all right then kY l (i:Int) l[i] else some (.inr 81):=by
  intro b;unfold ge;cases b
  ·rw [if_neg (by simp),if_neg (by simp), ←I5]
   refine qi (fun k=>(k:Int)) l[i].fRow.length (fun k=>(l[i].fRow[k]?).all fun x=>right x) (Sum.inr 81) (kY l (i:Int) l[i]) rfl (fun k hk hg=> ?_) (fun k hk hg=> ?_) ?_
   ·simp only [Z1 hk,Zk] at hg
    simp only [nD];rw [if_pos (by simpa using hk),ay hk,Z0,oN,Z0,hg,if_neg (by simp),ak (by omega)];rfl
   ·simp only [Z1 hk,Zk] at hg
    simp only [nD];rw [if_pos (by simpa using hk),ay hk,Z0,oN,Z0,hg,if_pos (by simp)];rfl
   ·simp only [nD]
    rw [if_neg (by simp)]
  ·rfl
 simp only [nE];rw [if_pos (by simpa using hi),ay hi,Z0];simp only [h5,h6];unfold pU rS;rw [Z1 hi];dsimp only;have he:=hok.ep;have hd:=hok.de
 rcases Zc (((l.take i).map (·.fId)).contains l[i].fId) with hq|hq<;>rcases Zc (l[i].fRow.all right) with hz|hz<;>simp only [hq,hz]<;>
  by_cases c1:(l[i].fRow.length:Int)=cols<;>by_cases c2:l[i].fId.fEpoch=0<;>by_cases c3:9223372036854775807<l[i].fId.fEpoch<;>by_cases c4:9223372036854775807<l[i].fDeleted<;>by_cases c5:l[i].fDeleted=0<;>by_cases c6:l[i].fDeleted≤l[i].fId.fEpoch<;>
  simp [c1,c2,c3,c4,c5,c6]<;>omega
theorem KI {cols:Int} {srt:List Int} {l:List aa} (hs:srt.length≤1048576) (hv: ∀v∈l,mq v):qL cols srt l=some (tB cols srt l):=by
 have h2:kZ cols l=some (if 4096<l.length then 81 else if oU cols l then 0 else 81):=by
  unfold kZ
  by_cases h:4096<l.length
  ·rw [if_pos (by simp;omega),if_pos h]
  ·rw [if_neg (by simp;omega),if_neg h]
   refine (qi (fun i=>(i:Int)) l.length (pU cols l) 81 (some 0) rfl (fun i hi hg=> ?_) (fun i hi hg=> ?_) ?_).trans ?_
   ·rw [De (by omega) hv i hi,hg];rfl
   ·rw [De (by omega) hv i hi,hg];rfl
   ·simp only [nE]
    rw [if_neg (by simp)];rfl
   ·show (if oU cols l then some 0 else some 81)=_
    cases oU cols l<;>rfl
 have h8: ∀(i:Nat) (hi:i<srt.length) b,nG srt (i:Int) b=if b then some (.inr 1) else if !(srt.take i).contains srt[i] then some (.inl ((i+1:Nat):Int)) else some (.inr 1):=by
  intro i hi b;unfold nG;cases b
  ·rw [if_neg (by simp),if_neg (by simp), ←Dd (by omega)]
   refine qi (fun k=>(k:Int)) i (fun k=>(srt[k]?).all fun y=> !decide (y=srt[i])) (Sum.inr 1) (some (.inl ((i+1:Nat):Int))) rfl (fun k hk hg=> ?_) (fun k hk hg=> ?_) ?_
   ·have hkl:k<srt.length:=by omega
    simp only [Z1 hkl,Zk] at hg;simp only [nF];rw [if_pos (by simpa using hk),ay hkl,Z0,ay hi,Z0,if_neg (by simpa using hg),ak (by omega)];rfl
   ·have hkl:k<srt.length:=by omega
    simp only [Z1 hkl,Zk] at hg;simp only [nF];rw [if_pos (by simpa using hk),ay hkl,Z0,ay hi,Z0,if_pos (by simpa using hg)];rfl
   ·simp only [nF]
    rw [if_neg (by simp),vf,ak (by omega)];rfl
  ·rfl
 have h1 : ∀ b, nI cols srt l b = if b then some 1 else if qV cols srt then kZ cols l else some 1 := by
  intro b;unfold nI;cases b
  ·rw [if_neg (by simp), if_neg (by simp)]
   have hb: ∀(i:Nat) (hi:i<srt.length),nH cols srt l (i:Int)=if qU cols srt i then some (.inl ((i+1:Nat):Int)) else some (.inr 1):=by
    intro i hi;simp only [nH];rw [if_pos (by simpa using hi),ay hi,Z0,Z0];simp only [h8 i hi];unfold qU;rw [Z1 hi];dsimp only
    by_cases q1:srt[i]<0
    ·have q4: ¬ 0≤srt[i]:=by omega
     simp [q1,q4]
    ·by_cases q2:cols≤srt[i]
     ·have q3: ¬ srt[i]<cols:=by omega
      simp [q1,q2,q3]
     ·have q3:srt[i]<cols:=by omega
      have q4:0≤srt[i]:=by omega
      rw [if_neg (by simp [q1]),if_neg (by simp [q2])];rcases Zc ((srt.take i).contains srt[i]) with hq|hq<;>simp only [hq,decide_eq_true q3,decide_eq_true q4]<;>rfl
   refine qi (fun i=>(i:Int)) srt.length (qU cols srt) 1 (kZ cols l) rfl (fun i hi hg=> ?_) (fun i hi hg=> ?_) ?_
   ·rw [hb i hi,hg];rfl
   ·rw [hb i hi,hg];rfl
   ·simp only [nH]
    rw [if_neg (by simp)]
  ·rfl
 unfold qL tB;simp only [h1,h2]
 by_cases q1:cols<1
 ·simp [q1]
 ·by_cases q2:8<cols
  ·simp [q1,q2]
  ·simp only [q1,q2,decide_false,Bool.false_eq_true,if_false,or_self]
   cases qV cols srt<;>simp
structure pB (cols:Int) (srt:List Int) (l:List aa):Prop where
 co:1≤cols∧cols≤8
 so:qV cols srt=true
 le:l.length≤4096
 ro:oU cols l=true
theorem Rw {cols:Int} {srt:List Int} {l:List aa}:tB cols srt l=0↔pB cols srt l:=by
 unfold tB;constructor
 ·intro h
  by_cases c1:cols<1∨8<cols
  ·rw [if_pos c1] at h;cases h
  ·rw [if_neg c1] at h
   cases c2:qV cols srt with
   |false=>rw [c2] at h;cases h
   | true =>
    rw [c2,if_pos rfl] at h
    by_cases c3:4096<l.length
    ·rw [if_pos c3] at h;cases h
    ·rw [if_neg c3] at h
     cases c4:oU cols l with
     |false=>rw [c4] at h;cases h
     |true=>exact ⟨by omega,c2,by omega,c4⟩
 ·intro h
  have h1:=h.co;have h2:=h.le;rw [if_neg (by omega),h.so,if_pos rfl,if_neg (by omega),h.ro,if_pos rfl]
theorem pB.ver {cols:Int} {srt:List Int} {l:List aa} (h:pB cols srt l): ∀v∈l,rS cols v=true:=by
 intro v hv;obtain ⟨i,hi,rfl⟩:=Zf hv;have h1:=Zj.1 h.ro i (Zn.2 hi);unfold pU at h1;rw [Z1 hi] at h1;simp only [Zi] at h1;exact h1.1
theorem qj {cols:Int} {v:aa} (hv:mq v) (h:rS cols v=true):(∀x∈v.fRow,Rgt x)∧(v.fRow.length:Int)=cols∧1≤v.fId.fEpoch∧v.fId.fEpoch≤9223372036854775807∧(v.fDeleted=0∨v.fId.fEpoch<v.fDeleted∧v.fDeleted≤9223372036854775807):=by
 unfold rS at h;simp only [Zi,decide_eq_true_eq,Ze,Zp,Zq,decide_eq_false_iff_not,Zj] at h;obtain ⟨h1,h2,h3,h4,h5⟩:=h;refine ⟨fun x hx=>Rgt.of (hv.row x hx) (h1 x hx),h2,h3,h4,?_⟩;rcases h5 with h5|h5
 ·left;simpa using h5
 ·right;omega
set_option linter.unusedVariables false
set_option linter.unusedSimpArgs false
structure CV (cols:Int) (l:List aa):Prop where
 co:1≤cols∧cols≤8
 le:l.length≤4096
 ok: ∀v∈l,mq v∧rS cols v=true
theorem CV.of {cols:Int} {srt:List Int} {l:List aa} (h:pB cols srt l) (hv: ∀v∈l,mq v):CV cols l:=⟨h.co,h.le,fun v hm=>⟨hv v hm,h.ver v hm⟩⟩
theorem CV.mem {cols:Int} {l l':List aa} (h:CV cols l) (hl:l'.length=l.length) (hm: ∀v∈l',v∈l):CV cols l':=⟨h.co,by rw [hl];exact h.le,fun v hv=>h.ok v (hm v hv)⟩
def fY (cols:Int) (n:Nat) (v:aa):Ap:=
 if (n:Int)<cols then v.fRow.getD n kK else if (n:Int)=cols then iA v.fId.fEpoch else if (n:Int)=cols+1 then iA v.fId.fNumber else iA v.fDeleted
def kf (cols:Int) (n:Nat) (l:List aa):List Ap:=l.map (fY cols n)
theorem Er {cols:Int} {l:List aa} (h:CV cols l) {v:aa} (hv:v∈l) (n:Nat):Rgt (fY cols n v):=by
 obtain ⟨h1,h2⟩:=h.ok v hv;obtain ⟨h3,h4,h5,h6,h7⟩:=qj h1 h2;unfold fY;split
 ·have hn:n<v.fRow.length:=by omega
  have:v.fRow.getD n kK=v.fRow[n]:=by simp [hn]
  rw [this];exact h3 _ (Z9 hn)
 ·have hd:=h1.de
  have hn:=h1.nu;split
  ·exact Rgt.int _ (by unfold cT;omega)
  ·split
   ·exact Rgt.int _ (by unfold cT;omega)
   ·exact Rgt.int _ (by unfold cT;omega)
theorem Es {cols:Int} {n:Nat} {l:List aa} {f:List Ap×Int→Option ((List Ap×Int)⊕List Ap)} (hl:l.length≤4096)
  (step: ∀(i:Nat) (h:i<l.length) (x:List Ap),x.length=i→f (x,(i:Int))=some (.inl (x++[fY cols n l[i]],((i+1:Nat):Int)))) (fin: ∀x,f (x,(l.length:Int))=some (.inr x)):aq f ([],0)=some (kf cols n l):=by
 refine gX (fun i=>((l.take i).map (fY cols n),(i:Int))) l.length (by simp) (fun i hi=> ?_) ?_
 ·show f ((l.take i).map (fY cols n),(i:Int))=_
  rw [step i hi _ (by simp;omega),iE hi,Za]
  rfl
 ·show f ((l.take l.length).map (fY cols n),(l.length:Int))=_
  rw [fin,Zd];rfl
theorem Hc {cols:Int} {n:Nat} {l:List aa} (h:CV cols l) (hn:(n:Int)<cols+3):j6 cols (n:Int) l=some (kf cols n l):=by
 have hle:=h.le;have hco:=h.co;unfold j6;refine Es hle (fun i hi x hx=> ?_) (fun x=> ?_)
 ·obtain ⟨h1,h2⟩:=h.ok _ (Z9 hi)
  obtain ⟨h3,h4,h5,h6,h7⟩:=qj h1 h2;have hd:=h1.de;have hnu:=h1.nu;simp only [mF,eo,Z0];have hj: ∀z,f8 (i:Int) z=some (.inl (z,((i+1:Nat):Int))):=fun z=>by unfold f8;rw [ak (by omega)];rfl
  have ha: ∀y:Ap,app 3518437208883 x [y]=some (x++[y]):=fun y=>aF (by simp;omega);rw [if_pos (by simpa using hi),ay hi,Z0,ak (n:=(n:Int) - cols) (by omega)];simp only [ha,Z0,hj];unfold fY
  by_cases c1:(n:Int)=cols
  ·rw [if_pos (by simp;omega),if_neg (by omega),if_pos c1,ak (by omega)]
  ·rw [if_neg (by simp;omega)]
   by_cases c2:(n:Int)=cols+1
   ·rw [if_pos (by simp;omega),if_neg (by omega),if_neg c1,if_pos c2,ak (by omega)]
   ·rw [if_neg (by simp;omega)]
    by_cases c3:(n:Int)=cols+2
    ·rw [if_pos (by simp;omega),if_neg (by omega),if_neg c1,if_neg c2,ak (by omega)]
    ·have hr:n<l[i].fRow.length:=by omega
     rw [if_neg (by simp;omega),if_pos (by omega),ay hr,Z0];simp [hr]
 ·simp only [mF]
  rw [if_neg (by simp)];rfl
theorem FF {cols:Int} {n:Nat} {l:List aa} (h:CV cols l) (hn:(n:Int)<cols+3):sF cols (n:Int) l=some (kf cols n l):=by
 have hle:=h.le;have hco:=h.co;unfold sF;refine Es hle (fun i hi x hx=> ?_) (fun x=> ?_)
 ·obtain ⟨h1,h2⟩:=h.ok _ (Z9 hi)
  obtain ⟨h3,h4,h5,h6,h7⟩:=qj h1 h2;have hd:=h1.de;have hnu:=h1.nu;simp only [rH];have hj: ∀z,j8 (i:Int) z=some (.inl (z,((i+1:Nat):Int))):=fun z=>by unfold j8;rw [ak (by omega)];rfl
  have ha: ∀y:Ap,app 3518437208883 x [y]=some (x++[y]):=fun y=>aF (by simp;omega);rw [if_pos (by simpa using hi),ay hi,Z0,ak (n:=cols+1) (by omega)];simp only [ha,Z0,hj];unfold fY
  by_cases c0:(n:Int)<cols
  ·have hr:n<l[i].fRow.length:=by omega
   rw [if_pos (by simpa using c0),if_pos c0,ay hr,Z0];simp [hr]
  ·rw [if_neg (by simpa using c0),if_neg c0]
   by_cases c1:(n:Int)=cols
   ·rw [if_pos (by simpa using c1),if_pos c1,ak (by omega)]
   ·rw [if_neg (by simpa using c1),if_neg c1]
    by_cases c2:(n:Int)=cols+1
    ·rw [if_pos (by simpa using c2),if_pos c2,ak (by omega)]
    ·rw [if_neg (by simpa using c2),if_neg c2,ak (by omega)]
 ·simp only [rH]
  rw [if_neg (by simp)];rfl
def cN (l:List Ap) (i:Nat):List Ap:=(l.drop (64*i)).take 64
def gY (l:List Ap):Nat:=(l.length+63)/64
def i9 (l:List Ap):List (List Ap):=(Z8 (gY l)).map (cN l)
theorem oV (i:Nat):Z8 (i+1)=Z8 i++[i]:=List.range_succ
theorem Df {l:List Ap} {i:Nat} (hi:i<gY l) (hl:l.length≤4096):(l.take (min l.length (64*i+64))).drop (64*i)=cN l i:=by
 unfold cN gY at*;rw [List.drop_take];rcases Nat.le_total l.length (64*i+64) with h|h
 ·rw [Nat.min_eq_left h,Z4 (by simp),Z4 (by simp;omega)]
 ·rw [Nat.min_eq_right h]
  congr 1;omega
theorem I6 {l:List Ap} (hl:l.length≤4096):gV l 64=some (i9 l):=by
 unfold gV;rw [if_neg (by simp)];unfold ia fI fU
 have:aq (fun s:Int×List (List Ap)=>cF (fun (s:List (List Ap)) x=>some (s++[x],true)) l 64 s.1 s.2) (0,[])=some (i9 l):=by
  refine gX (fun i=>(((64*i:Nat):Int),(Z8 i).map (cN l))) (gY l) (by simp) (fun i hi=> ?_) ?_
  ·have hlt:64*i<l.length:=by unfold gY at hi;omega
   simp only [cF]
   have h1:sub l ((64*i:Nat):Int) (l.length:Int)=some (l.drop (64*i)):=by
    have:=ef (xs:=l) (lo:=64*i) (hi:=l.length) (by omega) (Zl _);rwa [Zd] at this
   have h2:sub l ((64*i:Nat):Int) (Zo.wrap (((64*i:Nat):Int)+(if ((l.drop (64*i)).length:Int)<64 then ((l.drop (64*i)).length:Int) else 64)))=some (cN l i):=by
    have e:Zo.wrap (((64*i:Nat):Int)+(if ((l.drop (64*i)).length:Int)<64 then ((l.drop (64*i)).length:Int) else 64))=((min l.length (64*i+64):Nat):Int):=by
     rw [X6];split<;>rw [ak (by omega)]<;>omega
    rw [e,ef (by omega) (by omega),Df hi hl]
   rw [if_pos (by simp;omega),h1,Z0,h2,Z0,Z0,if_neg (by simp),ak (by omega),oV,Za];congr 2
  ·have hge:l.length≤64*gY l:=by unfold gY;omega
   simp only [cF];rw [if_neg (by simp;omega)];rfl
 rw [this];rfl
def ym (kind:Int) (p:List Ap):Int:=if (enc kind p).2=0 then kind else -1
def fi (kind:Int) (p:List Ap):List Int:=(wr (ym kind p) p).1
def pV (kind:Int) (l:List Ap):List Int:=((i9 l).map (fi kind)).flatten
theorem xk {kind:Int} {p:List Ap} (h: ∀v∈p,VOK v):Byt (fi kind p)∧(fi kind p).length≤100000:=by
 unfold fi
 by_cases hw:(wr (ym kind p) p).2=0
 ·exact GY h hw
 ·have:(wr (ym kind p) p).1=[]:=by
   unfold wr at hw ⊢;split
   ·rfl
   ·rename_i h1
    rw [if_neg h1] at hw;split
    ·rfl
    ·rename_i h2;rw [if_neg h2] at hw;exact absurd rfl hw
  rw [this];exact ⟨fun c hc=>by simp at hc,by simp⟩
theorem rT {l:List Ap} {i:Nat} {v:Ap} (h:v∈cN l i):v∈l:=List.mem_of_mem_drop (List.mem_of_mem_take h)
theorem yn (l:List Ap) (i:Nat):(cN l i).length≤64:=by unfold cN;simp;omega
theorem wA {kind:Int} {l:List Ap} (h: ∀v∈l,VOK v): ∀k,Byt ((((Z8 k).map (cN l)).map (fi kind)).flatten)∧((((Z8 k).map (cN l)).map (fi kind)).flatten).length≤100000*k:=by
 intro k
 induction k with
 |zero=>exact ⟨fun c hc=>by simp at hc,by simp⟩
 |succ k ih=>
  have hb:=xk (kind:=kind) (p:=cN l k) (fun v hv=>h v (rT hv));rw [oV,Za,Za,Zm];simp only [Xa,List.map_nil,List.flatten_singleton];refine ⟨fun c hc=> ?_,by rw [Z2];omega⟩;rcases List.mem_append.1 hc with hc|hc
  ·exact ih.1 c hc
  ·exact hb.1 c hc
theorem uS {kind:Int} {l:List Ap} (h: ∀v∈l,VOK v) (hl:l.length≤4096):Byt (pV kind l)∧(pV kind l).length≤6400000:=by
 have:=wA (kind:=kind) h (gY l);refine ⟨this.1,Nat.le_trans this.2 ?_⟩;unfold gY;omega
theorem Hd {kind:Int} {l:List Ap} (h: ∀v∈l,VOK v) (hl:l.length≤4096):j7 kind l=some (pV kind l):=by
 have hstep: ∀(out:List Int) (p:List Ap),(∀v∈p,VOK v)→p.length≤64→out.length≤10000000→eN kind out p=some (out++fi kind p,true):=by
  intro out p hp hpl ho;have hb:=(xk (kind:=kind) hp).2
  have hj: ∀k,(wr k p).1.length≤100000→f9 out p k=some (out++(wr k p).1,true):=fun k hk=>by
   unfold f9;rw [IP k hp (by omega),Z0,aF (by omega),Z0]
  simp only [eN,qK];rw [sM kind hp (by omega),Z0,Z0];unfold fi ym at*
  by_cases hc:(enc kind p).2=0
  ·rw [if_pos hc] at hb ⊢
   rw [if_neg (by simp [hc]),hj _ hb]
  ·rw [if_neg hc] at hb ⊢
   rw [if_pos (by simp [hc]),hj _ hb]
 unfold j7;rw [I6 hl,Z0]
 have key: ∀(k i:Nat),i+k=gY l→fy (fun (s:List Int) (x:List Ap)=>eN kind s x) ((((Z8 i).map (cN l)).map (fi kind)).flatten) ((List.range' i k).map (cN l))=some (pV kind l,true):=by
  intro k
  induction k with
  |zero=>
   intro i hi;obtain rfl:i=gY l:=by omega
   rfl
  | succ k ih =>
   intro i hi;rw [List.range'_succ,Xa];have hb:=wA (kind:=kind) h i;have hi':i<64:=by unfold gY at hi;omega
   simp only [fy];rw [hstep _ _ (fun v hv=>h v (rT hv)) (yn l i) (by omega),Z0,if_pos rfl]
   have e:(((Z8 i).map (cN l)).map (fi kind)).flatten++fi kind (cN l i)=(((Z8 (i+1)).map (cN l)).map (fi kind)).flatten:=by
    rw [oV,Za,Za,Zm];simp
   rw [e];exact ih (i+1) (by omega)
 have:=key (gY l) 0 (by omega);rw [←List.range_eq_range'] at this;have h0:(((Z8 0).map (cN l)).map (fi kind)).flatten=[]:=rfl;rw [h0] at this;unfold i9;rw [this,Z0,if_pos rfl]
theorem FG {kind:Int} {l:List Ap} (h: ∀v∈l,VOK v) (hl:l.length≤4096):sG kind l=some (pV kind l):=by
 unfold sG;refine gX (fun i=>((((Z8 i).map (cN l)).map (fi kind)).flatten,((64*i:Nat):Int))) (gY l) (by simp) (fun i hi=> ?_) ?_
 ·have hlt:64*i<l.length:=by unfold gY at hi;omega
  have hb:=wA (kind:=kind) h i;have hp: ∀v∈cN l i,VOK v:=fun v hv=>h v (rT hv);have hpl:=yn l i;have hbb:=(xk (kind:=kind) hp).2;have hi':i<64:=by omega
  have h2:sub l ((64*i:Nat):Int) (if (l.length:Int)<Zo.wrap (((64*i:Nat):Int)+64) then (l.length:Int) else Zo.wrap (((64*i:Nat):Int)+64))=some (cN l i):=by
   have e:(if (l.length:Int)<Zo.wrap (((64*i:Nat):Int)+64) then (l.length:Int) else Zo.wrap (((64*i:Nat):Int)+64))=((min l.length (64*i+64):Nat):Int):=by
    rw [ak (by omega)];split<;>omega
   rw [e,ef (by omega) (by omega),Df hi hl]
  have e:(((Z8 i).map (cN l)).map (fi kind)).flatten++fi kind (cN l i)=(((Z8 (i+1)).map (cN l)).map (fi kind)).flatten:=by
   rw [oV,Za,Za,Zm];simp
  have hj: ∀k,(wr k (cN l i)).1.length≤100000→oM ((((Z8 i).map (cN l)).map (fi kind)).flatten) ((64*i:Nat):Int) (cN l i) k=some (.inl ((((Z8 i).map (cN l)).map (fi kind)).flatten++(wr k (cN l i)).1,((64*(i+1):Nat):Int))):=fun k hk=>by
   unfold oM;rw [G2 k hp (by omega),Z0,aF (by omega),Z0,ak (by omega)]
   rfl
  simp only [rI];rw [if_pos (by simp;omega),h2,Z0,qt kind hp (by omega),Z0, ←e];unfold fi ym at*
  by_cases hc:(enc kind (cN l i)).2=0
  ·rw [if_pos hc] at hbb ⊢
   rw [if_neg (by simp [hc]),hj _ hbb]
  ·rw [if_neg hc] at hbb ⊢
   rw [if_pos (by simp [hc]),hj _ hbb]
 ·have hge:l.length≤64*gY l:=by unfold gY;omega
  simp only [rI];rw [if_neg (by simp;omega)];rfl
set_option linter.unusedVariables false
set_option linter.unusedSimpArgs false
theorem Ah {b:List Int} {n:Int} (h:b.length≤1000000000):iX b n=some (b++be4 n):=by
 unfold iX;have e1:aA .i64 n 24=n/2^24:=Ft (k:=24) (by decide);have e2:aA .i64 n 16=n/2^16:=Ft (k:=16) (by decide);have e3:aA .i64 n 8=n/2^8:=Ft (k:=8) (by decide);rw [aF (by simp;omega),Z0,e1,e2,e3,bh,bh,bh,bh]
 rfl
def lI (cols:Int) (srt:List Int):List Int:=[72,65,89,49,Xd.wrap cols,Xd.wrap (srt.length:Int)]
def nmB (cols:Int) (srt:List Int) (m:Int):List Int:=lI cols srt++srt.map Xd.wrap++be4 m
def gl (cols:Int) (kinds:List Int) (n:Nat):Int:=if (n:Int)<cols∧n<kinds.length then kinds.getD n 0 else -1
def lx (cols:Int) (kinds:List Int) (T:List aa) (n:Nat):List Int:=
 be4 ((pV (gl cols kinds n) (kf cols n T)).length:Int)++pV (gl cols kinds n) (kf cols n T)
def dY (cols:Int) (kinds:List Int) (T:List aa) (k:Nat):List Int:=((Z8 k).map (lx cols kinds T)).flatten
def iC (cols:Int) (srt kinds:List Int) (T:List aa):List Int:=nmB cols srt (T.length:Int)++dY cols kinds T (cols+3).toNat
def nS (cols:Int) (srt kinds:List Int) (T:List aa):List Int:=iC cols srt kinds T++be4 (lw (iC cols srt kinds T))
theorem wB (cols:Int) (kinds:List Int) (T:List aa) (k:Nat):dY cols kinds T (k+1)=dY cols kinds T k++lx cols kinds T k:=by
 unfold dY;rw [oV,Za,Zm];simp
theorem xn {cols:Int} {n:Nat} {T:List aa} (h:CV cols T):(∀v∈kf cols n T,VOK v)∧(kf cols n T).length≤4096:=by
 refine ⟨fun v hv=> ?_,by unfold kf;simpa using h.le⟩;obtain ⟨x,hx,rfl⟩:=Xb.1 hv;exact (Er h hx n).ok
theorem Dg (n:Int):0≤Xd.wrap n∧Xd.wrap n<256:=by rw [bh];omega
theorem t7 {a b:List Int} (ha:Byt a) (hb:Byt b):Byt (a++b):=fun c hc=>by
 rcases List.mem_append.1 hc with hc|hc
 ·exact ha c hc
 ·exact hb c hc
theorem Et {cols:Int} {kinds:List Int} {T:List aa} (h:CV cols T) (n:Nat):Byt (lx cols kinds T n)∧(lx cols kinds T n).length≤6400004:=by
 obtain ⟨h1,h2⟩:=xn (n:=n) h;obtain ⟨h3,h4⟩:=uS (kind:=gl cols kinds n) h1 h2;unfold lx;exact ⟨t7 (Ad _) h3,by rw [Z2,dN];omega⟩
theorem uT {cols:Int} {kinds:List Int} {T:List aa} (h:CV cols T): ∀k,Byt (dY cols kinds T k)∧(dY cols kinds T k).length≤6400004*k:=by
 intro k
 induction k with
 |zero=>exact ⟨fun c hc=>by simp [dY] at hc,by simp [dY]⟩
 |succ k ih=>
  have hs:=Et (kinds:=kinds) h k;rw [wB];exact ⟨t7 ih.1 hs.1,by rw [Z2];omega⟩
theorem L5 (cols:Int) (srt:List Int) (m:Int):Byt (nmB cols srt m):=by
 unfold nmB lI;refine t7 (t7 ?_ ?_) (Ad m)
 ·intro c hc
  have h1:=Dg cols;have h2:=Dg (srt.length:Int);simp only [X9,List.not_mem_nil,or_false] at hc;rcases hc with rfl|rfl|rfl|rfl|rfl|rfl<;>omega
 ·intro c hc
  obtain ⟨x,_,rfl⟩:=Xb.1 hc;exact Dg x
theorem Dh (cols:Int) (srt:List Int) (m:Int):(nmB cols srt m).length=10+srt.length:=by
 unfold nmB lI;simp [dN];omega
theorem Ai {cols:Int} {srt kinds:List Int} {T:List aa} (h:CV cols T) (hs:srt.length≤1048576):Byt (iC cols srt kinds T)∧(iC cols srt kinds T).length≤100000000:=by
 have h1:=uT (kinds:=kinds) h (cols+3).toNat;have hco:=h.co;have hn:=Dh cols srt (T.length:Int);unfold iC;refine ⟨t7 (L5 _ _ _) h1.1,?_⟩;rw [Z2,hn];have:(cols+3).toNat≤11:=by omega
 have:6400004*(cols+3).toNat≤6400004*11:=Nat.mul_le_mul_left _ this;omega
theorem KJ {cols:Int} {srt kinds:List Int} {T:List aa} (h:CV cols T) (hs:srt.length≤1048576) (hk:kinds.length≤1048576):
  aq (fun s:(List Int×Int)=>gA cols kinds T s.1 s.2) (nmB cols srt (T.length:Int),0)=some (nS cols srt kinds T,0):=by
 have hco:=h.co;have hbod:=Ai (srt:=srt) (kinds:=kinds) h hs;have hnm:=Dh cols srt (T.length:Int);refine gX (fun n=>(nmB cols srt (T.length:Int)++dY cols kinds T n,(n:Int))) (cols+3).toNat (by simp [dY]) (fun n hn=> ?_) ?_
 ·have hss:=uT (kinds:=kinds) h n
  have hn11:n<11:=by omega
  have hlen:(nmB cols srt (T.length:Int)++dY cols kinds T n).length≤200000000:=by rw [Z2,hnm];omega
  obtain ⟨hv,hl⟩:=xn (n:=n) h;obtain ⟨hb1,hb2⟩:=uS (kind:=gl cols kinds n) hv hl
  have hj4:gy cols T (nmB cols srt (T.length:Int)++dY cols kinds T n) (n:Int) (gl cols kinds n)=some (.inl (nmB cols srt (T.length:Int)++dY cols kinds T (n+1),((n+1:Nat):Int))):=by
   unfold gy;rw [Hc h (by omega),Z0,Hd hv hl,Z0,Ah (by omega),Z0,aF (by rw [Z2,dN];omega),Z0,ak (by omega),wB];unfold lx;simp only [Z7]
   rfl
  have hj3: ∀b,(b=true↔n<kinds.length)→(n:Int)<cols→fg cols kinds T (nmB cols srt (T.length:Int)++dY cols kinds T n) (n:Int) b=some (.inl (nmB cols srt (T.length:Int)++dY cols kinds T (n+1),((n+1:Nat):Int))):=by
   intro b hb hc;unfold fg;cases b with
   |true=>
    have hlt:=hb.1 rfl;rw [if_pos rfl,ay hlt,Z0];have:gl cols kinds n=kinds[n]:=by unfold gl;rw [if_pos ⟨hc,hlt⟩];simp [hlt]
    rw [←this,hj4]
   | false =>
    rw [if_neg (by simp)]
    have:gl cols kinds n= -1:=by
     unfold gl;rw [if_neg (fun hh=>by have:=hb.2 hh.2;cases this)]
    rw [←this,hj4]
  simp only [gA];rw [ak (by omega),if_pos (by simp;omega)]
  by_cases hc:(n:Int)<cols
  ·rw [if_pos (by simpa using hc)]
   exact hj3 _ (by simp) hc
  ·rw [if_neg (by simpa using hc)]
   unfold fg;rw [if_neg (by simp)];have:gl cols kinds n= -1:=by unfold gl;rw [if_neg (fun hh=>hc hh.1)]
   rw [←this,hj4]
 ·simp only [gA]
  rw [ak (by omega),if_neg (by simp;omega)];show (iY (iC cols srt kinds T)).map Sum.inr=_;unfold iY;obtain ⟨h1,h2⟩:=wt (b:=iC cols srt kinds T) (by omega);unfold U32 at h2;rw [h1,Z0,ak (by omega),Ah (by omega)]
  rfl
theorem I7 {cols:Int} {srt kinds:List Int} {T:List aa} (h:CV cols T) (hs:srt.length≤1048576) (hk:kinds.length≤1048576):
  aq (fun s:(List Int×Int)=>pS cols kinds T s.1 s.2) (nmB cols srt (T.length:Int),0)=some (nS cols srt kinds T,0):=by
 have hco:=h.co;have hbod:=Ai (srt:=srt) (kinds:=kinds) h hs;have hnm:=Dh cols srt (T.length:Int);refine gX (fun n=>(nmB cols srt (T.length:Int)++dY cols kinds T n,(n:Int))) (cols+3).toNat (by simp [dY]) (fun n hn=> ?_) ?_
 ·have hss:=uT (kinds:=kinds) h n
  have hn11:n<11:=by omega
  have hlen:(nmB cols srt (T.length:Int)++dY cols kinds T n).length≤200000000:=by rw [Z2,hnm];omega
  obtain ⟨hv,hl⟩:=xn (n:=n) h;obtain ⟨hb1,hb2⟩:=uS (kind:=gl cols kinds n) hv hl
  have hj4:pR cols T (nmB cols srt (T.length:Int)++dY cols kinds T n) (n:Int) (gl cols kinds n)=some (.inl (nmB cols srt (T.length:Int)++dY cols kinds T (n+1),((n+1:Nat):Int))):=by
   unfold pR;rw [FF h (by omega),Z0,FG hv hl,Z0,bA,Zb (by omega) (by omega),qS (by omega),Z0,aF (by rw [dN];omega),Z0,aF (by rw [Z2,dN];omega),Z0,ak (by omega),wB];unfold lx;simp only [Z7]
   rfl
  have hj3: ∀b,(b=true↔n<kinds.length)→(n:Int)<cols→mZ cols kinds T (nmB cols srt (T.length:Int)++dY cols kinds T n) (n:Int) b=some (.inl (nmB cols srt (T.length:Int)++dY cols kinds T (n+1),((n+1:Nat):Int))):=by
   intro b hb hc;unfold mZ;cases b with
   |true=>
    have hlt:=hb.1 rfl;rw [if_pos rfl,ay hlt,Z0];have:gl cols kinds n=kinds[n]:=by unfold gl;rw [if_pos ⟨hc,hlt⟩];simp [hlt]
    rw [←this,hj4]
   | false =>
    rw [if_neg (by simp)]
    have:gl cols kinds n= -1:=by
     unfold gl;rw [if_neg (fun hh=>by have:=hb.2 hh.2;cases this)]
    rw [←this,hj4]
  simp only [pS];rw [ak (by omega),if_pos (by simp;omega)]
  by_cases hc:(n:Int)<cols
  ·rw [if_pos (by simpa using hc)]
   exact hj3 _ (by simp) hc
  ·rw [if_neg (by simpa using hc)]
   unfold mZ;rw [if_neg (by simp)];have:gl cols kinds n= -1:=by unfold gl;rw [if_neg (fun hh=>hc hh.1)]
   rw [←this,hj4]
 ·simp only [pS]
  rw [ak (by omega),if_neg (by simp;omega)];show (tq (iC cols srt kinds T)).map Sum.inr=_;unfold tq;obtain ⟨h1,h2⟩:=wt (b:=iC cols srt kinds T) (by omega);unfold U32 at h2;rw [Eo hbod.1 (by omega),Z0,bA,Zb (by omega) (by omega),qS (by omega),Z0,aF (by rw [dN];omega)]
  rfl
theorem Be {cols:Int} {srt kinds:List Int} {l:List aa} (hs:srt.length≤1048576) (hk:kinds.length≤1048576) (hv: ∀v∈l,mq v):
  (tB cols srt l≠0∧eY cols srt kinds l=some ([],tB cols srt l)∧pn cols srt kinds l=some ([],tB cols srt l))∨
  (pB cols srt l∧ ∃T,Stb (qlt srt) l T∧CV cols T∧eY cols srt kinds l=some (nS cols srt kinds T,0)∧pn cols srt kinds l=some (nS cols srt kinds T,0)):=by
 unfold eY pn;rw [uR hs hv,KI hs hv,Z0,Z0]
 by_cases hr:tB cols srt l=0
 ·right
  have hA:=Rw.1 hr;have hle:=hA.le;have hrk:Rok l:=fun v hm=>(hv v hm).len;obtain ⟨T,h1,h2⟩:=Bd (cs:=srt) (xs:=l) hs (by omega) hrk;obtain ⟨T',h3,h4⟩:=C9 (cs:=srt) (xs:=l) hs (by omega);obtain rfl:=h4.unique (ie srt) h2;have hT:CV cols T':=(CV.of hA hv).mem (h2.len (ie srt)) (fun v hm=>(h2.mem (ie srt)).1 hm);have hTl:=h2.len (ie srt);refine ⟨hA,T',h2,hT,?_,?_⟩
  ·rw [if_neg (by simp [hr]),h1,Z0,aF (by simp),Z0]
   refine (gX (fun i=>(lI cols srt++(srt.take i).map Xd.wrap,(i:Int))) srt.length (by simp [lI]) (fun i hi=> ?_) (b:=iZ cols kinds T' (lI cols srt++srt.map Xd.wrap)) ?_).trans ?_
   ·simp only [i6]
    rw [if_pos (by simpa using hi),ay hi,Z0,aF (by simp [lI];omega),Z0,ak (by omega),iE hi,Za];simp only [Z7]
    rfl
   ·simp only [i6]
    rw [if_neg (by simp),Zd]
   ·unfold iZ
    rw [Ah (by simp [lI];omega),Z0];exact KJ hT hs hk
  ·rw [if_neg (by simp [hr]),h3,Z0]
   refine (gX (fun i=>(lI cols srt++(srt.take i).map Xd.wrap,(i:Int))) srt.length (by simp [lI]) (fun i hi=> ?_) (b:=tu cols kinds l T' (lI cols srt++srt.map Xd.wrap)) ?_).trans ?_
   ·simp only [tw]
    rw [if_pos (by simpa using hi),ay hi,Z0,aF (by simp [lI];omega),Z0,ak (by omega),iE hi,Za];simp only [Z7]
    rfl
   ·simp only [tw]
    rw [if_neg (by simp),Zd]
   ·unfold tu
    rw [bA,Zb (by omega) (by omega),qS (by omega),Z0,aF (by simp [lI,dN];omega),Z0];have:=I7 (srt:=srt) (kinds:=kinds) hT hs hk;rw [hTl] at this;exact this
 ·left
  exact ⟨hr,by rw [if_pos (by simpa using hr)],by rw [if_pos (by simpa using hr)]⟩
set_option linter.unusedVariables false
set_option linter.unusedSimpArgs false
theorem orS {a b:Nat} (k:Nat) (hb:b<2^k) (h:2^k*a+b<4294967296):bOr .i64 ((2^k*a:Nat):Int) (b:Int)=((2^k*a+b:Nat):Int):=by
 unfold bOr
 have h1:(Xc Zo.bits ((2^k*a:Nat):Int)).toNat=2^k*a:=by
  show (Xc 64 ((2^k*a:Nat):Int)).toNat=2^k*a;rw [BitVec.toNat_ofInt];omega
 have h2:(Xc Zo.bits (b:Int)).toNat=b:=by
  show (Xc 64 (b:Int)).toNat=b;rw [BitVec.toNat_ofInt];omega
 rw [BitVec.toNat_or,h1,h2, ←Nat.two_pow_add_eq_or_of_lt hb,ak (by omega)]
theorem shI {a:Nat} (k:Nat) (hk:k≤24) (ha:a<256):eh .i64 (a:Int) (k:Int)=((2^k*a:Nat):Int):=by
 unfold eh;have e:min ((k:Int)).toNat Zo.bits=k:=by simp [IntKind.bits];omega
 have h2:2^k≤2^24:=Nat.pow_le_pow_right (by decide) hk;have h3:2^k*a≤2^24*255:=Nat.mul_le_mul h2 (by omega);rw [e,show (a:Int)*2^k=((2^k*a:Nat):Int) by rw [Nat.mul_comm];push_cast;rfl,ak (by omega)]
theorem FH {a b c d:Int} {t:List Int} (ha:0≤a∧a<256) (hb:0≤b∧b<256) (hc:0≤c∧c<256) (hd:0≤d∧d<256):d3 (a::b::c::d::t)=some (ej [a,b,c,d]):=by
 have e0:idx (a::b::c::d::t) 0=some a:=ay (xs:=a::b::c::d::t) (i:=0) (by simp);have e1:idx (a::b::c::d::t) 1=some b:=ay (xs:=a::b::c::d::t) (i:=1) (by simp);have e2:idx (a::b::c::d::t) 2=some c:=ay (xs:=a::b::c::d::t) (i:=2) (by simp);have e3:idx (a::b::c::d::t) 3=some d:=ay (xs:=a::b::c::d::t) (i:=3) (by simp);unfold d3;rw [e0,Z0,e1,Z0,e2,Z0,e3,Z0,ak (by omega),ak (by omega),ak (by omega),ak (by omega)];obtain ⟨a,rfl⟩:=Zh ha.1;obtain ⟨b,rfl⟩:=Zh hb.1;obtain ⟨c,rfl⟩:=Zh hc.1;obtain ⟨d,rfl⟩:=Zh hd.1;have s1:=shI (a:=a) 24 (by omega) (by omega);have s2:=shI (a:=b) 16 (by omega) (by omega)
 have s3:=shI (a:=c) 8 (by omega) (by omega);rw [show ((24:Nat):Int)=24 from rfl] at s1;rw [show ((16:Nat):Int)=16 from rfl] at s2;rw [show ((8:Nat):Int)=8 from rfl] at s3;rw [s1,s2,s3,orS 24 (by omega) (by omega),show 2^24*a+2^16*b=2^16*(2^8*a+b) by omega,orS 16 (by omega) (by omega),show 2^16*(2^8*a+b)+2^8*c=2^8*(2^8*(2^8*a+b)+c) by omega,orS 8 (by omega) (by omega)];unfold ej;simp only [List.foldl_cons,List.foldl_nil];congr 1;omega
theorem uU {n:Int} (h:U32 n) (t:List Int):d3 (be4 n++t)=some n:=by
 have:=IW h;unfold be4 at*;rw [Zs,Zs,Zs,Zs,FH (by omega) (by omega) (by omega) (by omega),this]
theorem He {kind:Int} {p:List Ap} (h: ∀v∈p,Rgt v) (hp:p≠[]) (hl:p.length≤64):(wr (ym kind p) p).2=0:=by
 have key: ∀k,(enc (ke k p) p).2=0→(wr k p).2=0:=fun k hk=>by
  unfold wr;rw [if_neg hp,if_neg (by simpa using hk)]
 apply key;unfold ym;split
 ·rename_i he
  unfold ke;rw [if_neg]
  ·exact he
  ·rintro rfl
   unfold enc at he;rw [if_pos (by omega)] at he;cases he
 ·unfold ke
  rw [if_pos rfl,Ss.1];unfold enc;have hr:p.all right=true:=Zj.2 fun v hv=>(h v hv).right;rw [if_neg (by omega),if_neg (by omega),if_neg (by simp [hr]),if_neg (fun hh=>by omega),if_neg hp]
theorem I8 {kind:Int} {p:List Ap} (h: ∀v∈p,Rgt v) (hp:p≠[]) (hl:p.length≤64) {t:List Int} (ht:Byt t) (htl:t.length≤900000000000):kD (fi kind p++t)=some (p,((fi kind p).length:Int),0):=by
 unfold fi;exact KC (fun v hv=>(h v hv).ok) (He h hp hl) ht htl
theorem KK {kind:Int} {p:List Ap} (h: ∀v∈p,Rgt v) (hp:p≠[]) (hl:p.length≤64):0<(fi kind p).length:=by
 unfold fi;obtain ⟨k,_,_,_,_,hw,_⟩:=C1 (fun v hv=>(h v hv).ok) (He (kind:=kind) h hp hl);rw [hw];unfold mp;simp [dN]
theorem Bf {kind:Int} {l:List Ap} {i:Nat} (hi:i<gY l):(((i9 l).drop i).map (fi kind)).flatten=fi kind (cN l i)++(((i9 l).drop (i+1)).map (fi kind)).flatten:=by
 have hc:i<(i9 l).length:=by unfold i9;simpa using hi
 rw [Z3 hc];have:(i9 l)[i]=cN l i:=by simp [i9]
 rw [this];rfl
theorem Hf {kind:Int} {l:List Ap} (h: ∀v∈l,VOK v) (hl:l.length≤4096): ∀k i:Nat,i+k=gY l→Byt ((((i9 l).drop i).map (fi kind)).flatten)∧((((i9 l).drop i).map (fi kind)).flatten).length≤100000*k:=by
 intro k
 induction k with
 |zero=>
  intro i hi;rw [Z6 (by unfold i9;simp;omega)];exact ⟨.nil,by simp⟩
 |succ k ih=>
  intro i hi;have hb:=xk (kind:=kind) (p:=cN l i) (fun v hv=>h v (rT hv));have:=ih (i+1) (by omega);rw [Bf (by omega)];exact ⟨hb.1.app this.1,by rw [Z2];omega⟩
theorem Hg {kind:Int} {l:List Ap} (h: ∀v∈l,Rgt v) (hl:l.length≤4096):iI (pV kind l) (l.length:Int)=some (l,true):=by
 unfold iI;have hv: ∀v∈l,VOK v:=fun v hv=>(h v hv).ok;refine gX (fun i=>((((i9 l).drop i).map (fi kind)).flatten,l.take (64*i))) (gY l) (by simp [pV]) (fun i hi=> ?_) ?_
 ·have hlt:64*i<l.length:=by unfold gY at hi;omega
  have hp: ∀v∈cN l i,Rgt v:=fun v hv=>h v (rT hv);have hpl:=yn l i;have hplen:(cN l i).length=min 64 (l.length - 64*i):=by unfold cN;simp
  have hne:cN l i≠[]:=fun e=>by rw [e] at hplen;simp at hplen;omega
  have hpos:=KK (kind:=kind) hp hne hpl;obtain ⟨hd1,hd2⟩:=Hf (kind:=kind) hv hl (gY l - (i+1)) (i+1) (by omega);have hcb:gY l≤64:=by unfold gY;omega
  have htl:(l.take (64*i)).length=64*i:=by simp;omega
  have ht:l.take (64*(i+1))=l.take (64*i)++cN l i:=by unfold cN;rw [←List.take_add];congr 1
  simp only [ir];rw [Bf hi,if_pos (by simp;omega),I8 hp hne hpl hd1 (by omega),Z0,if_neg (by simp),htl,ak (by omega)]
  have hm:(((cN l i).length:Int) != (if (l.length:Int) - ((64*i:Nat):Int)<64 then (l.length:Int) - ((64*i:Nat):Int) else 64))=false:=by
   rw [hplen];simp;split<;>omega
  dsimp only;rw [hm];unfold iq;rw [if_neg (by simp)];dsimp only;rw [aF (by rw [htl];omega),Z0,gB (by simp),Z0,X7,ht]
 ·have hge:l.length≤64*gY l:=by unfold gY;omega
  simp only [ir];rw [Z6 (by unfold i9;simp),if_neg (by simp),Z4 hge];unfold jO;simp
def tkV (cols:Int) (n:Nat) (v:aa):aa:=
 ⟨⟨if cols<(n:Int) then v.fId.fEpoch else 0,if cols+1<(n:Int) then v.fId.fNumber else 0⟩,v.fRow.take n,if cols+2<(n:Int) then v.fDeleted else 0⟩
theorem KL {cols:Int} (hc:1≤cols) (v:aa):tkV cols 0 v=aa.zero:=by
 unfold tkV;rw [if_neg (by omega),if_neg (by omega),if_neg (by omega)]
 rfl
theorem L6 {cols:Int} {v:aa} (hc:1≤cols) (h:(v.fRow.length:Int)=cols):tkV cols (cols+3).toNat v=v:=by
 unfold tkV;rw [if_pos (by omega),if_pos (by omega),if_pos (by omega),Z4 (by omega)]
theorem L7 {α:Type} {A B:List α} {x:α} {i:Nat} (h:A.length=i):(A++x::B)[i]? =some x:=by simp [←h]
theorem I9 {α:Type} {A B:List α} {x y:α} {i:Nat} (h:A.length=i):(A++x::B).set i y=A++y::B:=by simp [←h]
theorem Ja {cols:Int} {srt:List Int} {T:List aa} (h:CV cols T) {n:Nat} (hn:(n:Int)<cols+3):
  it ⟨cols,srt,[]⟩ (T.map (tkV cols n)) (n:Int) (kf cols n T)=some (true,T.map (tkV cols (n+1))):=by
 have hle:=h.le;have hco:=h.co;have hcl:(kf cols n T).length=T.length:=by simp [kf]
 unfold it;refine gX (fun i=>((i:Int),(T.take i).map (tkV cols (n+1))++(T.drop i).map (tkV cols n))) T.length (by simp) (fun i hi=> ?_) ?_
 ·obtain ⟨h1,h2⟩:=h.ok _ (Z9 hi)
  obtain ⟨h3,h4,h5,h6,h7⟩:=qj h1 h2;have hde:=h1.de;have hnu:=h1.nu;have hAl:((T.take i).map (tkV cols (n+1))).length=i:=by simp;omega
  obtain ⟨A,hA⟩: ∃A,A=(T.take i).map (tkV cols (n+1)):=⟨_,rfl⟩
  obtain ⟨B,hB⟩: ∃B,B=(T.drop (i+1)).map (tkV cols n):=⟨_,rfl⟩
  have hS:(T.take i).map (tkV cols (n+1))++(T.drop i).map (tkV cols n)=A++tkV cols n T[i]::B:=by
   rw [Z3 hi,Xa,hA,hB]
  have hS':(T.take (i+1)).map (tkV cols (n+1))++(T.drop (i+1)).map (tkV cols n)=A++tkV cols (n+1) T[i]::B:=by
   rw [iE hi,Za,hA,hB];simp
  have hAl':A.length=i:=by rw [hA];exact hAl
  have hx:(A++tkV cols n T[i]::B)[i]? =some (tkV cols n T[i]):=L7 hAl';have hset: ∀y,(A++tkV cols n T[i]::B).set i y=A++y::B:=fun y=>I9 hAl'
  have hc:idx (kf cols n T) (i:Int)=some (fY cols n T[i]):=by
   rw [ay (by omega)];simp [kf]
  show dS ⟨cols,srt,[]⟩ (n:Int) (kf cols n T) (i:Int) ((T.take i).map (tkV cols (n+1))++(T.drop i).map (tkV cols n))=some (.inl (((i+1:Nat):Int),(T.take (i+1)).map (tkV cols (n+1))++(T.drop (i+1)).map (tkV cols n)));rw [hS,hS'];unfold dS;rw [if_pos (by simp;omega),hc,Z0,nJ (by simp;omega),Z0]
  have h3': ∀z,dt (i:Int) z=some (.inl (((i+1:Nat):Int),z)):=fun z=>by
   unfold dt;rw [ak (by omega)];rfl
  have hj2 : dR ⟨cols, srt, []⟩ (n : Int) (i : Int) (A ++ tkV cols n T[i] :: B) (fY cols n T[i]) i false = some (.inl (((i + 1 : Nat) : Int), A ++ tkV cols (n + 1) T[i] :: B)) := by
   unfold dR;dsimp only;rw [if_neg (by simp),ak (by omega),hx];simp only [Z0,hset,h3']
   by_cases c1:(n:Int)=cols
   ·rw [if_pos (by simp;omega)]
    have hcell:fY cols n T[i]=iA T[i].fId.fEpoch:=by unfold fY;rw [if_neg (by omega),if_pos c1]
    rw [hcell,bA];unfold tkV;dsimp only [iA];rw [Zb (by omega) (by omega),Z4 (by omega),Z4 (by omega)];have a0:(cols<(n:Int))=False:=eq_false (by omega);have b0:(cols<((n+1:Nat):Int))=True:=eq_true (by omega);have a1:(cols+1<(n:Int))=False:=eq_false (by omega);have b1:(cols+1<((n+1:Nat):Int))=False:=eq_false (by omega);have a2:(cols+2<(n:Int))=False:=eq_false (by omega);have b2:(cols+2<((n+1:Nat):Int))=False:=eq_false (by omega);simp only [a0,b0,a1,b1,a2,b2,if_true,if_false]
   ·rw [if_neg (by simp; omega)]
    by_cases c2:(n:Int)=cols+1
    ·rw [if_pos (by simp;omega)]
     have hcell:fY cols n T[i]=iA T[i].fId.fNumber:=by unfold fY;rw [if_neg (by omega),if_neg c1,if_pos c2]
     rw [hcell,ln];unfold tkV;dsimp only [iA];rw [if_neg (by simp;omega),Zb (by omega) (by omega),Z4 (by omega),Z4 (by omega)];have a0:(cols<(n:Int))=True:=eq_true (by omega);have b0:(cols<((n+1:Nat):Int))=True:=eq_true (by omega);have a1:(cols+1<(n:Int))=False:=eq_false (by omega);have b1:(cols+1<((n+1:Nat):Int))=True:=eq_true (by omega);have a2:(cols+2<(n:Int))=False:=eq_false (by omega);have b2:(cols+2<((n+1:Nat):Int))=False:=eq_false (by omega);simp only [a0,b0,a1,b1,a2,b2,if_true,if_false]
    ·rw [if_neg (by simp;omega)]
     by_cases c3:(n:Int)=cols+2
     ·rw [if_pos (by simp;omega)]
      have hcell:fY cols n T[i]=iA T[i].fDeleted:=by unfold fY;rw [if_neg (by omega),if_neg c1,if_neg c2]
      rw [hcell,bA];unfold tkV;dsimp only [iA];rw [Zb (by omega) (by omega),Z4 (by omega),Z4 (by omega)];have a0:(cols<(n:Int))=True:=eq_true (by omega);have b0:(cols<((n+1:Nat):Int))=True:=eq_true (by omega);have a1:(cols+1<(n:Int))=True:=eq_true (by omega);have b1:(cols+1<((n+1:Nat):Int))=True:=eq_true (by omega);have a2:(cols+2<(n:Int))=False:=eq_false (by omega);have b2:(cols+2<((n+1:Nat):Int))=True:=eq_true (by omega);simp only [a0,b0,a1,b1,a2,b2,if_true,if_false]
     ·rw [if_neg (by simp;omega)]
      have hr:n<T[i].fRow.length:=by omega
      have e:T[i].fRow.take (n+1)=T[i].fRow.take n++[fY cols n T[i]]:=by
       unfold fY;rw [iE hr,if_pos (by omega)];simp [hr]
      have hxl:(tkV cols n T[i]).fRow.length≤1048576:=by
       have:=h1.len;unfold tkV;simp;omega
      rw [aF (by simp;omega),Z0]
      have:tkV cols (n+1) T[i]={ tkV cols n T[i] with fRow:=(tkV cols n T[i]).fRow++[fY cols n T[i]] }:=by
       unfold tkV;dsimp only;rw [e,if_neg (by omega),if_neg (by omega),if_neg (by omega),if_neg (by omega),if_neg (by omega),if_neg (by omega)]
      rw [this]
  by_cases hnc:cols≤(n:Int)
  ·rw [if_pos (by simpa using hnc)]
   have hk:(fY cols n T[i]).fKind=2∧0≤(fY cols n T[i]).fInt:=by
    unfold fY;rw [if_neg (by omega)];split
    ·exact ⟨rfl,by simp only [iA];omega⟩
    ·split
     ·exact ⟨rfl,by simp only [iA];omega⟩
     ·exact ⟨rfl,by simp only [iA];omega⟩
   rw [if_neg (by simp [hk.1]),decide_eq_false (by omega)];exact hj2
  ·rw [if_neg (by simpa using hnc)]
   exact hj2
 ·show dS ⟨cols,srt,[]⟩ (n:Int) (kf cols n T) (T.length:Int) ((T.take T.length).map (tkV cols (n+1))++(T.drop T.length).map (tkV cols n))=_
  unfold dS;rw [if_neg (by simp;omega),Zd,List.drop_length];unfold iz;simp
set_option linter.unusedVariables false
set_option linter.unusedSimpArgs false
theorem nodup_iff {α:Type} [DecidableEq α] (l:List α):l.Nodup↔ ∀(i:Nat) (h:i<l.length),(l.take i).contains l[i]=false:=by
 unfold List.Nodup;rw [Zy];constructor
 ·intro h i hi
  rw [Zr,decide_eq_false_iff_not];intro hm;obtain ⟨k,hk,he⟩:=Zf hm;have hk':k<i:=by simp at hk;omega
  have:=h k i (by omega) hi hk';apply this;rw [←he];simp
 ·intro h i j hi hj hij e
  have:=h j hj;rw [Zr,decide_eq_false_iff_not] at this;apply this;rw [←e];exact List.mem_of_getElem? (i:=i) (by rw [Zz hij,Z1 hi])
theorem RF {cols:Int} {srt:List Int}:qV cols srt=true↔(∀s∈srt,0≤s∧s<cols)∧srt.Nodup:=by
 unfold qV;rw [nodup_iff];simp only [Zj,Zn];constructor
 ·intro h
  have key: ∀(i:Nat) (hi:i<srt.length),0≤srt[i]∧srt[i]<cols∧(srt.take i).contains srt[i]=false:=by
   intro i hi;have:=h i hi;unfold qU at this;rw [Z1 hi] at this;simp only [Zi,decide_eq_true_eq,Ze] at this;exact this
  refine ⟨fun s hs=> ?_,fun i hi=>(key i hi).2.2⟩;obtain ⟨i,hi,rfl⟩:=Zf hs;exact ⟨(key i hi).1,(key i hi).2.1⟩
 ·rintro ⟨h1,h2⟩ i hi
  unfold qU;rw [Z1 hi];simp only [Zi,decide_eq_true_eq,Ze];have:=h1 _ (Z9 hi);exact ⟨this.1,this.2,h2 i hi⟩
theorem RG {cols:Int} {l:List aa}:oU cols l=true↔(∀v∈l,rS cols v=true)∧(l.map (·.fId)).Nodup:=by
 unfold oU;rw [nodup_iff];simp only [Zj,Zn,List.length_map,List.getElem_map];constructor
 ·intro h
  have key: ∀(i:Nat) (hi:i<l.length),rS cols l[i]=true∧((l.take i).map (·.fId)).contains l[i].fId=false:=by
   intro i hi;have:=h i hi;unfold pU at this;rw [Z1 hi] at this;simp only [Zi,Ze] at this;exact this
  refine ⟨fun s hs=> ?_,fun i hi=> ?_⟩
  ·obtain ⟨i,hi,rfl⟩:=Zf hs
   exact (key i hi).1
  ·have:=(key i hi).2
   rw [List.map_take] at this;exact this
 ·rintro ⟨h1,h2⟩ i hi
  unfold pU;rw [Z1 hi];simp only [Zi,Ze];refine ⟨h1 _ (Z9 hi),?_⟩;have:=h2 i hi;rw [List.map_take];exact this
theorem Jb: ∀(n:Nat) (l:List Int),l.Nodup→(∀s∈l,0≤s∧s<(n:Int))→l.length≤n:=by
 intro n
 induction n with
 |zero=>
  intro l _ h;cases l with
  |nil=>simp
  |cons a l=>have:=h a (by simp);omega
 | succ n ih =>
  intro l hn h
  have h1:=ih (l.filter fun x=> !decide (x=(n:Int))) (hn.filter _) (fun s hs=>by
   obtain ⟨hm,hq⟩:=List.mem_filter.1 hs;have:=h s hm;have:s≠(n:Int):=by simpa using hq
   omega)
  have h2:l.count (n:Int)≤1:=List.nodup_iff_count.1 hn _;have h3:=List.length_eq_countP_add_countP (p:=fun x=> !decide (x=(n:Int))) (l:=l);rw [List.countP_eq_length_filter] at h3
  have h4:List.countP (fun a=>decide ¬((!decide (a=(n:Int)))=true)) l=l.count (n:Int):=by
   unfold List.count;congr 1;funext a
   by_cases e:a=(n:Int)<;>simp [e]
  omega
theorem pB.srt_le {cols:Int} {srt:List Int} {l:List aa} (h:pB cols srt l):srt.length≤8:=by
 obtain ⟨h1,h2⟩:=RF.1 h.so;have hc:=h.co;exact Jb 8 srt h2 fun s hs=>by have:=h1 s hs;omega
theorem pB.stb {cols:Int} {srt:List Int} {l T:List aa} (h:pB cols srt l) (hs:Stb (qlt srt) l T):pB cols srt T:=by
 have hp:=hs.perm (ie srt);obtain ⟨h1,h2⟩:=RG.1 h.ro;refine ⟨h.co,h.so,by rw [hp.length_eq];exact h.le,RG.2 ⟨fun v hv=>h1 v (hp.mem_iff.1 hv),?_⟩⟩;exact (hp.map _).nodup_iff.2 h2
theorem pB.none {cols:Int} {srt:List Int} {l:List aa} (h:pB cols srt l):pB cols srt []:=⟨h.co,h.so,by simp,rfl⟩
theorem pB.id_srt {cols:Int} {srt:List Int} {l:List aa} (h:pB cols srt l):srt.map Xd.wrap=srt:=by
 obtain ⟨h1,_⟩:=RF.1 h.so;have hc:=h.co;rw [Zt (g:=id),List.map_id];intro s hs;have:=h1 s hs;rw [bh,Zb (by omega) (by omega)];rfl
theorem Jc {cols:Int} {srt kinds:List Int} {T:List aa} (h:pB cols srt T) (hs:Byt (dY cols kinds T (cols+3).toNat)∧(dY cols kinds T (cols+3).toNat).length≤100000000):
  ip (iC cols srt kinds T)=some ((T.length:Int),dY cols kinds T (cols+3).toNat,true,⟨cols,srt,[]⟩):=by
 have hco:=h.co;have hle:=h.le;have hsl:=h.srt_le;obtain ⟨hs1,hs2⟩:=hs;obtain ⟨S,hS⟩: ∃S,S=dY cols kinds T (cols+3).toNat:=⟨_,rfl⟩
 rw [←hS] at hs1 hs2 ⊢
 have hb:iC cols srt kinds T=72::65::89::49::cols::(srt.length:Int)::(srt++(be4 (T.length:Int)++S)):=by
  unfold iC nmB lI;rw [h.id_srt,bh,bh,Zb (by omega) (by omega),Zb (by omega) (by omega), ←hS];simp
 rw [hb];obtain ⟨p,hp⟩: ∃p,p=72::65::89::49::cols::(srt.length:Int)::(srt++(be4 (T.length:Int)++S)):=⟨_,rfl⟩
 rw [←hp];have hpl:p.length=6+(srt.length+(4+S.length)):=by rw [hp];simp [dN];omega
 have e1:sub p 0 4=some [72,65,89,49]:=by
  have:=ef (xs:=p) (lo:=0) (hi:=4) (by omega) (by omega);rw [hp] at this ⊢;exact this
 have i4:idx p 4=some cols:=by rw [hp];exact ay (i:=4) (by simp)
 have i5:idx p 5=some (srt.length:Int):=by rw [hp];exact ay (i:=5) (by simp)
 have e2:sub p 6 (p.length:Int)=some (srt++(be4 (T.length:Int)++S)):=by
  have:=gB (xs:=p) (k:=6) (by omega);rw [show ((6:Nat):Int)=6 from rfl] at this;rw [this,hp];rfl
 have hrl:(srt++(be4 (T.length:Int)++S)).length=srt.length+(4+S.length):=by simp [dN]
 have e3:sub (srt++(be4 (T.length:Int)++S)) 0 (srt.length:Int)=some srt:=by
  have:=ef (xs:=srt++(be4 (T.length:Int)++S)) (lo:=0) (hi:=srt.length) (by omega) (by omega);rw [List.take_left] at this;exact this
 have hw:Zo.wrap (srt.length:Int)=(srt.length:Int):=ak (by omega);have hw4:Zo.wrap ((srt.length:Int)+4)=((srt.length+4:Nat):Int):=by rw [ak (by omega)];omega
 unfold ip;rw [if_neg (by simp;omega),e1,Z0];show eK p (!decide ((72,65,89,49)=((72,65,89,49):Int×Int×Int×Int)))=_;unfold eK;rw [if_neg (by simp),i4,Z0,i5,Z0,e2,Z0,hw,hw4,hrl,if_neg (by simp;omega),e3,Z0];refine gX (fun i=>((i:Int),(⟨cols,srt.take i,[]⟩:aH))) srt.length ?_ (fun i hi=> ?_) ?_
 ·rw [ak (by omega)];rfl
 ·simp only [fW]
  obtain ⟨hr,_⟩:=RF.1 h.so;have:=hr _ (Z9 hi);rw [if_pos (by simpa using hi),ay hi,Z0,aF (by simp;omega),Z0,ak (by omega),ak (by omega),iE hi]
  rfl
 ·simp only [fW]
  rw [if_neg (by simp),Zd];unfold iy
  have e4:sub (srt++(be4 (T.length:Int)++S)) (srt.length:Int) ((srt++(be4 (T.length:Int)++S)).length:Int)=some (be4 (T.length:Int)++S):=by
   rw [gB (by simp),X7]
  have e5:sub (srt++(be4 (T.length:Int)++S)) ((srt.length+4:Nat):Int) ((srt++(be4 (T.length:Int)++S)).length:Int)=some S:=by
   rw [gB (by omega), ←Z7,Zw (by simp [dN])]
  rw [hw,hw4,e4,Z0,uU (by unfold U32;omega),Z0,e5,Z0];dsimp only;rw [uR (by omega) (by simp),Z0,Rw.2 h.none,if_pos (by simp)];unfold fV;rw [decide_eq_true (by omega)]
theorem Aj {xs:List aa} (h:xs.length≤1048576):eC xs xs em=some true:=by
 unfold eC;rw [if_neg (by simp)];refine gX (fun i=>(i:Int)) xs.length rfl (fun i hi=> ?_) ?_
 ·simp only [gW]
  rw [if_pos (by simpa using hi),ay hi,Z0,Z0];simp only [em];rw [Z0,if_neg (by simp),ak (by omega)];rfl
 ·simp only [gW]
  rw [if_neg (by simp)];rfl
theorem Jd {cols:Int} {srt kinds:List Int} {T:List aa} (h:pB cols srt T) (hv: ∀v∈T,mq v) (hS:Srt (qlt srt) T) (hk:kinds.length≤1048576):
  lS (nS cols srt kinds T)=some (some ⟨cols,srt,T⟩,0):=by
 have hco:=h.co;have hle:=h.le;have hsl:=h.srt_le;have hC:CV cols T:=CV.of h hv;obtain ⟨hb1,hb2⟩:=Ai (srt:=srt) (kinds:=kinds) hC (by omega);obtain ⟨hs1,hs2⟩:=wt (b:=iC cols srt kinds T) (by omega);obtain ⟨hs3,hs4⟩:=uT (kinds:=kinds) hC (cols+3).toNat;have hk11:(cols+3).toNat≤11:=by omega
 have hs5:(dY cols kinds T (cols+3).toNat).length≤100000000:=Nat.le_trans hs4 (by omega);have hpl:(nS cols srt kinds T).length=(iC cols srt kinds T).length+4:=by unfold nS;rw [Z2,dN]
 have hw:Zo.wrap (((nS cols srt kinds T).length:Int) - 4)=((iC cols srt kinds T).length:Int):=by rw [hpl,ak (by omega)];omega
 have e1:sub (nS cols srt kinds T) ((iC cols srt kinds T).length:Int) ((nS cols srt kinds T).length:Int)=some (be4 (lw (iC cols srt kinds T))):=by
  rw [gB (by omega)];unfold nS;rw [X7]
 have e2:sub (nS cols srt kinds T) 0 ((iC cols srt kinds T).length:Int)=some (iC cols srt kinds T):=by
  have:=ef (xs:=nS cols srt kinds T) (lo:=0) (hi:=(iC cols srt kinds T).length) (by omega) (by omega);have e:(nS cols srt kinds T).take (iC cols srt kinds T).length=iC cols srt kinds T:=by unfold nS;rw [List.take_left]
  rw [e] at this;exact this
 have hnum:=uU hs2 [];rw [Zv] at hnum
 have hsw:Zo.wrap (lw (iC cols srt kinds T))=lw (iC cols srt kinds T):=by
  unfold U32 at hs2;rw [ak (by omega)]
 unfold lS;rw [if_neg (by simp;omega),hw,e1,Z0,hnum,Z0,e2,Z0,hs1,Z0,hsw];unfold jx;rw [if_neg (by simp),hw,e2,Z0,Jc h ⟨hs3,hs5⟩,Z0,if_neg (by simp)];dsimp only
 have hmk:mk 5864062014805 (T.length:Int) aa.zero=some (T.map (tkV cols 0)):=by
  rw [uG (by omega),Zt (g:=fun _=>aa.zero) (fun v _=>KL hco.1 v),List.map_const']
 rw [hmk,Z0]
 have hdr: ∀n,n<(cols+3).toNat→(((Z8 (cols+3).toNat).drop n).map (lx cols kinds T)).flatten=lx cols kinds T n++(((Z8 (cols+3).toNat).drop (n+1)).map (lx cols kinds T)).flatten:=by
  intro n hn;rw [Z3 (by simpa using hn)];simp
 have hdl: ∀k n:Nat,n+k=(cols+3).toNat→((((Z8 (cols+3).toNat).drop n).map (lx cols kinds T)).flatten).length≤6400004*k:=by
  intro k
  induction k with
  |zero=>intro n hn;rw [Z6 (by simp;omega)];simp
  |succ k ih=>
   intro n hn;rw [hdr n (by omega),Z2];have:=(Et (kinds:=kinds) hC n).2;have:=ih (n+1) (by omega);omega
 refine gX (fun n=>((((Z8 (cols+3).toNat).drop n).map (lx cols kinds T)).flatten,(n:Int),T.map (tkV cols n))) (cols+3).toNat (by simp [dY]) (fun n hn=> ?_) ?_
 ·have hrl:=hdl ((cols+3).toNat - (n+1)) (n+1) (by omega)
  have hrl2:6400004*((cols+3).toNat - (n+1))≤6400004*11:=Nat.mul_le_mul_left _ (by omega);obtain ⟨R,hR⟩: ∃R,R=(((Z8 (cols+3).toNat).drop (n+1)).map (lx cols kinds T)).flatten:=⟨_,rfl⟩
  obtain ⟨B,hB⟩: ∃B,B=pV (gl cols kinds n) (kf cols n T):=⟨_,rfl⟩
  obtain ⟨hcv,hcl⟩:=xn (n:=n) hC;have hBl:=(uS (kind:=gl cols kinds n) hcv hcl).2;rw [←hB] at hBl;rw [←hR] at hrl;show fX ((T.length:Int),dY cols kinds T (cols+3).toNat,true,⟨cols,srt,[]⟩) ((((Z8 (cols+3).toNat).drop n).map (lx cols kinds T)).flatten) (n:Int) (T.map (tkV cols n))=some (.inl ((((Z8 (cols+3).toNat).drop (n+1)).map (lx cols kinds T)).flatten,((n+1:Nat):Int),T.map (tkV cols (n+1))))
  have hx:(((Z8 (cols+3).toNat).drop n).map (lx cols kinds T)).flatten=be4 (B.length:Int)++(B++R):=by
   rw [hdr n hn, ←hR];unfold lx;rw [←hB,Z7]
  rw [hx, ←hR];obtain ⟨X,hX⟩: ∃X,X=be4 (B.length:Int)++(B++R):=⟨_,rfl⟩
  have hXl:X.length=4+(B.length+R.length):=by rw [hX];simp [dN]
  have hn4:d3 X=some (B.length:Int):=by rw [hX];exact uU (by unfold U32;omega) _
  have hw4:Zo.wrap (4+(B.length:Int))=((4+B.length:Nat):Int):=by rw [ak (by omega)];omega
  have s1:sub X 4 ((4+B.length:Nat):Int)=some B:=by
   have:=ef (xs:=X) (lo:=4) (hi:=4+B.length) (by omega) (by omega);rw [show ((4:Nat):Int)=4 from rfl] at this;rw [this,hX, ←Z7,List.take_left' (by simp [dN]),Zw (dN _)]
  have s2:sub X ((4+B.length:Nat):Int) (X.length:Int)=some R:=by
   rw [gB (by omega),hX, ←Z7,Zw (by simp [dN])]
  have hval:iI B (T.length:Int)=some (kf cols n T,true):=by
   have hcr: ∀v∈kf cols n T,Rgt v:=fun v hv=>by
    obtain ⟨x,hx,rfl⟩:=Xb.1 hv;exact Er hC hx n
   have:=Hg (kind:=gl cols kinds n) hcr hcl;rw [←hB] at this;rw [show (kf cols n T).length=T.length by simp [kf]] at this;exact this
  rw [←hX];unfold fX;dsimp only;rw [ak (by omega),if_pos (by simp;omega),if_neg (by simp;omega),hn4,Z0,hw4,decide_eq_false (by omega)];unfold jw;rw [if_neg (by simp),hn4,Z0,hw4,s1,Z0];dsimp only;rw [hval,Z0,if_neg (by simp)];dsimp only;rw [Ja hC (by omega),Z0];unfold jv;rw [if_neg (by simp),hw4,s2,Z0,ak (by omega)]
  rfl
 ·show fX ((T.length:Int),dY cols kinds T (cols+3).toNat,true,⟨cols,srt,[]⟩) ((((Z8 (cols+3).toNat).drop (cols+3).toNat).map (lx cols kinds T)).flatten) ((cols+3).toNat:Int) (T.map (tkV cols (cols+3).toNat))=_
  have hT:T.map (tkV cols (cols+3).toNat)=T:=by
   rw [Zt (g:=id) (fun v hm=> ?_),List.map_id];obtain ⟨h1,h2⟩:=hC.ok v hm;exact L6 hco.1 (qj h1 h2).2.1
  rw [hT,Z6 (by simp)];unfold fX;dsimp only;rw [ak (by omega),if_neg (by simp;omega)];have hrk:Rok T:=fun v hm=>(hv v hm).len;obtain ⟨T',h1,h2⟩:=Bd (cs:=srt) (xs:=T) (by omega) (by omega) hrk;obtain rfl:=h2.unique (ie srt) (Stb.refl hS)
  have hso:gr (some ⟨cols,srt,T'⟩)=some true:=by
   unfold gr;simp only [Z0];rw [h1,Z0,Aj (by omega)]
   rfl
  unfold lE;rw [if_neg (by simp)];simp only [Z0];rw [uR (by omega) hv,Z0,Rw.2 h,if_neg (by simp),hso,Z0]
  rfl
set_option linter.unusedVariables false
set_option linter.unusedSimpArgs false
def atB (l:List aa) (id:aK):Option Nat:=l.findIdx? fun v=>decide (v.fId=id)
theorem Hh {l : List aa} {id : aK} (h : l.length ≤ 1048576) : eD l (fun y => cY y id) = some (((atB l id).map fun i : Nat => (i : Int)).getD (-1)) := by
  unfold eD
  have key: ∀k i:Nat,i+k=l.length→aq (fun s:Int=>dL l (fun y=>cY y id) s) (i:Int)=some (((atB (l.drop i) id).map fun j=>((i+j:Nat):Int)).getD (-1)):=by
    intro k
    induction k with
    | zero =>
      intro i hi;rw [Z6 (by omega)];apply aY;simp only [dL];rw [if_neg (by simp;omega)];rfl
    | succ k ih =>
      intro i hi;have hlt:i<l.length:=by omega
      unfold atB;rw [Z3 hlt,List.findIdx?_cons]
      by_cases he:l[i].fId=id
      · rw [if_pos (by simpa using he)]
        apply aY;simp only [dL];rw [if_pos (by simpa using hlt),ay hlt,Z0];simp only [cY];rw [Z0,if_pos (by simpa using he)];simp
      · rw [if_neg (by simpa using he)]
        rw [bK (s':=((i+1:Nat):Int))]
        · rw [ih (i + 1) (by omega)]
          unfold atB;cases (l.drop (i+1)).findIdx? fun v=>decide (v.fId=id) with
          |none=>rfl
          |some j=>simp only [X8,Option.getD_some];congr 1;omega
        · simp only [dL]
          rw [if_pos (by simpa using hlt),ay hlt,Z0];simp only [cY];rw [Z0,if_neg (by simpa using he),ak (by omega)];rfl
  have:=key l.length 0 (by omega);rw [List.drop_zero] at this;simpa using this
theorem KM {f:aH} {id:aK} (h:f.fL.length≤1048576):iu (some f) id=some (((atB f.fL id).map fun i:Nat=>(i:Int)).getD 0,(atB f.fL id).isSome):=by
  unfold iu;rw [Z0,Hh h,Z0];cases atB f.fL id with
  |none=>rfl
  | some i =>
    simp only [X8,Option.getD_some,Option.isSome_some];rw [if_neg (by omega),decide_eq_true (by omega)]
theorem Hi:pk=some true:=by
  let v1:aa:=⟨⟨1,0⟩,[⟨2,false,2,[]⟩],0⟩
  let v2:aa:=⟨⟨2,0⟩,[⟨2,false,1,[]⟩],0⟩
  have ok: ∀(e n:Int),0≤e→e<10→0≤n→n<10→mq ⟨⟨e,0⟩,[⟨2,false,n,[]⟩],0⟩:=by
    intro e n h1 h2 h3 h4;refine ⟨by dsimp only;omega,by dsimp only;omega,by dsimp only;omega,?_,by simp⟩;intro x hx;have:x=iA n:=by simpa using hx
    subst this;exact (Rgt.int n (by unfold cT;omega)).ok
  have hv: ∀v∈[v1,v2],mq v:=by
    intro v hv;simp only [X9,List.not_mem_nil,or_false] at hv;rcases hv with rfl|rfl
    · exact ok 1 2 (by omega) (by omega) (by omega) (by omega)
    · exact ok 2 1 (by omega) (by omega) (by omega) (by omega)
  have hA:pB 1 [0] [v1,v2]:=Rw.1 (by decide);rcases Be (cols:=1) (srt:=[0]) (kinds:=[]) (by simp) (by simp) hv with ⟨h,_⟩|⟨_,T,h2,hC,hw,_⟩
  · exact absurd (Rw.2 hA) h
  have hi:Stb (qlt [0]) ([]++[v1]++[v2]) ([]++v2::[v1]):=Stb.ins (ie [0]) (by simp [Srt]) (by
    intro s hs
    rw [List.mem_singleton] at hs;subst hs;decide) (by simp)
  obtain rfl:T=[v2,v1]:=Stb.unique (ie [0]) h2 hi;have hr:=Jd (kinds:=[]) (hA.stb h2) (fun v hm=>hv v ((h2.mem (ie [0])).1 hm)) h2.srt (by simp);unfold pk;rw [hw,Z0,hr,Z0,if_neg (by simp),if_neg (by simp)];unfold lm;dsimp only;rw [if_neg (by simp),KM (by simp),Z0]
  rfl
theorem Hj {l:List aa} (h:l.length≤1048576) (hr:Rok l):sy l=some l:=by
  unfold sy;refine gX (fun i=>(l.take i,(i:Int))) l.length (by simp) (fun i hi=> ?_) ?_
  · simp only [rF]
    rw [if_pos (by simpa using hi),ay hi,Z0,KH (hr _ (Z9 hi)),Z0,aF (by simp;omega),Z0,ak (by omega),iE hi]
    rfl
  · simp only [rF]
    rw [if_neg (by simp),Zd];rfl
structure Hk (c:da):Prop where
  so:c.fSort.length≤1048576
  ki:c.fKinds.length≤1048576
  le:c.fL.length≤1048576
  ok: ∀v∈c.fL,mq v
theorem DR {c:da} (h:Hk c):kJ c=some true:=by
  have hr:Rok c.fL:=fun v hv=>(h.ok v hv).len
  have key: ∃b e,eY c.fColumns c.fSort c.fKinds c.fL=some (b,e)∧pn c.fColumns c.fSort c.fKinds c.fL=some (b,e):=by
    rcases Be (cols:=c.fColumns) h.so h.ki h.ok with ⟨_,h1,h2⟩|⟨_,T,_,_,h1,h2⟩
    · exact ⟨_,_,h1,h2⟩
    · exact ⟨_,_,h1,h2⟩
  obtain ⟨b,e,h1,h2⟩:=key;unfold kJ;rw [Hj h.le hr,Z0,h1,Z0,h2,Z0,Hi,Z0,if_pos rfl,if_pos (by simp),if_pos (by simp),xr h.le hr]
  rfl
set_option maxRecDepth 100000
set_option linter.unusedSimpArgs false
open Go.Proofs Tryz
theorem mixed:prog.follows .mixedOrders=true:=by kernel_rfl
def Ap.pr (x:Ap):Int×Bool×Int×List Int:=(x.fKind,x.fBool,x.fInt,x.fText)
def kAp:Kd Ap:=ot Ap.pr (bP (aj .i64) (bP cK (bP (aj .i64) qm)))
theorem L8:Fld kAp (aj .i64) 0 (fun x=>x.fKind):=bY dh
theorem Di:StF kAp (aj .i64) 0 (fun x y=>{ x with fKind:=y }):=bZ dx (fun _ _=>rfl)
theorem L9:Fld kAp cK 1 (fun x=>x.fBool):=bY (a8 dh)
theorem Ma:StF kAp cK 1 (fun x y=>{ x with fBool:=y }):=bZ (aV dx) (fun _ _=>rfl)
theorem Mb:Fld kAp (aj .i64) 2 (fun x=>x.fInt):=bY (a8 (a8 dh))
theorem Dj:StF kAp (aj .i64) 2 (fun x y=>{ x with fInt:=y }):=bZ (aV (aV dx)) (fun _ _=>rfl)
theorem Mc:Fld kAp qm 3 (fun x=>x.fText):=bY (a8 (a8 (a8 iN)))
theorem Md:StF kAp qm 3 (fun x y=>{ x with fText:=y }):=bZ (aV (aV (aV bn))) (fun _ _=>rfl)
def aS.pr (x:aS):Int×Ap:=(x.fMany,x.fValue)
def cu:Kd aS:=ot aS.pr (bP (aj .i64) kAp)
theorem KN:Fld cu (aj .i64) 0 (fun x=>x.fMany):=bY dh
theorem Ak:StF cu (aj .i64) 0 (fun x y=>{ x with fMany:=y }):=bZ dx (fun _ _=>rfl)
theorem KO:Fld cu kAp 1 (fun x=>x.fValue):=bY (a8 iN)
theorem Eu:StF cu kAp 1 (fun x y=>{ x with fValue:=y }):=bZ (aV bn) (fun _ _=>rfl)
def bI.pr (x:bI):Int×Int×Ap×Ap×Int×Int:=(x.fKind,x.fMany,x.fMin,x.fMax,x.fNulls,x.fBytes)
def cS:Kd bI:=ot bI.pr (bP (aj .i64) (bP (aj .i64) (bP kAp (bP kAp (bP (aj .i64) (aj .i64))))))
theorem Me:Fld cS (aj .i64) 0 (fun x=>x.fKind):=bY dh
theorem Hl:StF cS (aj .i64) 0 (fun x y=>{ x with fKind:=y }):=bZ dx (fun _ _=>rfl)
theorem Mf:Fld cS (aj .i64) 1 (fun x=>x.fMany):=bY (a8 dh)
theorem Hm:StF cS (aj .i64) 1 (fun x y=>{ x with fMany:=y }):=bZ (aV dx) (fun _ _=>rfl)
theorem Mg:Fld cS kAp 2 (fun x=>x.fMin):=bY (a8 (a8 dh))
theorem Hn:StF cS kAp 2 (fun x y=>{ x with fMin:=y }):=bZ (aV (aV dx)) (fun _ _=>rfl)
theorem Mh:Fld cS kAp 6 (fun x=>x.fMax):=bY (a8 (a8 (a8 dh)))
theorem Ho:StF cS kAp 6 (fun x y=>{ x with fMax:=y }):=bZ (aV (aV (aV dx))) (fun _ _=>rfl)
theorem Mi:Fld cS (aj .i64) 10 (fun x=>x.fNulls):=bY (a8 (a8 (a8 (a8 dh))))
theorem Hp:StF cS (aj .i64) 10 (fun x y=>{ x with fNulls:=y }):=bZ (aV (aV (aV (aV dx)))) (fun _ _=>rfl)
theorem Mj:Fld cS (aj .i64) 11 (fun x=>x.fBytes):=bY (a8 (a8 (a8 (a8 (a8 iN)))))
theorem Mk:StF cS (aj .i64) 11 (fun x y=>{ x with fBytes:=y }):=bZ (aV (aV (aV (aV (aV bn))))) (fun _ _=>rfl)
def dT.pr (x:dT):Int×Ap:=(x.fMany,x.fValue)
def cJ:Kd dT:=ot dT.pr (bP (aj .i64) kAp)
theorem KP:Fld cJ (aj .i64) 0 (fun x=>x.fMany):=bY dh
theorem Al:StF cJ (aj .i64) 0 (fun x y=>{ x with fMany:=y }):=bZ dx (fun _ _=>rfl)
theorem KQ:Fld cJ kAp 1 (fun x=>x.fValue):=bY (a8 iN)
theorem Ev:StF cJ kAp 1 (fun x y=>{ x with fValue:=y }):=bZ (aV bn) (fun _ _=>rfl)
def dm.pr (x:dm):Int×Int×Ap×Ap×Int×Int:=(x.fKind,x.fMany,x.fMin,x.fMax,x.fNulls,x.fBytes)
def fj:Kd dm:=ot dm.pr (bP (aj .i64) (bP (aj .i64) (bP kAp (bP kAp (bP (aj .i64) (aj .i64))))))
theorem Ml:Fld fj (aj .i64) 0 (fun x=>x.fKind):=bY dh
theorem Mm:StF fj (aj .i64) 0 (fun x y=>{ x with fKind:=y }):=bZ dx (fun _ _=>rfl)
theorem Mn:Fld fj (aj .i64) 1 (fun x=>x.fMany):=bY (a8 dh)
theorem Mo:StF fj (aj .i64) 1 (fun x y=>{ x with fMany:=y }):=bZ (aV dx) (fun _ _=>rfl)
theorem Mp:Fld fj kAp 2 (fun x=>x.fMin):=bY (a8 (a8 dh))
theorem Mq:StF fj kAp 2 (fun x y=>{ x with fMin:=y }):=bZ (aV (aV dx)) (fun _ _=>rfl)
theorem Mr:Fld fj kAp 6 (fun x=>x.fMax):=bY (a8 (a8 (a8 dh)))
theorem Ms:StF fj kAp 6 (fun x y=>{ x with fMax:=y }):=bZ (aV (aV (aV dx))) (fun _ _=>rfl)
theorem Mt:Fld fj (aj .i64) 10 (fun x=>x.fNulls):=bY (a8 (a8 (a8 (a8 dh))))
theorem Mu:StF fj (aj .i64) 10 (fun x y=>{ x with fNulls:=y }):=bZ (aV (aV (aV (aV dx)))) (fun _ _=>rfl)
theorem Mv:Fld fj (aj .i64) 11 (fun x=>x.fBytes):=bY (a8 (a8 (a8 (a8 (a8 iN)))))
theorem Mw:StF fj (aj .i64) 11 (fun x y=>{ x with fBytes:=y }):=bZ (aV (aV (aV (aV (aV bn))))) (fun _ _=>rfl)
def ai.pr (x:ai):List Int×Bool:=(x.fB,x.fOk)
def iK:Kd ai:=ot ai.pr (bP (kSl (aj .u8)) cK)
theorem KR:Fld iK (kSl (aj .u8)) 0 (fun x=>x.fB):=bY dh
theorem KS:StF iK (kSl (aj .u8)) 0 (fun x y=>{ x with fB:=y }):=bZ dx (fun _ _=>rfl)
theorem KT:Fld iK cK 1 (fun x=>x.fOk):=bY (a8 iN)
theorem Ew:StF iK cK 1 (fun x y=>{ x with fOk:=y }):=bZ (aV bn) (fun _ _=>rfl)
def aK.pr (x:aK):Int×Int:=(x.fEpoch,x.fNumber)
def br:Kd aK:=ot aK.pr (bP (aj .u64) (aj .u32))
theorem Mx:Fld br (aj .u64) 0 (fun x=>x.fEpoch):=bY dh
theorem wC:StF br (aj .u64) 0 (fun x y=>{ x with fEpoch:=y }):=bZ dx (fun _ _=>rfl)
theorem My:Fld br (aj .u32) 1 (fun x=>x.fNumber):=bY (a8 iN)
theorem Hq:StF br (aj .u32) 1 (fun x y=>{ x with fNumber:=y }):=bZ (aV bn) (fun _ _=>rfl)
def aa.pr (x:aa):aK×List Ap×Int:=(x.fId,x.fRow,x.fDeleted)
def ab:Kd aa:=ot aa.pr (bP br (bP (kSl kAp) (aj .u64)))
theorem zk:Fld ab br 0 (fun x=>x.fId):=bY dh
theorem wD:StF ab br 0 (fun x y=>{ x with fId:=y }):=bZ dx (fun _ _=>rfl)
theorem Mz:Fld ab (kSl kAp) 2 (fun x=>x.fRow):=bY (a8 dh)
theorem zl:StF ab (kSl kAp) 2 (fun x y=>{ x with fRow:=y }):=bZ (aV dx) (fun _ _=>rfl)
theorem MA:Fld ab (aj .u64) 3 (fun x=>x.fDeleted):=bY (a8 (a8 iN))
theorem Hr:StF ab (aj .u64) 3 (fun x y=>{ x with fDeleted:=y }):=bZ (aV (aV bn)) (fun _ _=>rfl)
def aH.pr (x:aH):Int×List Int×List aa:=(x.fColumns,x.fSort,x.fL)
def cd:Kd aH:=ot aH.pr (bP (aj .i64) (bP (kSl (aj .i64)) (kSl ab)))
theorem Ex:Fld cd (aj .i64) 0 (fun x=>x.fColumns):=bY dh
theorem Ey:StF cd (aj .i64) 0 (fun x y=>{ x with fColumns:=y }):=bZ dx (fun _ _=>rfl)
theorem Am:Fld cd (kSl (aj .i64)) 1 (fun x=>x.fSort):=bY (a8 dh)
theorem Ez:StF cd (kSl (aj .i64)) 1 (fun x y=>{ x with fSort:=y }):=bZ (aV dx) (fun _ _=>rfl)
theorem rc:Fld cd (kSl ab) 2 (fun x=>x.fL):=bY (a8 (a8 iN))
theorem KU:StF cd (kSl ab) 2 (fun x y=>{ x with fL:=y }):=bZ (aV (aV bn)) (fun _ _=>rfl)
def da.pr (x:da):Int×List Int×List Int×List aa:=(x.fColumns,x.fSort,x.fKinds,x.fL)
def b8:Kd da:=ot da.pr (bP (aj .i64) (bP (kSl (aj .i64)) (bP (kSl (aj .i64)) (kSl ab))))
theorem MB:Fld b8 (aj .i64) 0 (fun x=>x.fColumns):=bY dh
theorem MC:StF b8 (aj .i64) 0 (fun x y=>{ x with fColumns:=y }):=bZ dx (fun _ _=>rfl)
theorem MD:Fld b8 (kSl (aj .i64)) 1 (fun x=>x.fSort):=bY (a8 dh)
theorem ME:StF b8 (kSl (aj .i64)) 1 (fun x y=>{ x with fSort:=y }):=bZ (aV dx) (fun _ _=>rfl)
theorem MG:Fld b8 (kSl (aj .i64)) 2 (fun x=>x.fKinds):=bY (a8 (a8 dh))
theorem MH:StF b8 (kSl (aj .i64)) 2 (fun x y=>{ x with fKinds:=y }):=bZ (aV (aV dx)) (fun _ _=>rfl)
theorem MI:Fld b8 (kSl ab) 3 (fun x=>x.fL):=bY (a8 (a8 (a8 iN)))
theorem MJ:StF b8 (kSl ab) 3 (fun x y=>{ x with fL:=y }):=bZ (aV (aV (aV bn))) (fun _ _=>rfl)
def Ec.pr (x:Ec):Int×List Int×List aa:=(x.fColumns,x.fSort,x.fL)
theorem Dk:nM prog 32 4 40:=⟨⟨t32,_,type32,rfl,rfl,rfl,rfl⟩⟩
theorem eG:du prog 32 kAp:=⟨sizeOf32,isAgg32⟩
def wE:List Value:=[.int .i64 0,.bool false,.int .i64 0,.string (bts [])]
theorem pC: ∀m,kAp.R m wE Ap.zero:=fun _=>⟨⟨rfl,aw (by decide)⟩,⟨rfl,⟨⟨rfl,aw (by decide)⟩,⟨rfl,(by decide),(by decide)⟩⟩⟩⟩
theorem Dl:cM prog 32 0 0:=cE underlying32 rfl sizeOf3 (by decide) rfl
theorem ty3:du prog 3 (aj .i64):=⟨sizeOf3,isAgg3⟩
theorem Ao {m:M} {cs:List Value} {x:Ap} (h:kAp.R m cs x):cs=[.int .i64 x.fKind,.bool x.fBool,.int .i64 x.fInt,.string (bts x.fText)]∧(∀n∈x.fText,0≤n∧n<256):=by
 obtain ⟨h0,h1,h2,h3⟩:=h;refine ⟨?_,h3.2.1⟩;rw [←Z5 1 cs,show (cs).take 1=_ from h0.1, ←Z5 1 ((cs).drop 1),show ((cs).drop 1).take 1=_ from h1, ←Z5 1 (((cs).drop 1).drop 1),show (((cs).drop 1).drop 1).take 1=_ from h2.1,show (((cs).drop 1).drop 1).drop 1=_ from h3.1]
 rfl
theorem yo:vt prog 32 kAp:=by
 refine ⟨fun m cs ds x y d w hx hy=> ?_,fun op o o' cs ds w=> ?_⟩
 ·obtain ⟨rfl,p3⟩:=Ao hx
  obtain ⟨rfl,q3⟩:=Ao hy;have e:x=y↔x.fKind=y.fKind∧x.fBool=y.fBool∧x.fInt=y.fInt∧x.fText=y.fText:=by cases x;cases y;simp
  show (Op.equalIn (d+20) 32 (.agg #[_,_,_,_]) (.agg #[_,_,_,_])).run _ _=_;rw [run_equalIn_struct w (d+19) 32 _ _ underlying32 stoodInHeld32];simp only [Program.fieldsOf,underlying32,Op.eqFields];simp [part,run_equalIn_int,run_equalIn_bool',run_equalIn_string,wU p3 q3]
  repeat' split
  all_goals simp_all
 ·show (eqGuard op 32 o o' (.agg _) (.agg _)).run _ _=_
  cases op<;>simp [eqGuard]
theorem MK:cM prog 32 1 1:=cE underlying32 rfl sizeOf4 (by decide) rfl
theorem ty4:du prog 4 cK:=⟨sizeOf4,isAgg4⟩
theorem t8:cM prog 32 2 2:=cE underlying32 rfl sizeOf2 (by decide) rfl
theorem ty2:du prog 2 (aj .i64):=⟨sizeOf2,isAgg2⟩
theorem ML:cM prog 32 3 3:=cE underlying32 rfl sizeOf9 (by decide) rfl
theorem el2:nM prog 2 1 8:=⟨⟨t2,_,type2,rfl,rfl,rfl,rfl⟩⟩
theorem EA:cM prog 187 1 1:=cE underlying187 rfl sizeOf32 (by decide) rfl
theorem Aq:cM prog 187 0 0:=cE underlying187 rfl sizeOf3 (by decide) rfl
def PT:List Value:=[.int .i64 0,.int .i64 0,.bool false,.int .i64 0,.string (bts [])]
theorem FJ: ∀m,cu.R m PT aS.zero:=fun _=>⟨⟨rfl,aw (by decide)⟩,⟨⟨rfl,aw (by decide)⟩,⟨rfl,⟨⟨rfl,aw (by decide)⟩,⟨rfl,(by decide),(by decide)⟩⟩⟩⟩⟩
theorem Jz:nM prog 187 5 48:=⟨⟨t187,_,type187,rfl,rfl,rfl,rfl⟩⟩
def zc5:List Value:=[.int .u8 0]
theorem zr5: ∀m,(aj .u8).R m zc5 0:=fun _=>⟨rfl,aw (by decide)⟩
def FK:List Value:=(List.replicate 8 zc5).flatten
theorem PU: ∀m b,GS (aj .u8) m b FK (.slice (some ⟨b,0,none⟩) 8 8) (List.replicate 8 0):=fun _ _=>GS.zero zr5 rfl
theorem ty5:du prog 5 (aj .u8):=⟨sizeOf5,isAgg5⟩
theorem el5:nM prog 5 1 1:=⟨⟨t5,_,type5,rfl,rfl,rfl,rfl⟩⟩
theorem PV:du prog 187 cu:=⟨sizeOf187,isAgg187⟩
theorem yp:du prog 54 (aj .u64):=⟨sizeOf54,isAgg54⟩
theorem MM:nM prog 54 1 8:=⟨⟨t54,_,type54,rfl,rfl,rfl,rfl⟩⟩
theorem wF:du prog 22 (kSl kAp):=⟨sizeOf22,isAgg22⟩
def uV:List Value:=[.int .i64 0,.int .i64 0,.int .i64 0,.bool false,.int .i64 0,.string (bts []),.int .i64 0,.bool false,.int .i64 0,.string (bts []),.int .i64 0,.int .i64 0]
theorem yq: ∀m,cS.R m uV bI.zero:=fun _=>⟨⟨rfl,aw (by decide)⟩,⟨⟨rfl,aw (by decide)⟩,⟨⟨⟨rfl,aw (by decide)⟩,⟨rfl,⟨⟨rfl,aw (by decide)⟩,⟨rfl,(by decide),(by decide)⟩⟩⟩⟩,⟨⟨⟨rfl,aw (by decide)⟩,⟨rfl,⟨⟨rfl,aw (by decide)⟩,⟨rfl,(by decide),(by decide)⟩⟩⟩⟩,⟨⟨rfl,aw (by decide)⟩,⟨rfl,aw (by decide)⟩⟩⟩⟩⟩⟩
theorem yr:du prog 34 cS:=⟨sizeOf34,isAgg34⟩
theorem wG:cM prog 34 4 10:=cE underlying34 rfl sizeOf3 (by decide) rfl
theorem Je:du prog 55 (aj .u32):=⟨sizeOf55,isAgg55⟩
theorem Hs:cM prog 34 1 1:=cE underlying34 rfl sizeOf3 (by decide) rfl
theorem Dm:cM prog 34 2 2:=cE underlying34 rfl sizeOf32 (by decide) rfl
theorem Dn:cM prog 34 3 6:=cE underlying34 rfl sizeOf32 (by decide) rfl
theorem xp:du prog 155 cJ:=⟨sizeOf155,isAgg155⟩
def JA:List Value:=[.int .i64 0,.int .i64 0,.bool false,.int .i64 0,.string (bts [])]
theorem BL: ∀m,cJ.R m JA dT.zero:=fun _=>⟨⟨rfl,aw (by decide)⟩,⟨⟨rfl,aw (by decide)⟩,⟨rfl,⟨⟨rfl,aw (by decide)⟩,⟨rfl,(by decide),(by decide)⟩⟩⟩⟩⟩
theorem Ar:cM prog 155 0 0:=cE underlying155 rfl sizeOf3 (by decide) rfl
theorem BM:nM prog 155 5 48:=⟨⟨t155,_,type155,rfl,rfl,rfl,rfl⟩⟩
theorem KV:cM prog 155 1 1:=cE underlying155 rfl sizeOf32 (by decide) rfl
def RH:List Value:=[.int .i64 0,.int .i64 0,.int .i64 0,.bool false,.int .i64 0,.string (bts []),.int .i64 0,.bool false,.int .i64 0,.string (bts []),.int .i64 0,.int .i64 0]
theorem MN: ∀m,fj.R m RH dm.zero:=fun _=>⟨⟨rfl,aw (by decide)⟩,⟨⟨rfl,aw (by decide)⟩,⟨⟨⟨rfl,aw (by decide)⟩,⟨rfl,⟨⟨rfl,aw (by decide)⟩,⟨rfl,(by decide),(by decide)⟩⟩⟩⟩,⟨⟨⟨rfl,aw (by decide)⟩,⟨rfl,⟨⟨rfl,aw (by decide)⟩,⟨rfl,(by decide),(by decide)⟩⟩⟩⟩,⟨⟨rfl,aw (by decide)⟩,⟨rfl,aw (by decide)⟩⟩⟩⟩⟩⟩
theorem RI:du prog 37 fj:=⟨sizeOf37,isAgg37⟩
theorem MO:cM prog 37 2 2:=cE underlying37 rfl sizeOf32 (by decide) rfl
theorem MP:cM prog 37 3 6:=cE underlying37 rfl sizeOf32 (by decide) rfl
theorem MQ:cM prog 37 4 10:=cE underlying37 rfl sizeOf3 (by decide) rfl
theorem MR:cM prog 37 1 1:=cE underlying37 rfl sizeOf3 (by decide) rfl
theorem zm:cM prog 34 5 11:=cE underlying34 rfl sizeOf3 (by decide) rfl
theorem KW:cM prog 161 0 0:=cE underlying161 rfl sizeOf24 (by decide) rfl
theorem Jf:du prog 24 (kSl (aj .u8)):=⟨sizeOf24,isAgg24⟩
theorem EB:cM prog 161 1 1:=cE underlying161 rfl sizeOf4 (by decide) rfl
def RJ:List Value:=[.int .u64 0]
theorem MS: ∀m,(aj .u64).R m RJ 0:=fun _=>⟨rfl,aw (by decide)⟩
def PW:List Value:=[.slice none 0 0,.bool false]
theorem JB: ∀m,iK.R m PW ai.zero:=fun _=>⟨⟨none,0,0,rfl,rfl,Zl _,(by decide),rfl⟩,rfl⟩
theorem Do:cM prog 34 0 0:=cE underlying34 rfl sizeOf3 (by decide) rfl
theorem MT:cM prog 37 5 11:=cE underlying37 rfl sizeOf3 (by decide) rfl
theorem MU:cM prog 37 0 0:=cE underlying37 rfl sizeOf3 (by decide) rfl
theorem JC (d:Nat) (w:World) (x y:Ap) (p0: ∀n∈x.fText,0≤n∧n<256) (q0: ∀n∈y.fText,0≤n∧n<256):(Op.equalIn (d+10) 32 (.agg #[.int .i64 x.fKind,.bool x.fBool,.int .i64 x.fInt,.string (bts x.fText)]) (.agg #[.int .i64 y.fKind,.bool y.fBool,.int .i64 y.fInt,.string (bts y.fText)])).run prog w= .ok (decide (x=y)) w:=by
 have e:x=y↔x.fKind=y.fKind∧x.fBool=y.fBool∧x.fInt=y.fInt∧x.fText=y.fText:=by cases x;cases y;simp
 rw [run_equalIn_struct w (d+9) 32 _ _ underlying32 stoodInHeld32];simp only [Program.fieldsOf,underlying32,Op.eqFields];simp [part,run_equalIn_int,run_equalIn_bool',run_equalIn_string,wU p0 q0]
 repeat' split
 all_goals simp_all
theorem MV {m:M} {cs:List Value} {x:dm} (h:fj.R m cs x):cs=[.int .i64 x.fKind,.int .i64 x.fMany,.int .i64 x.fMin.fKind,.bool x.fMin.fBool,.int .i64 x.fMin.fInt,.string (bts x.fMin.fText),.int .i64 x.fMax.fKind,.bool x.fMax.fBool,.int .i64 x.fMax.fInt,.string (bts x.fMax.fText),.int .i64 x.fNulls,.int .i64 x.fBytes]∧(∀n∈x.fMin.fText,0≤n∧n<256)∧(∀n∈x.fMax.fText,0≤n∧n<256):=by
 obtain ⟨h0,h1,h2,h3,h4,h5⟩:=h;refine ⟨?_,(Ao h2).2,(Ao h3).2⟩;rw [←Z5 1 cs,show (cs).take 1=_ from h0.1, ←Z5 1 ((cs).drop 1),show ((cs).drop 1).take 1=_ from h1.1, ←Z5 4 (((cs).drop 1).drop 1),show (((cs).drop 1).drop 1).take 4=_ from (Ao h2).1, ←Z5 4 ((((cs).drop 1).drop 1).drop 4),show ((((cs).drop 1).drop 1).drop 4).take 4=_ from (Ao h3).1, ←Z5 1 (((((cs).drop 1).drop 1).drop 4).drop 4),show (((((cs).drop 1).drop 1).drop 4).drop 4).take 1=_ from h4.1,show (((((cs).drop 1).drop 1).drop 4).drop 4).drop 1=_ from h5.1]
 rfl
theorem RK:vt prog 37 fj:=by
 refine ⟨fun m cs ds x y d w hx hy=> ?_,fun op o o' cs ds w=> ?_⟩
 ·obtain ⟨rfl,p0,p1⟩:=MV hx
  obtain ⟨rfl,q0,q1⟩:=MV hy;have e:x=y↔x.fKind=y.fKind∧x.fMany=y.fMany∧x.fMin=y.fMin∧x.fMax=y.fMax∧x.fNulls=y.fNulls∧x.fBytes=y.fBytes:=by cases x;cases y;simp
  have e2:=fun w=>JC (d+9) w x.fMin y.fMin p0 q0;have e3:=fun w=>JC (d+9) w x.fMax y.fMax p1 q1;show (Op.equalIn (d+20) 37 (.agg #[_,_,_,_,_,_,_,_,_,_,_,_]) (.agg #[_,_,_,_,_,_,_,_,_,_,_,_])).run _ _=_;rw [run_equalIn_struct w (d+19) 37 _ _ underlying37 stoodInHeld37];simp only [Program.fieldsOf,underlying37,Op.eqFields];simp [part,run_equalIn_int,run_equalIn_bool',run_equalIn_string,e2,e3]
  repeat' split
  all_goals simp_all
 ·show (eqGuard op 37 o o' (.agg _) (.agg _)).run _ _=_
  cases op<;>simp [eqGuard]
theorem fk:du prog 59 ab:=⟨sizeOf59,isAgg59⟩
def Jg:List Value:=[.int .u64 0,.int .u32 0,.slice none 0 0,.int .u64 0]
theorem yt: ∀m,ab.R m Jg aa.zero:=fun _=>⟨⟨⟨rfl,aw (by decide)⟩,⟨rfl,aw (by decide)⟩⟩,⟨⟨none,0,0,rfl,rfl,Zl _,(by decide),rfl⟩,⟨rfl,aw (by decide)⟩⟩⟩
theorem wH:cM prog 59 1 2:=cE underlying59 rfl sizeOf22 (by decide) rfl
theorem MW:nM prog 59 4 48:=⟨⟨t59,_,type59,rfl,rfl,rfl,rfl⟩⟩
theorem zn:cM prog 57 0 0:=cE underlying57 rfl sizeOf54 (by decide) rfl
theorem zo:cM prog 57 1 1:=cE underlying57 rfl sizeOf55 (by decide) rfl
theorem wI:du prog 49 (kSl (aj .i64)):=⟨sizeOf49,isAgg49⟩
theorem qk:cM prog 59 0 0:=cE underlying59 rfl sizeOf57 (by decide) rfl
theorem yu:du prog 57 br:=⟨sizeOf57,isAgg57⟩
theorem Ht:cM prog 59 2 3:=cE underlying59 rfl sizeOf54 (by decide) rfl
theorem Jh {m:M} {cs:List Value} {x:aK} (h:br.R m cs x):cs=[.int .u64 x.fEpoch,.int .u32 x.fNumber]:=by
 obtain ⟨h0,h1⟩:=h
 skip
 rw [←Z5 1 cs,show (cs).take 1=_ from h0.1,show (cs).drop 1=_ from h1.1]
 rfl
theorem MX:vt prog 57 br:=by
 refine ⟨fun m cs ds x y d w hx hy=> ?_,fun op o o' cs ds w=> ?_⟩
 ·obtain rfl:=Jh hx
  obtain rfl:=Jh hy;have e:x=y↔x.fEpoch=y.fEpoch∧x.fNumber=y.fNumber:=by cases x;cases y;simp
  show (Op.equalIn (d+20) 57 (.agg #[_,_]) (.agg #[_,_])).run _ _=_;rw [run_equalIn_struct w (d+19) 57 _ _ underlying57 stoodInHeld57];simp only [Program.fieldsOf,underlying57,Op.eqFields];simp [part,run_equalIn_int,run_equalIn_bool',run_equalIn_string]
  repeat' split
  all_goals simp_all
 ·show (eqGuard op 57 o o' (.agg _) (.agg _)).run _ _=_
  cases op<;>simp [eqGuard]
theorem PX:laidOutB prog=true:=by kernel_rfl
def Dp (x:aK):Value:= .agg #[.int .u64 x.fEpoch,.int .u32 x.fNumber]
theorem MY {m:M} {v:Value} {x:aK} (h:RV br m v x):v=Dp x:=by
 obtain ⟨cs,h,rfl⟩:=h;obtain rfl:=Jh h
 rfl
theorem RL {m:M} {v:Value} {x:aK} (h:RV br m v x): ∃l,keyOf prog 57 v=some l:=by
 rw [MY h];obtain ⟨cs,h,rfl⟩:=h;obtain ⟨h0,h1⟩:=h;exact Gf (d:=250) underlying57 (by decide) underlying54 underlying55 rfl rfl (by kernel_rfl) (by kernel_rfl) (by kernel_rfl) (by kernel_rfl) (by kernel_rfl) (Jm h0.2) (Jm h1.2)
theorem RM {x y:aK} (h:Dp x=Dp y):x=y:=by
 obtain ⟨a0,a1⟩:=x;obtain ⟨b0,b1⟩:=y;simp [Dp] at h;simp [h]
def FL:Cf prog 57 br:=⟨Dp,MY,RM,deep_law_laid PX (m:=2) (by omega) (of_decide_eq_true (by kernel_rfl)) (by kernel_rfl) (by rw [underlying57]),RL⟩
def sR:List Value:=[.int .i64 0,.slice none 0 0,.slice none 0 0]
theorem BN: ∀m,cd.R m sR aH.zero:=fun _=>⟨⟨rfl,aw (by decide)⟩,⟨⟨none,0,0,rfl,rfl,Zl _,(by decide),rfl⟩,⟨none,0,0,rfl,rfl,Zl _,(by decide),rfl⟩⟩⟩
theorem PY:du prog 178 kA4:=⟨sizeOf178,isAgg178⟩
theorem PZ:vt prog 178 kA4:=RA underlying178 type5 (by kernel_rfl) underlying5 isAgg5 (by kernel_rfl)
theorem oh:cM prog 120 0 0:=cE underlying120 rfl sizeOf3 (by decide) rfl
theorem pD:cM prog 120 1 1:=cE underlying120 rfl sizeOf49 (by decide) rfl
theorem el3:nM prog 3 1 8:=⟨⟨t3,_,type3,rfl,rfl,rfl,rfl⟩⟩
theorem ol:cM prog 120 2 2:=cE underlying120 rfl sizeOf50 (by decide) rfl
theorem Dq:du prog 50 (kSl ab):=⟨sizeOf50,isAgg50⟩
def RN:List Value:=[.int .u64 0,.int .u32 0]
theorem Dr: ∀m,br.R m RN aK.zero:=fun _=>⟨⟨rfl,aw (by decide)⟩,⟨rfl,aw (by decide)⟩⟩
theorem MZ:cM prog 62 3 3:=cE underlying62 rfl sizeOf50 (by decide) rfl
theorem M0:cM prog 62 0 0:=cE underlying62 rfl sizeOf3 (by decide) rfl
theorem M1:cM prog 62 1 1:=cE underlying62 rfl sizeOf49 (by decide) rfl
theorem M2:cM prog 62 2 2:=cE underlying62 rfl sizeOf49 (by decide) rfl
open Go.Proofs Go.Shelf Go.Lib
open Go.Sort (putRowK flatK HoldsK SWO PermIn SortedIn)

section
variable {P:Program} {W0:Bse} {m:M} {L:List (Nat×List Value)} {TL:List (Nat×Value)} {w:World} {α:Type} {k:Kd α} {b:Nat} {cs:List Value} {xs:List α}
theorem S.rebase (h:S W0 m w L TL):S ⟨w,fun _=>none⟩ m w [] []:=
 ⟨⟨Bel.refl _ _,fun k o h=>by cases h⟩,h.imm,fun i e he=>by simp at he,fun i j e e' he=>by simp at he,fun i e he=>by simp at he,fun i j e e' he=>by simp at he⟩
theorem M3 (l:List (El k m xs)):Rl k m (l.flatMap fun a=>a.1.1) (l.map fun a=>a.1.2):=by
 induction l with
 |nil=>exact Rl.nil
 |cons a r ih=>exact Rl.app (Rl.single a.2.1) ih
theorem FM {ρ:Ren} {v fv:Value} {cmp:α→α→Option Int} {r:List α} (Ly:SlLaysF0.n6 P ρ) (aE: ∀w,(isAgg (ρ.t 24)).run P w= .ok true w) (zE: ∀w,(Go.sizeOf (ρ.t 24)).run P w= .ok k.sz w) (hagg:k.agg=true)
  (hS:S W0 m w ((b,cs)::L) TL) (hg:GS k m b cs v xs) (hf:Fn2 P k k (aj .i64) m fv cmp) (h:wX cmp xs=some r):
  Calls P (ρ.f 6) [v,fv].toArray w (Ret fun _ w'=> ∃m',M.le m m'∧ ∃q0:List Value,S W0 m' w' ((b,q0)::L) TL∧GS k m' b q0 v r):=by
 obtain ⟨g,cb,rfl,eg,hcall⟩:=hf;obtain ⟨hgood,hperm,hpw⟩:=yE h;have hrl:r.length=xs.length:=hperm.length_eq
 by_cases hx:xs=[]
 ·subst hx
  have hr:r=[]:=Zg hrl;subst hr;obtain ⟨a,cap,rfl,_⟩:=hg.val;refine (AnyF.slices_SortFunc_none Ly a cap (.func (.func g) #[] cb) w).mono ?_;rintro e w' ⟨rfl,rfl⟩;exact ⟨m,M.le.refl m,cs,hS,hg⟩
 ·have hg':=hg
  obtain ⟨h0,⟨rfl,_⟩|⟨cap,rfl,h2,h3,h4⟩⟩:=hg
  ·exact absurd rfl hx
  have hn:0<xs.length:=List.length_pos_iff.2 hx;have hp:=k.pos;have hle:xs.length*k.sz≤cap*k.sz:=Nat.mul_le_mul_right _ h2;have hpos:0<xs.length*k.sz:=Nat.mul_pos hn hp;have hne:cs≠[]:=fun e=>by subst e;simp at h3;omega
  obtain ⟨dl,hd1,hd2⟩:=EJ h4
  have hdl:dl.length=xs.length:=by
   have:=congrArg List.length hd1;simpa using this
  obtain ⟨hB,hm,t,ht⟩:=hS.own 0 _ rfl hne;simp only at hB hm ht;have hi:Inhabited (El k m xs):=⟨dl[0]'(by omega)⟩
  have hblk:b<w.heap.size:=(Array.getElem?_eq_some_iff.1 ht).1
  -- the worlds of the sort
  have hworld: ∀(mm:Nat) (os:Array Obj) (dk:Array (El k m xs)),dk.size=xs.length→sortWorldK (fun a:El k m xs=>a.1.1) k.sz w b 0 mm dk os=Go.Sort.grow ((Go.Sort.ahead w mm).setRow b (((dk.toList.flatMap fun a=>a.1.1)++cs.drop (xs.length*k.sz)).toArray)) os:=by
   intro mm os dk hdk;unfold sortWorldK;rw [F9 _ _ (Go.Sort.ahead w mm) b cs t dk ht (by rw [hdk];omega),B9,hdk]
  have hSw: ∀(mm:Nat) (os:Array Obj) (q:List Value),S W0 m (Go.Sort.grow ((Go.Sort.ahead w mm).setRow b q.toArray) os) ((b,q)::L) TL:=fun mm os q=>((hS.aheadN mm).setL (i:=0) rfl hne q).more os;have hcf: ∀x y:El k m xs,∃c,cmp x.1.2 y.1.2=some c∧inR .i64 c:=fun x y=>hgood.1 _ x.2.2 _ y.2.2
  have hcmp:CmpLays P g cb (fun a:El k m xs=>a.1.1) k.sz (fun x y=>(cmp x.1.2 y.1.2).getD 0) b 0 dl.toArray.size w:=by
   intro mm os dk hdk x y;rw [hworld mm os dk (by rw [hdk];simpa using hdl)];generalize hw1:Go.Sort.grow ((Go.Sort.ahead w mm).setRow b _) os=w1;have hS1:=(hSw mm os ((dk.toList.flatMap fun a=>a.1.1)++cs.drop (xs.length*k.sz))).rebase;rw [hw1] at hS1;obtain ⟨c,hc,_⟩:=hcf x y;have hv: ∀z:El k m xs,Value.agg z.1.1.toArray=k.val z.1.1:=fun z=>by simp [Kd.val,hagg]
   rw [hv x,hv y];refine (hcall ⟨w1,fun _=>none⟩ m w1 [] [] _ _ x.1.2 y.1.2 c (M.le.refl m) hS1 ⟨_,x.2.1,rfl⟩ ⟨_,y.2.1,rfl⟩ hc).mono ?_;intro e w' he;cases e with
   |returned u=>
    obtain ⟨m',_,hS2,hu⟩:=he;obtain ⟨rfl,_⟩:=aI hu;exact ⟨by simp [hc],B8 hS2.below.toBel⟩
   |panicked ch=>exact he.elim
   |outgrown=>exact he.elim
  have hO:SWO (ltOf fun x y:El k m xs=>(cmp x.1.2 y.1.2).getD 0):=by
   refine ⟨fun x=> ?_,fun x y z h1 h2=> ?_,fun x y z h1 h2=> ?_⟩
   ·simp only [ltOf,decide_eq_false_iff_not];exact hgood.2.1 _ x.2.2
   ·simp only [ltOf,decide_eq_true_eq] at*;exact hgood.2.2.1 _ x.2.2 _ y.2.2 _ z.2.2 h1 h2
   ·simp only [ltOf,decide_eq_false_iff_not] at*;exact hgood.2.2.2.1 _ x.2.2 _ y.2.2 _ z.2.2 h1 h2
  have hH:HoldsK (fun a:El k m xs=>a.1.1) k.sz w b 0 dl.toArray:=by
   intro j hj;have hj':j<xs.length*k.sz:=by simpa [hdl] using hj
   have hfl:=B9 dl.toArray
   have e1:(flatK (fun a:El k m xs=>a.1.1) k.sz dl.toArray)[j]! =cs[j]'(by omega):=by
    rw [getElem!_pos _ j (by simpa [hdl] using hj')]
    have:(flatK (fun a:El k m xs=>a.1.1) k.sz dl.toArray).toList[j]? =cs[j]? :=by
     rw [hfl];show (dl.flatMap _)[j]? =_;rw [hd2,List.getElem?_take,if_pos hj']
    rw [Z1 (by simpa [hdl] using hj'),Z1 (by omega)] at this;injection this with this
   refine ⟨?_,?_⟩
   ·rw [e1]
    simp [World.cell?,ht,show j<cs.length by omega]
   ·simp [World.frozen?,ht]
  have hcon:=AnyQ.slices_SortFunc Ly k.sz aE zE (fun a:El k m xs=>a.1.1) (fun x=>k.len x.2.1) (fun x v hv=>k.one x.2.1 v hv) (fun x y=>(cmp x.1.2 y.1.2).getD 0) hO g cb b 0 cap dl.toArray w eg hcmp hH hblk (by have:xs.length≤281474976710656:=h0;simp [hdl];omega);have hds:dl.toArray.size=xs.length:=by simpa using hdl
  rw [hds] at hcon;refine hcon.mono ?_;rintro e w' ⟨rfl,d',n,os,hpi,hso,rfl⟩;have hd's:d'.size=xs.length:=by rw [hpi.1,hds]
  rw [hworld n os d' hd's];refine ⟨m,M.le.refl m,_,hSw n os _,?_⟩;have hR:=M3 d'.toList
  have hmap:(d'.toList.map fun a=>a.1.2)=r:=by
   have hp1:(d'.toList.map fun a=>a.1.2).Perm xs:=by
    have:=hpi.2.2;rw [←hd's,Array.extract_size] at this;rw [hd's, ←hds,Array.extract_size] at this;have h9:=this.map (fun a:El k m xs=>a.1.2);rw [List.toList_toArray,hd1] at h9;exact h9
   have hpw1:(d'.toList.map fun a=>a.1.2).Pairwise (fun x y=> ¬ (cmp y x).getD 0<0):=by
    rw [List.pairwise_map,Zy];intro i j hi' hj' hij;have:=hso i j (Nat.zero_le _) hij (by simpa [hd's] using hj');rw [getElem!_pos d' i (by simpa using hi'),getElem!_pos d' j (by simpa using hj')] at this;simpa [ltOf] using this
   refine List.Perm.eq_of_pairwise (le:=fun x y=> ¬ (cmp y x).getD 0<0) ?_ hpw1 hpw (hp1.trans hperm.symm);intro x y hx' hy' h1 h2;exact hgood.2.2.2.2 x (hp1.mem_iff.1 hx') y (hperm.mem_iff.1 hy') h2 h1
  have hfl:(d'.toList.flatMap fun a=>a.1.1).length=xs.length*k.sz:=by
   have:=hR.1;simpa [hd's] using this
  refine ⟨by rw [hrl];exact h0,.inr ⟨cap,by rw [hrl],by rw [hrl];exact h2,by simp [hfl];omega,?_⟩⟩;rw [hrl,List.take_append_of_le_length (by omega),Z4 (by omega), ←hmap];exact hR
end
open Go.Proofs Tryz
def xI:Go.Shelf.Ren:=⟨fun|6=>148|15=>152|14=>178|28=>179|29=>154|20=>186|21=>187|22=>188|23=>189|24=>190|25=>191|26=>192|27=>193|46=>199|47=>200|48=>201|49=>202|50=>203|57=>204|n=>n,fun|22=>22|24=>32|25=>134|3=>3|39=>94|0=>0|53=>55|55=>54|4=>4|46=>219|45=>218|50=>78|5=>5|9=>9|66=>228|70=>231|76=>233|77=>234|n=>n,fun n=>n⟩
theorem KX:SlLaysF0.n6 prog xI:={
 mixed:=by kernel_rfl
 f6:=⟨f148.name,by decide,func148.trans (congrArg some (by kernel_rfl))⟩
 f14:=⟨f178.name,by decide,func178.trans (congrArg some (by kernel_rfl))⟩
 f15:=func152.trans (congrArg some (by kernel_rfl))
 f20:=⟨f186.name,by decide,func186.trans (congrArg some (by kernel_rfl))⟩
 f21:=⟨f187.name,by decide,func187.trans (congrArg some (by kernel_rfl))⟩
 f22:=⟨f188.name,by decide,func188.trans (congrArg some (by kernel_rfl))⟩
 f23:=⟨f189.name,by decide,func189.trans (congrArg some (by kernel_rfl))⟩
 f24:=⟨f190.name,by decide,func190.trans (congrArg some (by kernel_rfl))⟩
 f25:=⟨f191.name,by decide,func191.trans (congrArg some (by kernel_rfl))⟩
 f26:=⟨f192.name,by decide,func192.trans (congrArg some (by kernel_rfl))⟩
 f27:=⟨f193.name,by decide,func193.trans (congrArg some (by kernel_rfl))⟩
 f28:=func179.trans (congrArg some (by kernel_rfl))
 f29:=func154.trans (congrArg some (by kernel_rfl))
 f46:=⟨f199.name,by decide,func199.trans (congrArg some (by kernel_rfl))⟩
 f47:=func200.trans (congrArg some (by kernel_rfl))
 f48:=func201.trans (congrArg some (by kernel_rfl))
 f49:=⟨f202.name,by decide,func202.trans (congrArg some (by kernel_rfl))⟩
 f50:=⟨f203.name,by decide,func203.trans (congrArg some (by kernel_rfl))⟩
 f57:=⟨f204.name,by decide,func204.trans (congrArg some (by kernel_rfl))⟩
 t0:=underlying0
 a0:=isAgg0
 z0:=sizeOf0
 v0:=zeroValue0
 t3:=underlying3
 a3:=isAgg3
 z3:=sizeOf3
 v3:=zeroValue3
 t4:=underlying4
 a4:=isAgg4
 z4:=sizeOf4
 v4:=zeroValue4
 t5:=underlying5
 a5:=isAgg5
 z5:=sizeOf5
 v5:=zeroValue5
 t9:=underlying9
 a9:=isAgg9
 z9:=sizeOf9
 v9:=zeroValue9
 t22:=underlying22
 a22:=isAgg22
 z22:=sizeOf22
 v22:=zeroValue22
 t25:=underlying134
 a25:=isAgg134
 z25:=sizeOf134
 v25:=zeroValue134
 t39:=underlying94
 a39:=isAgg94
 z39:=sizeOf94
 v39:=zeroValue94
 t45:=underlying218
 a45:=isAgg218
 z45:=sizeOf218
 v45:=zeroValue218
 t46:=underlying219
 a46:=isAgg219
 z46:=sizeOf219
 v46:=zeroValue219
 t50:=underlying78
 a50:=isAgg78
 z50:=sizeOf78
 v50:=zeroValue78
 t53:=underlying55
 a53:=isAgg55
 z53:=sizeOf55
 v53:=zeroValue55
 t55:=underlying54
 a55:=isAgg54
 z55:=sizeOf54
 v55:=zeroValue54
 t66:=underlying228
 a66:=isAgg228
 z66:=sizeOf228
 v66:=zeroValue228
 t70:=underlying231
 a70:=isAgg231
 z70:=sizeOf231
 v70:=zeroValue231
 t76:=underlying233
 a76:=isAgg233
 z76:=sizeOf233
 v76:=zeroValue233
 t77:=underlying234
 a77:=isAgg234
 z77:=sizeOf234
 v77:=zeroValue234
}
set_option maxRecDepth 100000
open Go.Proofs Tryz
theorem P0:du prog 161 iK:=⟨sizeOf161,isAgg161⟩
theorem RO:du prog 62 b8:=⟨sizeOf62,isAgg62⟩
def RQ:List Value:=[.int .i64 0,.slice none 0 0,.slice none 0 0,.slice none 0 0]
theorem M4: ∀m,b8.R m RQ da.zero:=fun _=>⟨⟨rfl,aw (by decide)⟩,⟨⟨none,0,0,rfl,rfl,Zl _,(by decide),rfl⟩,⟨⟨none,0,0,rfl,rfl,Zl _,(by decide),rfl⟩,⟨none,0,0,rfl,rfl,Zl _,(by decide),rfl⟩⟩⟩⟩
theorem P1:du prog 120 cd:=⟨sizeOf120,isAgg120⟩
theorem RR:nM prog 22 1 24:=⟨⟨t22,_,type22,rfl,rfl,rfl,rfl⟩⟩
def Sz:Sg:=RD [(32,⟨Ap,kAp⟩),(57,⟨aK,br⟩),(59,⟨aa,ab⟩),(187,⟨aS,cu⟩),(34,⟨bI,cS⟩),(155,⟨dT,cJ⟩),(37,⟨dm,fj⟩),(120,⟨aH,cd⟩),(161,⟨ai,iK⟩),(62,⟨da,b8⟩)]
def ti2:TI prog Sz 2:=ox underlying2 sizeOf2 isAgg2 zeroValue2 rfl (by decide)
def ti3:TI prog Sz 3:=ox underlying3 sizeOf3 isAgg3 zeroValue3 rfl (by decide)
def ti4:TI prog Sz 4:=LK underlying4 sizeOf4 isAgg4 zeroValue4 rfl
def ti5:TI prog Sz 5:=ox underlying5 sizeOf5 isAgg5 zeroValue5 rfl (by decide)
def ti6:TI prog Sz 6:=ox underlying6 sizeOf6 isAgg6 zeroValue6 rfl (by decide)
def ti9:TI prog Sz 9:=E7 underlying9 sizeOf9 isAgg9 zeroValue9 rfl
def RS:TI prog Sz 10:=E7 underlying10 sizeOf10 isAgg10 zeroValue10 rfl
def RT:TI prog Sz 11:=E7 underlying11 sizeOf11 isAgg11 zeroValue11 rfl
def RU:TI prog Sz 12:=ox underlying12 sizeOf12 isAgg12 zeroValue12 rfl (by decide)
def RW:TI prog Sz 21:=ox underlying21 sizeOf21 isAgg21 zeroValue21 rfl (by decide)
def RX:TI prog Sz 25:=ox underlying25 sizeOf25 isAgg25 zeroValue25 rfl (by decide)
def M5:TI prog Sz 54:=ox underlying54 sizeOf54 isAgg54 zeroValue54 rfl (by decide)
def M6:TI prog Sz 55:=ox underlying55 sizeOf55 isAgg55 zeroValue55 rfl (by decide)
def RY:TI prog Sz 94:=ox underlying94 sizeOf94 isAgg94 zeroValue94 rfl (by decide)
def P2:TI prog Sz 218:=ox underlying218 sizeOf218 isAgg218 zeroValue218 rfl (by decide)
def RZ:TI prog Sz 24:=up _ (slI ti5 _ 1 underlying24 sizeOf5 el5 type5 rfl rfl rfl) sizeOf24 isAgg24 zeroValue24 rfl
def M7:TI prog Sz 32:=sZ eG zeroValue32 Ap.zero pC
def R0:TI prog Sz 49:=up _ (slI ti3 _ 8 underlying49 sizeOf3 el3 type3 rfl rfl rfl) sizeOf49 isAgg49 zeroValue49 rfl
def R3:TI prog Sz 57:=sZ yu zeroValue57 aK.zero Dr
def P3:TI prog Sz 143:=up _ (slI ti2 _ 8 underlying143 sizeOf2 el2 type2 rfl rfl rfl) sizeOf143 isAgg143 zeroValue143 rfl
def P4:TI prog Sz 189:=up _ (slI M5 _ 8 underlying189 sizeOf54 MM type54 rfl rfl rfl) sizeOf189 isAgg189 zeroValue189 rfl
def M8:TI prog Sz 22:=up _ (slI M7 _ 40 underlying22 sizeOf32 Dk type32 rfl rfl rfl) sizeOf22 isAgg22 zeroValue22 rfl
def R4:TI prog Sz 34:=sZ yr zeroValue34 bI.zero yq
def R5:TI prog Sz 37:=sZ RI zeroValue37 dm.zero MN
def JD:TI prog Sz 155:=sZ xp zeroValue155 dT.zero BL
def P5:TI prog Sz 161:=sZ P0 zeroValue161 ai.zero JB
def JE:TI prog Sz 187:=sZ PV zeroValue187 aS.zero FJ
def M9:TI prog Sz 59:=sZ fk zeroValue59 aa.zero yt
def P6:TI prog Sz 126:=up _ (slI M8 _ 24 underlying126 sizeOf22 RR type22 rfl rfl rfl) sizeOf126 isAgg126 zeroValue126 rfl
def P7:TI prog Sz 152:=up _ (slI JD _ 48 underlying152 sizeOf155 BM type155 rfl rfl rfl) sizeOf152 isAgg152 zeroValue152 rfl
def P8:TI prog Sz 185:=up _ (slI JE _ 48 underlying185 sizeOf187 Jz type187 rfl rfl rfl) sizeOf185 isAgg185 zeroValue185 rfl
def R6:TI prog Sz 50:=up _ (slI M9 _ 48 underlying50 sizeOf59 MW type59 rfl rfl rfl) sizeOf50 isAgg50 zeroValue50 rfl
def R7:TI prog Sz 62:=sZ RO zeroValue62 da.zero M4
def P9:TI prog Sz 120:=sZ P1 zeroValue120 aH.zero BN
def Qa:AI prog Sz 177:=arI M6 16 underlying177 sizeOf55 zeroValue177 rfl rfl
def Qb:AI prog Sz 178:=arI ti5 4 underlying178 sizeOf5 zeroValue178 rfl rfl
def Qc:AI prog Sz 224:=arI ti5 8 underlying224 sizeOf5 zeroValue224 rfl rfl
def Na:FI prog Sz 32 0:=⟨(.int .i64),⟨0,fun x=>x.fKind,fun x y=>{ x with fKind:=y },L8,Di⟩,Dl⟩
def Nb:FI prog Sz 32 1:=⟨.bool,⟨1,fun x=>x.fBool,fun x y=>{ x with fBool:=y },L9,Ma⟩,MK⟩
def Nc:FI prog Sz 32 2:=⟨(.int .i64),⟨2,fun x=>x.fInt,fun x y=>{ x with fInt:=y },Mb,Dj⟩,t8⟩
def Nd:FI prog Sz 32 3:=⟨.str,⟨3,fun x=>x.fText,fun x y=>{ x with fText:=y },Mc,Md⟩,ML⟩
def R8:BI prog Sz 32:=⟨_,[(0,1),(1,1),(2,1),(3,1)],Ap.zero,_,underlying32,rfl,zeroValue32,pC,rfl⟩
def Nf:FI prog Sz 57 0:=⟨(.int .u64),⟨0,fun x=>x.fEpoch,fun x y=>{ x with fEpoch:=y },Mx,wC⟩,zn⟩
def Ng:FI prog Sz 57 1:=⟨(.int .u32),⟨1,fun x=>x.fNumber,fun x y=>{ x with fNumber:=y },My,Hq⟩,zo⟩
def R9:BI prog Sz 57:=⟨_,[(0,1),(1,1)],aK.zero,_,underlying57,rfl,zeroValue57,Dr,rfl⟩
def Nh:FI prog Sz 59 0:=⟨(.st 57),⟨0,fun x=>x.fId,fun x y=>{ x with fId:=y },zk,wD⟩,qk⟩
def Ni:FI prog Sz 59 1:=⟨(.sl (.st 32)),⟨2,fun x=>x.fRow,fun x y=>{ x with fRow:=y },Mz,zl⟩,wH⟩
def Nj:FI prog Sz 59 2:=⟨(.int .u64),⟨3,fun x=>x.fDeleted,fun x y=>{ x with fDeleted:=y },MA,Hr⟩,Ht⟩
def Sa:BI prog Sz 59:=⟨_,[(0,2),(2,1),(3,1)],aa.zero,_,underlying59,rfl,zeroValue59,yt,rfl⟩
def KY:FI prog Sz 187 0:=⟨(.int .i64),⟨0,fun x=>x.fMany,fun x y=>{ x with fMany:=y },KN,Ak⟩,Aq⟩
def KZ:FI prog Sz 187 1:=⟨(.st 32),⟨1,fun x=>x.fValue,fun x y=>{ x with fValue:=y },KO,Eu⟩,EA⟩
def Qd:BI prog Sz 187:=⟨_,[(0,1),(1,4)],aS.zero,_,underlying187,rfl,zeroValue187,FJ,rfl⟩
def Nk:FI prog Sz 34 0:=⟨(.int .i64),⟨0,fun x=>x.fKind,fun x y=>{ x with fKind:=y },Me,Hl⟩,Do⟩
def Nl:FI prog Sz 34 1:=⟨(.int .i64),⟨1,fun x=>x.fMany,fun x y=>{ x with fMany:=y },Mf,Hm⟩,Hs⟩
def Nm:FI prog Sz 34 2:=⟨(.st 32),⟨2,fun x=>x.fMin,fun x y=>{ x with fMin:=y },Mg,Hn⟩,Dm⟩
def Nn:FI prog Sz 34 3:=⟨(.st 32),⟨6,fun x=>x.fMax,fun x y=>{ x with fMax:=y },Mh,Ho⟩,Dn⟩
def No:FI prog Sz 34 4:=⟨(.int .i64),⟨10,fun x=>x.fNulls,fun x y=>{ x with fNulls:=y },Mi,Hp⟩,wG⟩
def Np:FI prog Sz 34 5:=⟨(.int .i64),⟨11,fun x=>x.fBytes,fun x y=>{ x with fBytes:=y },Mj,Mk⟩,zm⟩
def Sb:BI prog Sz 34:=⟨_,[(0,1),(1,1),(2,4),(6,4),(10,1),(11,1)],bI.zero,_,underlying34,rfl,zeroValue34,yq,rfl⟩
def K0:FI prog Sz 155 0:=⟨(.int .i64),⟨0,fun x=>x.fMany,fun x y=>{ x with fMany:=y },KP,Al⟩,Ar⟩
def K1:FI prog Sz 155 1:=⟨(.st 32),⟨1,fun x=>x.fValue,fun x y=>{ x with fValue:=y },KQ,Ev⟩,KV⟩
def Qe:BI prog Sz 155:=⟨_,[(0,1),(1,4)],dT.zero,_,underlying155,rfl,zeroValue155,BL,rfl⟩
def Nq:FI prog Sz 37 0:=⟨(.int .i64),⟨0,fun x=>x.fKind,fun x y=>{ x with fKind:=y },Ml,Mm⟩,MU⟩
def Nr:FI prog Sz 37 1:=⟨(.int .i64),⟨1,fun x=>x.fMany,fun x y=>{ x with fMany:=y },Mn,Mo⟩,MR⟩
def Ns:FI prog Sz 37 2:=⟨(.st 32),⟨2,fun x=>x.fMin,fun x y=>{ x with fMin:=y },Mp,Mq⟩,MO⟩
def Nt:FI prog Sz 37 3:=⟨(.st 32),⟨6,fun x=>x.fMax,fun x y=>{ x with fMax:=y },Mr,Ms⟩,MP⟩
def Nu:FI prog Sz 37 4:=⟨(.int .i64),⟨10,fun x=>x.fNulls,fun x y=>{ x with fNulls:=y },Mt,Mu⟩,MQ⟩
def Nv:FI prog Sz 37 5:=⟨(.int .i64),⟨11,fun x=>x.fBytes,fun x y=>{ x with fBytes:=y },Mv,Mw⟩,MT⟩
def Sc:BI prog Sz 37:=⟨_,[(0,1),(1,1),(2,4),(6,4),(10,1),(11,1)],dm.zero,_,underlying37,rfl,zeroValue37,MN,rfl⟩
def K2:FI prog Sz 120 0:=⟨(.int .i64),⟨0,fun x=>x.fColumns,fun x y=>{ x with fColumns:=y },Ex,Ey⟩,oh⟩
def K3:FI prog Sz 120 1:=⟨(.sl (.int .i64)),⟨1,fun x=>x.fSort,fun x y=>{ x with fSort:=y },Am,Ez⟩,pD⟩
def K4:FI prog Sz 120 2:=⟨(.sl (.st 59)),⟨2,fun x=>x.fL,fun x y=>{ x with fL:=y },rc,KU⟩,ol⟩
def Qf:BI prog Sz 120:=⟨_,[(0,1),(1,1),(2,1)],aH.zero,_,underlying120,rfl,zeroValue120,BN,rfl⟩
def K5:FI prog Sz 161 0:=⟨(.sl (.int .u8)),⟨0,fun x=>x.fB,fun x y=>{ x with fB:=y },KR,KS⟩,KW⟩
def K6:FI prog Sz 161 1:=⟨.bool,⟨1,fun x=>x.fOk,fun x y=>{ x with fOk:=y },KT,Ew⟩,EB⟩
def Qg:BI prog Sz 161:=⟨_,[(0,1),(1,1)],ai.zero,_,underlying161,rfl,zeroValue161,JB,rfl⟩
def Nw:FI prog Sz 62 0:=⟨(.int .i64),⟨0,fun x=>x.fColumns,fun x y=>{ x with fColumns:=y },MB,MC⟩,M0⟩
def Nx:FI prog Sz 62 1:=⟨(.sl (.int .i64)),⟨1,fun x=>x.fSort,fun x y=>{ x with fSort:=y },MD,ME⟩,M1⟩
def Ny:FI prog Sz 62 2:=⟨(.sl (.int .i64)),⟨2,fun x=>x.fKinds,fun x y=>{ x with fKinds:=y },MG,MH⟩,M2⟩
def Nz:FI prog Sz 62 3:=⟨(.sl (.st 59)),⟨3,fun x=>x.fL,fun x y=>{ x with fL:=y },MI,MJ⟩,MZ⟩
def Sd:BI prog Sz 62:=⟨_,[(0,1),(1,1),(2,1),(3,1)],da.zero,_,underlying62,rfl,zeroValue62,M4,rfl⟩
def NA:EI prog Sz 32:=⟨inferInstanceAs (DecidableEq Ap),yo,rfl⟩
def NB:EI prog Sz 57:=⟨inferInstanceAs (DecidableEq aK),MX,rfl⟩
def NC:EI prog Sz 37:=⟨inferInstanceAs (DecidableEq dm),RK,rfl⟩
def Γ:Tab prog Sz:=⟨yR [⟨2,ti2⟩,⟨3,ti3⟩,⟨4,ti4⟩,⟨5,ti5⟩,⟨6,ti6⟩,⟨9,ti9⟩,⟨10,RS⟩,⟨11,RT⟩,⟨12,RU⟩,⟨21,RW⟩,⟨22,M8⟩,⟨24,RZ⟩,⟨25,RX⟩,⟨32,M7⟩,⟨34,R4⟩,⟨37,R5⟩,⟨49,R0⟩,⟨50,R6⟩,⟨54,M5⟩,⟨55,M6⟩,⟨57,R3⟩,⟨59,M9⟩,⟨62,R7⟩,⟨94,RY⟩,⟨120,P9⟩,⟨126,P6⟩,⟨143,P3⟩,⟨152,P7⟩,⟨155,JD⟩,⟨161,P5⟩,⟨185,P8⟩,⟨187,JE⟩,⟨189,P4⟩,⟨218,P2⟩],yR [⟨177,Qa⟩,⟨178,Qb⟩,⟨224,Qc⟩],CC [⟨32,0,Na⟩,⟨32,1,Nb⟩,⟨32,2,Nc⟩,⟨32,3,Nd⟩,⟨57,0,Nf⟩,⟨57,1,Ng⟩,⟨59,0,Nh⟩,⟨59,1,Ni⟩,⟨59,2,Nj⟩,⟨187,0,KY⟩,⟨187,1,KZ⟩,⟨34,0,Nk⟩,⟨34,1,Nl⟩,⟨34,2,Nm⟩,⟨34,3,Nn⟩,⟨34,4,No⟩,⟨34,5,Np⟩,⟨155,0,K0⟩,⟨155,1,K1⟩,⟨37,0,Nq⟩,⟨37,1,Nr⟩,⟨37,2,Ns⟩,⟨37,3,Nt⟩,⟨37,4,Nu⟩,⟨37,5,Nv⟩,⟨120,0,K2⟩,⟨120,1,K3⟩,⟨120,2,K4⟩,⟨161,0,K5⟩,⟨161,1,K6⟩,⟨62,0,Nw⟩,⟨62,1,Nx⟩,⟨62,2,Ny⟩,⟨62,3,Nz⟩],yR [⟨32,NA⟩,⟨57,NB⟩,⟨37,NC⟩],yR [⟨32,R8⟩,⟨57,R9⟩,⟨59,Sa⟩,⟨187,Qd⟩,⟨34,Sb⟩,⟨155,Qe⟩,⟨37,Sc⟩,⟨120,Qf⟩,⟨161,Qg⟩,⟨62,Sd⟩]⟩
def mC {f:FuncId} {ps:List Pm} {rs:List Rm} {g:dV Sz ps→Option (bC Sz (gO ps rs))} (ok:Ctr Sz prog f ps rs g) (hc: ∀vs w,(callFunc f vs).run prog w= .ok (.enter f vs) w):CS prog Sz:=⟨f,ps,rs,g,ok,hc⟩
theorem ncR {f:FuncId} {fn:Func} {n:Nat} {ps:List Pm} {rs:List Rm} {g:dV Sz ps→Option (bC Sz (gO ps rs))} (D:List (CS prog Sz)) (res:List Nat) (hf:prog.funcs[f]? =some fn) (hn:fn.ntmps=n) (A:An Sz (bC Sz (gO ps rs))) (h: ∀x,exF n Γ D (fn.body.getD .skip) ps rs res A x=g x)
  (hA:A.nc=true:=by exact rfl) (hb:fn.body=some (fn.body.getD .skip):=by exact rfl) (hle:Nat.ble ps.length n=true:=by exact rfl) (hres:fn.results.toList=res.map ResultVar.tmp:=by exact rfl):Ctr Sz prog f ps rs g:=Ctr.nc A hA mixed hf hb hn hle hres h
theorem nxR {f:FuncId} {fn:Func} {n:Nat} {ps:List Pm} {rs:List Rm} {g:dV Sz ps→Option (bC Sz (gO ps rs))} (D:List (CS prog Sz)) (res:List ResultVar) (hf:prog.funcs[f]? =some fn) (hn:fn.ntmps=n) (A:An Sz (bC Sz (gO ps rs))) (h: ∀x,exX n Γ D (fn.body.getD .skip) ps rs res A x=g x)
  (hA:A.nc=true:=by exact rfl) (hb:fn.body=some (fn.body.getD .skip):=by exact rfl) (hle:Nat.ble ps.length n=true:=by exact rfl) (hres:fn.results.toList=res:=by exact rfl):Ctr Sz prog f ps rs g:=Ctr.nX A hA mixed hf hb hn hle hres h
end
end Go.Proofs.YthbonoagbeilkaaGreat.Hay
