import Derived.Test.YthbonoagbeilkaaGreatHcW
import Derived.Test.YthbonoagbeilkaaGreatExX
import Derived.Test.YthbonoagbeilkaaGreatProg
import Derived.Test.YthbonoagbeilkaaGreatHbM
import Derived.Shelf.SlSortCmp.NoneTotal
import Derived.Shelf.SlLaysF0
set_option linter.unusedVariables false
set_option linter.unusedSimpArgs false
namespace Go.Proofs.YthbonoagbeilkaaGreat.Hay
noncomputable section
open Option renaming bind_some→Z0,all_some→Zk,map_some→X9,getD_some→Xc
open List renaming getElem?_eq_getElem→Z1,length_append→Z2,drop_eq_getElem_cons→Z3,take_of_length_le→Z4,take_append_drop→Z5,drop_of_length_le→Z6,append_assoc→Z7,range→Z8,getElem_mem→Z9,map_append→Za,take_length→Zb,getElem_of_mem→Zf,eq_nil_of_length_eq_zero→Zg,all_eq_true→Zj,contains_eq_mem→Zm,getElem?_take_of_lt→Zn,flatten_append→Zo,mem_range→Zp,mem_of_getElem?→Zt,cons_append→Zu,map_congr_left→Zv,nil_append→Zw,append_nil→Zx,drop_left'→Zy,pairwise_iff_getElem→X3,length_eq_one_iff→X4,length_take→X6,length_drop→X7,drop_length→X8,drop_zero→Xa,drop_left→Xb,mem_cons→Xd,map_cons→Xe,mem_map→Xf
open Nat renaming le_refl→Zl,strongRecOn→X5
open Bool renaming eq_false_or_eq_true→Zd,not_eq_true'→Ze,and_eq_true→Zi,and_eq_false_iff→Zr,or_eq_false_iff→Zs,eq_iff_iff→Zz
open Int renaming emod_eq_of_lt→Zc,eq_ofNat_of_zero_le→Zh
open BitVec renaming ofInt→Xg
open IntKind renaming i64→Zq,u8→Xh
section
variable {lt:aa→aa→Bool} {p:aa→aa→Option Int}
theorem Pj (h : Swo lt) (hp : Cmp lt p) {self_ : List aa → Int → Int → Int → (aa → aa → Option Int) → Option (List aa)} {N : Nat} (hself : FC lt p self_ N) :
    FC lt p (c8 self_) (N+1):=by
  intro L A B R a m b xs hA0 hB0 ha hm hb hxs hN hn hA hB;have hlen:xs.length=L.length+A.length+B.length+R.length:=by rw [hxs];simp;omega
  simp only [c8]
  by_cases hA1:A.length=1
  · rw [ak (n := m - a) (by omega), if_pos (by simp; omega)]
    obtain ⟨x,rfl⟩:=X4.1 hA1;exact KB h hp hB0 ha (by simpa using hm) (by simpa using hb) hxs hn hB
  rw [ak (n:=m - a) (by omega),if_neg (by simp;omega)]
  by_cases hB1:B.length=1
  · rw [ak (n := b - m) (by omega), if_pos (by simp; omega)]
    obtain ⟨y,rfl⟩:=X4.1 hB1;exact I0 h hp hA0 ha hm hxs hn hA
  rw [ak (n:=b - m) (by omega),if_neg (by simp;omega)];have hM:Zq.wrap (aD .u64 (IntKind.u64.wrap (Zq.wrap (a+b))) 1)=(a+b)/2:=wz (by omega);have hNn:Zq.wrap ((a+b)/2+m)=(a+b)/2+m:=ak (by omega)
  -- numbers
  obtain ⟨aN,haN⟩: ∃n:Nat,n=L.length:=⟨_,rfl⟩
  obtain ⟨mN,hmN⟩: ∃n:Nat,n=L.length+A.length:=⟨_,rfl⟩
  obtain ⟨bN,hbN⟩: ∃n:Nat,n=L.length+A.length+B.length:=⟨_,rfl⟩
  have ha':a=(aN:Int):=by omega
  have hm':m=(mN:Int):=by omega
  have hb':b=(bN:Int):=by omega
  obtain ⟨mid,hmid⟩: ∃n:Nat,n=(aN+bN)/2:=⟨_,rfl⟩
  have hmid':(a+b)/2=(mid:Int):=by omega
  rw [hmid'] at hM hNn
  -- the search
  have key: ∀lo0 hi0:Nat,aN≤lo0→lo0≤hi0→hi0≤mN→hi0≤mid→(lo0=aN∨lo0+bN=mid+mN)→(hi0=mN∨hi0=mid)→mid+mN≤lo0+bN→
      ∃T,cx xs a m b p self_ (lo0:Int) (hi0:Int)=some (L++T++R)∧Stb lt (A++B) T:=by
    intro lo0 hi0 q1 q2 q3 q4 q5 q6 q7
    obtain ⟨s,h1,h2,h3,h4,h5⟩:=Av (F:=fun s:(Int×Int)=>cw xs a m b p self_ s.1 s.2) (fun c=> !gx lt xs (mid+mN - 1 - c) c) lo0 hi0
      (fun s=>cu xs a m b p self_ (s:Int)) (fun lo hi g1 g2 g3=>by
        have hc:(lo+hi)/2<xs.length:=by omega
        have hd:mid+mN - 1 - (lo+hi)/2<xs.length:=by omega
        have ec:xs[(lo+hi)/2]? =some xs[(lo+hi)/2]:=Z1 hc;have ed:xs[mid+mN - 1 - (lo+hi)/2]? =some xs[mid+mN - 1 - (lo+hi)/2]:=Z1 hd;obtain ⟨c,hc1,hc2⟩:=hp xs[mid+mN - 1 - (lo+hi)/2] xs[(lo+hi)/2];simp only [cw];rw [if_pos (by simp;omega),hM,wz (by omega),hNn,ak (n:=(mid:Int)+m - 1) (by omega),ak (n:=(mid:Int)+m - 1 - ((lo:Int)+hi)/2) (by omega),tT ed (by omega),tT ec (by omega),hc1,Z0,hc2,zo ed ec,ak (by omega)]
        split<;>rfl)
      (fun s g1 g2=>by
        simp only [cw]
        rw [if_neg (by simp)]) q2
    unfold cx;rw [h5,Pi (mid:=(mid:Int)) (e:=((mid+mN - s:Nat):Int)) hmid'.symm (by omega) (by omega) (by omega) (by omega) (by omega) (by omega) (by omega) (by omega) (by omega)];obtain ⟨k1,hk1⟩: ∃k,s=L.length+k:=⟨s - L.length,by omega⟩
    obtain ⟨k2,hk2⟩: ∃k,mid+mN - s=L.length+A.length+k:=⟨mid+mN - s - (L.length+A.length),by omega⟩
    have hkA:k1≤A.length:=by omega
    have hkB:k2≤B.length:=by omega
    obtain ⟨c1,c2⟩:=wA h hxs hA hB k1 k2 hkA hkB
      (by rcases h4 with h4 | h4
          · rcases q6 with q6 | q6
            · right;left;omega
            · left;omega
          · by_cases e1 : k2 = 0
            · left;exact e1
            by_cases e2:k1=A.length
            · right;left;exact e2
            right;right;refine ⟨by omega,by omega,?_⟩;rw [show L.length+A.length+(k2 - 1)=mid+mN - 1 - s by omega, ←hk1]
            simpa using h4)
      (by rcases h3 with h3 | h3
          · rcases q5 with q5 | q5
            · left;omega
            · right;left;omega
          · by_cases e1 : k1 = 0
            · left;exact e1
            by_cases e2:k2=B.length
            · right;left;exact e2
            right;right;refine ⟨by omega,by omega,?_⟩;rw [show L.length+A.length+k2=mid+mN - 1 - (s - 1) by omega,show L.length+(k1 - 1)=s - 1 by omega]
            simpa using h3)
    have eA:A.take k1++A.drop k1=A:=Z5 _ _;have eB:B.take k2++B.drop k2=B:=Z5 _ _;have lA1:(A.take k1).length=k1:=by simp;omega
    have lA2:(A.drop k1).length=A.length - k1:=by simp
    have lB1:(B.take k2).length=k2:=by simp;omega
    have lB2:(B.drop k2).length=B.length - k2:=by simp
    have hx4:xs=L++A.take k1++A.drop k1++B.take k2++(B.drop k2++R):=by
      rw [hxs]
      conv=>lhs;rw [←eA, ←eB]
      simp only [Z7]
    -- the turn
    have hrot:(if (s:Int)<m∧m<((mid+mN - s:Nat):Int) then cB xs s m ((mid+mN - s:Nat):Int) p else some xs)=some (L++A.take k1++B.take k2++(A.drop k1++B.drop k2++R)):=by
      split
      · rename_i hc
        rw [LV (A:=L++A.take k1) (X:=A.drop k1) (Y:=B.take k2) (C:=B.drop k2++R) (by rw [lA2];omega) (by rw [lB1];omega) (by rw [Z2,lA1];omega) (by rw [lA2];omega) (by rw [lB1];omega)
          hx4 (by omega)]
        simp
      · rename_i hc
        rw [hx4]
        by_cases e1:k1=A.length
        · have : A.drop k1 = [] := Z6 (by omega)
          rw [this];simp only [Z7,Zw,Zx]
        · have e2 : k2 = 0 := by omega
          have:B.take k2=[]:=by rw [e2];rfl
          rw [this];simp only [Z7,Zw,Zx]
    rw [hrot,Z0]
    -- ahead
    have h1': ∃T1,(if a<(s:Int)∧(s:Int)<(mid:Int) then self_ (L++A.take k1++B.take k2++(A.drop k1++B.drop k2++R)) a s mid p else some (L++A.take k1++B.take k2++(A.drop k1++B.drop k2++R)))=some (L++T1++(A.drop k1++B.drop k2++R))∧Stb lt (A.take k1++B.take k2) T1:=by
      split
      · rename_i hc
        exact hself L (A.take k1) (B.take k2) _ a s mid _ (by omega) (by omega) ha (by rw [lA1];omega) (by rw [lA1,lB1];omega) rfl (by omega) (by simp only [Z2,lA1,lB1,lA2,lB2];omega) (hA.take _) (hB.take _)
      · rename_i hc
        refine ⟨A.take k1++B.take k2,by simp,Stb.refl ?_⟩
        by_cases e1:k1=0
        · rw [e1];simpa using hB.take k2
        · have e2 : k2 = 0 := by omega
          rw [e2];simpa using hA.take k1
    obtain ⟨T1,e1,s1⟩:=h1';rw [e1,Z0];have lT1:T1.length=k1+k2:=by rw [s1.len h,Z2,lA1,lB1]
    have h2': ∃T2,(if (mid:Int)<((mid+mN - s:Nat):Int)∧((mid+mN - s:Nat):Int)<b then self_ (L++T1++(A.drop k1++B.drop k2++R)) mid ((mid+mN - s:Nat):Int) b p else some (L++T1++(A.drop k1++B.drop k2++R)))=some (L++T1++T2++R)∧Stb lt (A.drop k1++B.drop k2) T2:=by
      split
      · rename_i hc
        exact hself (L++T1) (A.drop k1) (B.drop k2) R mid _ b _ (by omega) (by omega) (by rw [Z2,lT1];omega) (by rw [Z2,lT1,lA2];omega) (by rw [Z2,lT1,lA2,lB2];omega) (by simp) (by omega) (by simp only [Z2,lA2,lB2,lT1];omega) (hA.drop _) (hB.drop _)
      · rename_i hc
        refine ⟨A.drop k1++B.drop k2,by simp,Stb.refl ?_⟩
        by_cases e1:k1=A.length
        · rw [e1];simpa using hB.drop k2
        · have e2 : k2 = B.length := by omega
          rw [e2];simpa using hA.drop k1
    obtain ⟨T2,e2,s2⟩:=h2';rw [e2];refine ⟨T1++T2,by simp,?_⟩;have:=Stb.cat h s1 s2 (by rw [eA];exact hA) (by rw [eB];exact hB) c1 c2;rw [eA,eB] at this;exact this
  rw [hM]
  by_cases hmm:mid<mN
  · rw [if_pos (by simp; omega), hNn, ak (by omega)]
    have:=key (mid+mN - bN) mid (by omega) (by omega) (by omega) (by omega) (Or.inr (by omega)) (Or.inr rfl) (by omega);rw [show ((mid+mN - bN:Nat):Int)=(mid:Int)+m - b by omega] at this;exact this
  · rw [if_neg (by simp; omega)]
    have:=key aN mN (by omega) (by omega) (by omega) (by omega) (Or.inl rfl) (Or.inl rfl) (by omega);rw [←ha', ←hm'] at this;exact this
theorem Pk (h:Swo lt) (hp:Cmp lt p): ∀n,FC lt p (c9 n) n:=by
  intro n
  induction n with
  |zero=>intro L A B R a m b xs hA hB _ _ _ _ hN;omega
  |succ n ih=>exact Pj h hp ih
theorem G6 (h:Swo lt) (hp:Cmp lt p) {L A B R xs:List aa} {a m b:Int} (hA0:0<A.length) (hB0:0<B.length) (ha:a=(L.length:Int)) (hm:m=(L.length:Int)+A.length) (hb:b=(L.length:Int)+A.length+B.length)
    (hxs:xs=L++A++B++R) (hn:xs.length<1152921504606846976) (hA:Srt lt A) (hB:Srt lt B):
    ∃T,du xs a m b p=some (L++T++R)∧Stb lt (A++B) T:=by
  unfold du;exact Pk h hp _ L A B R a m b xs hA0 hB0 ha hm hb hxs (by rw [hxs];simp;omega) hn hA hB
end
set_option linter.unusedVariables false
set_option linter.unusedSimpArgs false
inductive Bls {α:Type} (lt:α→α→Bool) (k:Nat):List α→List α→Prop
 |last {l l':List α} (h:l.length≤k) (s:Stb lt l l'):Bls lt k l l'
 |more {l l' t t':List α} (h:l.length=k) (s:Stb lt l l') (ht:Bls lt k t t'):Bls lt k (l++t) (l'++t')
section
variable {α:Type} {lt:α→α→Bool}
theorem Stb.nil:Stb lt ([]:List α) []:=⟨List.Pairwise.nil,fun _=>rfl⟩
theorem Bls.len (h:Swo lt) {k:Nat} {l l':List α} (hb:Bls lt k l l'):l'.length=l.length:=by
 induction hb with
 |last _ s=>exact s.len h
 |more _ s _ ih=>rw [Z2,Z2,s.len h,ih]
theorem Bls.done (h:Swo lt) {k:Nat} (hk:0<k) {l l':List α} (hb:Bls lt k l l') (hl:l.length≤k):Stb lt l l':=by
 cases hb with
 |last _ s=>exact s
 | @more l l' t t' h1 s ht=>
  rw [Z2] at hl;have:t=[]:=Zg (by omega);subst this;have:t'=[]:=Zg (by rw [ht.len h];rfl);subst this;simpa using s
theorem Bls.split (h:Swo lt) {k:Nat} {l l':List α} (hb:Bls lt k l l') (hl:k≤l.length): ∃l1 l2 l1' l2',l=l1++l2∧l'=l1'++l2'∧l1.length=k∧Stb lt l1 l1'∧Bls lt k l2 l2':=by
 cases hb with
 |last h1 s=>exact ⟨l,[],l',[],by simp,by simp,by omega,s,.last (by simp) Stb.nil⟩
 | @more l l' t t' h1 s ht=>exact ⟨l,t,l',t',rfl,rfl,h1,s,ht⟩
end
section
variable {lt:aa→aa→Bool} {p:aa→aa→Option Int}
theorem Pn (h:Swo lt) (hp:Cmp lt p) (n:Int) (hn:n<1152921504606846976): ∀(k:Nat) (X D:List aa) (a:Int) (xs:List aa),X.length=k→a=(D.length:Int)→n=(D.length:Int)+X.length→xs=D++X→
  ∃X',Bls lt 20 X X'∧aq (fun s:(Int×Int×List aa)=>bC n p s.1 s.2.1 s.2.2) (a,a+20,xs)=
   aq (fun s:(Int×List aa)=>bd n p s.1 s.2) (20,D++X'):=by
 intro k
 induction k using X5 with
 | _ k ih =>
  intro X D a xs hk ha hN hxs
  by_cases hX:20≤X.length
  ·have e:X=X.take 20++X.drop 20:=(Z5 _ _).symm
   obtain ⟨T,h1,h2⟩:=G5 h hp D (X.take 20) (X.drop 20) (a:=a) (b:=a+20) (xs:=xs) ha (by simp;omega) (by omega) (by rw [hxs];simp);have hlT:=h2.len h;rw [X6] at hlT
   have hst:bC n p a (a+20) xs=some (.inl (a+20,a+20+20,(D++T)++X.drop 20)):=by
    simp only [bC];rw [if_pos (by simp;omega),h1,Z0,ak (by omega)]
   obtain ⟨X',h3,h4⟩:=ih (X.length - 20) (by omega) (X.drop 20) (D++T) (a+20) _ (by simp) (by rw [Z2];omega) (by rw [Z2,X7];omega) rfl;refine ⟨T++X',?_,?_⟩
   ·have:=Bls.more (by rw [X6];omega) h2 h3
    rw [←e] at this;exact this
   ·rw [bO hst,h4,Z7]
  ·obtain ⟨T,h1,h2⟩:=G5 h hp D X [] (a:=a) (b:=n) (xs:=xs) ha hN (by omega) (by rw [hxs];simp)
   refine ⟨T,.last (by omega) h2,?_⟩;rw [o9]
   have:bC n p a (a+20) xs=(aq (fun s:(Int×List aa)=>bd n p s.1 s.2) (20,D++T)).map Sum.inr:=by
    simp only [bC,dY];rw [if_neg (by simp;omega),h1,Z0,Zx]
   simp only [this];cases aq (fun s:(Int×List aa)=>bd n p s.1 s.2) (20,D++T)<;>rfl
theorem Po (h:Swo lt) (hp:Cmp lt p) (n:Int) (hn:n<288230376151711744) (bs:Nat) (h0:0<bs) (hbs:(bs:Int)<n): ∀(k:Nat) (X0 X D:List aa) (a b:Int) (xs:List aa),X.length=k→a=(D.length:Int)→b=a+2*bs→n=(D.length:Int)+X.length→xs=D++X→Bls lt bs X0 X→
  ∃X',Bls lt (2*bs) X0 X'∧aq (fun s:(Int×Int×List aa)=>bR n p bs s.1 s.2.1 s.2.2) (a,b,xs)=some (.inl (((2*bs:Nat):Int),D++X')):=by
 intro k
 induction k using X5 with
 | _ k ih =>
  intro X0 X D a b xs hk ha hb hN hxs hbl;have hl:=hbl.len h;have hxl:xs.length<1152921504606846976:=by rw [hxs,Z2];omega
  by_cases hX:2*bs≤X.length
  ·obtain ⟨l1,l2,l1',l2',e1,e1',hl1,s1,hb2⟩:=hbl.split h (by omega)
   have hl2:=hb2.len h;have q1:l1'.length=bs:=by rw [s1.len h,hl1]
   have q2:X.length=l1'.length+l2'.length:=by rw [e1',Z2]
   obtain ⟨l3,l4,l3',l4',e2,e2',hl3,s3,hb4⟩:=hb2.split h (by omega);have q3:l3'.length=bs:=by rw [s3.len h,hl3]
   have q4:l2'.length=l3'.length+l4'.length:=by rw [e2',Z2]
   obtain ⟨T,h1,h2⟩:=G6 h hp (L:=D) (A:=l1') (B:=l3') (R:=l4') (a:=a) (m:=a+bs) (b:=b) (xs:=xs) (by omega) (by omega) ha (by omega) (by omega) (by rw [hxs,e1',e2'];simp) hxl s1.srt s3.srt;have hlT:=h2.len h;rw [Z2] at hlT
   have hst:bR n p bs a b xs=some (.inl (b,b+2*bs,(D++T)++l4')):=by
    simp only [bR];rw [if_pos (by simp;omega),ak (n:=a+bs) (by omega),h1,Z0,ak (n:=2*(bs:Int)) (by omega),ak (by omega)]
   obtain ⟨X',h3,h4⟩:=ih l4'.length (by omega) l4 l4' (D++T) b (b+2*bs) _ rfl (by rw [Z2];omega) rfl (by rw [Z2];omega) rfl hb4;refine ⟨T++X',?_,?_⟩
   ·rw [e1,e2, ←Z7]
    exact Bls.more (by rw [Z2];omega) (h2.trans fun c=>by simp [s1.flt,s3.flt]) h3
   ·rw [bO hst,h4,Z7]
  ·by_cases hX2:bs<X.length
   ·obtain ⟨l1,l2,l1',l2',e1,e1',hl1,s1,hb2⟩:=hbl.split h (by omega)
    have hl2:=hb2.len h;have q1:l1'.length=bs:=by rw [s1.len h,hl1]
    have q2:X.length=l1'.length+l2'.length:=by rw [e1',Z2]
    have s2:=hb2.done h h0 (by omega);obtain ⟨T,h1,h2⟩:=G6 h hp (L:=D) (A:=l1') (B:=l2') (R:=[]) (a:=a) (m:=a+bs) (b:=n) (xs:=xs) (by omega) (by omega) ha (by omega) (by omega) (by rw [hxs,e1'];simp) hxl s1.srt s2.srt;refine ⟨T,.last (by omega) ?_,?_⟩
    ·rw [e1]
     exact h2.trans fun c=>by simp [s1.flt,s2.flt]
    ·apply a7
     simp only [bR,dm,cE];rw [if_neg (by simp;omega),ak (n:=a+bs) (by omega),if_pos (by simp;omega),h1,Z0,ak (by omega)];simp [Int.mul_comm]
   ·refine ⟨X,.last (by omega) (hbl.done h h0 (by omega)),?_⟩
    apply a7;simp only [bR,dm,cE];rw [if_neg (by simp;omega),ak (n:=a+bs) (by omega),if_neg (by simp;omega),ak (by omega),hxs];simp [Int.mul_comm]
theorem Pp (h:Swo lt) (hp:Cmp lt p) (n:Int) (hn:n<288230376151711744) (X0:List aa) (hX0:n=(X0.length:Int)): ∀(k bs:Nat) (X:List aa),(X0.length - bs)=k→0<bs→Bls lt bs X0 X→
  ∃X',aq (fun s:(Int×List aa)=>bd n p s.1 s.2) ((bs:Int),X)=some X'∧Stb lt X0 X':=by
 intro k
 induction k using X5 with
 | _ k ih =>
  intro bs X hk h0 hbl;have hl:=hbl.len h
  by_cases hb:(bs:Int)<n
  ·obtain ⟨X',h1,h2⟩:=Po h hp n hn bs h0 hb X.length X0 X [] 0 (2*bs) X rfl rfl (by simp) (by simp;omega) (by simp) hbl
   have hst:bd n p bs X=some (.inl (((2*bs:Nat):Int),X')):=by
    simp only [bd];rw [if_pos (by simp;omega),ak (by omega),h2,Zw]
   obtain ⟨X2,h3,h4⟩:=ih (X0.length - 2*bs) (by omega) (2*bs) X' rfl (by omega) h1;exact ⟨X2,by rw [bO hst];exact h3,h4⟩
  ·refine ⟨X,?_,hbl.done h h0 (by omega)⟩
   apply a7;simp only [bd];rw [if_neg (by simp;omega)]
   rfl
theorem G7 (h:Swo lt) (hp:Cmp lt p) (X:List aa) (hn:X.length<288230376151711744): ∃X',dD X p=some X'∧Stb lt X X':=by
 obtain ⟨X1,h1,h2⟩:=Pn h hp (X.length:Int) (by omega) X.length X [] 0 X rfl rfl (by simp) rfl;obtain ⟨X2,h3,h4⟩:=Pp h hp (X.length:Int) (by omega) X rfl _ 20 X1 rfl (by omega) h1;refine ⟨X2,?_,h4⟩;unfold dD eO;have h2:aq (fun s:(Int×Int×List aa)=>bC (X.length:Int) p s.1 s.2.1 s.2.2) (0,20,X)=_:=h2;rw [h2,Zw];have h3:aq (fun s:(Int×List aa)=>bd (X.length:Int) p s.1 s.2) (20,X1)=_:=h3;rw [h3]
 rfl
end
set_option linter.unusedVariables false
set_option linter.unusedSimpArgs false
theorem jg {σ β:Type} {f:σ→Option (σ⊕β)} {s:σ} {b:Option β} (S:Nat→σ) (n:Nat) (h0:s=S 0) (step: ∀i,i<n→f (S i)=some (.inl (S (i+1)))) (fin:f (S n)=b.map Sum.inr):aq f s=b:=by
 have key: ∀i,i≤n→aq f s=aq f (S i):=by
  intro i
  induction i with
  |zero=>intro _;rw [h0]
  |succ i ih=>intro h;rw [ih (by omega),bO (step i (by omega))]
 rw [key n (Zl n),o9,fin];cases b<;>rfl
section
variable {α β:Type}
theorem Swo.comap {lt:α→α→Bool} (h:Swo lt) (f:β→α):Swo fun a b=>lt (f a) (f b):=
 ⟨fun a=>h.irr _,fun a b c=>h.tr _ _ _,fun a b c=>h.inc _ _ _⟩
def pD (l1 l2:α→α→Bool) (a b:α):Bool:=l1 a b||(!l1 b a&&l2 a b)
theorem Swo.lex {l1 l2:α→α→Bool} (h1:Swo l1) (h2:Swo l2):Swo (pD l1 l2):=by
 refine ⟨fun a=>by simp [pD,h1.irr,h2.irr],fun a b c hab hbc=> ?_,fun a b c hab hbc=> ?_⟩
 ·simp only [pD,Bool.or_eq_true,Zi,Ze] at*
  rcases hab with hab|⟨nba,hab⟩<;>rcases hbc with hbc|⟨ncb,hbc⟩
  ·exact Or.inl (h1.tr _ _ _ hab hbc)
  ·left
   cases hac:l1 a c with
   |true=>rfl
   |false=>rw [h1.inc a c b hac ncb] at hab;cases hab
  ·left
   cases hac:l1 a c with
   |true=>rfl
   |false=>rw [h1.inc b a c nba hac] at hbc;cases hbc
  ·exact Or.inr ⟨h1.inc c b a ncb nba,h2.tr _ _ _ hab hbc⟩
 ·simp only [pD,Zs,Zr,Bool.not_eq_false'] at*
  refine ⟨h1.inc _ _ _ hab.1 hbc.1,?_⟩;rcases hab.2 with h3|h3
  ·left
   cases hca:l1 c a with
   |true=>rfl
   |false=>rw [h1.inc b c a hbc.1 hca] at h3;cases h3
  ·rcases hbc.2 with h4|h4
   ·left
    cases hca:l1 c a with
    |true=>rfl
    |false=>rw [h1.inc c a b hca hab.1] at h4;cases h4
   ·right;exact h2.inc _ _ _ h3 h4
def lexL (lt:α→α→Bool):List α→List α→Bool
 |_,[]=>false
 |[],_::_=>true
 |a::x,b::y=>lt a b||(!lt b a&&lexL lt x y)
theorem Swo.lexL {lt:α→α→Bool} (h:Swo lt):Swo (lexL lt):=by
 refine ⟨?_,?_,?_⟩
 ·intro a
  induction a with
  |nil=>rfl
  |cons a x ih=>simp [Hay.lexL,h.irr,ih]
 ·intro a
  induction a with
  |nil=>
   intro b c hab hbc;cases c with
   |nil=>cases b<;>simp [Hay.lexL] at hbc
   |cons c z=>rfl
  | cons a x ih =>
   intro b c hab hbc;cases b with
   |nil=>simp [Hay.lexL] at hab
   | cons b y =>
    cases c with
    |nil=>simp [Hay.lexL] at hbc
    | cons c z =>
     simp only [Hay.lexL,Bool.or_eq_true,Zi,Ze] at*;rcases hab with hab|⟨nba,hab⟩<;>rcases hbc with hbc|⟨ncb,hbc⟩
     ·exact Or.inl (h.tr _ _ _ hab hbc)
     ·left
      cases hac:lt a c with
      |true=>rfl
      |false=>rw [h.inc a c b hac ncb] at hab;cases hab
     ·left
      cases hac:lt a c with
      |true=>rfl
      |false=>rw [h.inc b a c nba hac] at hbc;cases hbc
     ·exact Or.inr ⟨h.inc c b a ncb nba,ih _ _ hab hbc⟩
 ·intro a
  induction a with
  |nil=>
   intro b c hab hbc;cases b with
   |nil=>exact hbc
   |cons b y=>simp [Hay.lexL] at hab
  | cons a x ih =>
   intro b c hab hbc;cases c with
   |nil=>rfl
   | cons c z =>
    cases b with
    |nil=>simp [Hay.lexL] at hbc
    | cons b y =>
     simp only [Hay.lexL,Zs,Zr,Bool.not_eq_false'] at*;refine ⟨h.inc _ _ _ hab.1 hbc.1,?_⟩;rcases hab.2 with h3|h3
     ·left
      cases hca:lt c a with
      |true=>rfl
      |false=>rw [h.inc b c a hbc.1 hca] at h3;cases h3
     ·rcases hbc.2 with h4|h4
      ·left
       cases hca:lt c a with
       |true=>rfl
       |false=>rw [h.inc c a b hca hab.1] at h4;cases h4
      ·right;exact ih _ _ h3 h4
theorem Rf:Swo fun a b:Int=>decide (a<b):=
 ⟨fun a=>by simp,fun a b c h1 h2=>by simp at*;omega,fun a b c h1 h2=>by simp at*;omega⟩
theorem xi: ∀s u:List Int,ltB s u=lexL (fun a b:Int=>decide (a<b)) s u
 |s,[]=>by cases s<;>rfl
 |[],_::_=>rfl
 | a :: x, b :: y => by
  simp only [ltB,lexL,xi x y]
  by_cases h1:a<b
  ·simp [h1]
  ·by_cases h2:b<a
   ·have:a≠b:=by omega
    simp [h1,h2,this]
   ·have:a=b:=by omega
    simp [this]
theorem Rg:Swo ltB:=by
 have h:=Rf.lexL;exact ⟨fun a=>by rw [xi];exact h.irr a,fun a b c=>by simp only [xi];exact h.tr a b c,fun a b c=>by simp only [xi];exact h.inc a b c⟩
def sgn (lt:α→α→Bool) (a b:α):Int:=if lt a b then -1 else if lt b a then 1 else 0
theorem LX {lt:α→α→Bool} {a b:α}:decide (sgn lt a b<0)=lt a b:=by
 unfold sgn;cases lt a b
 ·cases lt b a<;>simp
 ·simp
theorem uN {l1 l2:α→α→Bool} (h1:Swo l1) {a b:α}:sgn (pD l1 l2) a b=if sgn l1 a b≠0 then sgn l1 a b else sgn l2 a b:=by
 unfold sgn pD;cases e1:l1 a b
 ·cases e2:l1 b a
  ·simp
  ·simp
 ·simp
theorem Db {lt:α→α→Bool} (h:Swo lt) {a b:α} {x y:List α}:sgn (lexL lt) (a::x) (b::y)=if sgn lt a b≠0 then sgn lt a b else sgn (lexL lt) x y:=by
 by_cases e1:lt a b=true
 ·simp [sgn,lexL,e1]
 ·by_cases e2:lt b a=true
  ·simp [sgn,lexL,e1,e2]
  ·simp [sgn,lexL,e1,e2]
end
def vk2 (v:Ap):Int:=if v.fKind=1 then (if v.fBool then 1 else 0) else if v.fKind=2 then v.fInt else 0
def vk3 (v:Ap):List Int:=if v.fKind=3 then v.fText else []
def vlt:Ap→Ap→Bool:=
 pD (fun a b=>decide (a.fKind<b.fKind)) (pD (fun a b=>decide (vk2 a<vk2 b)) (fun a b=>ltB (vk3 a) (vk3 b)))
theorem Eu:Swo vlt:=(Rf.comap fun v:Ap=>v.fKind).lex ((Rf.comap vk2).lex (Rg.comap vk3))
theorem Dc (a b:Ap):qY a b=some (vlt a b):=by
 unfold qY vlt pD
 by_cases hk:a.fKind=b.fKind
 ·rw [if_neg (by simp [hk])]
  by_cases h1:b.fKind=1
  ·simp only [kK,vk2,vk3,hk,h1]
   cases ha:a.fBool<;>cases hb:b.fBool<;>simp [ltB]
  ·by_cases h2:b.fKind=2
   ·simp only [kK,vk2,vk3,hk,h2]
    simp [ltB]
   ·by_cases h3:b.fKind=3
    ·simp only [kK,oK,vk2,vk3,hk,h3]
     simp
    ·simp only [kK,oK,vk2,vk3,hk]
     simp [h1,h2,h3,ltB]
 ·rw [if_pos (by simp [hk])]
  by_cases hl:a.fKind<b.fKind
  ·simp [hl]
  ·have:b.fKind<a.fKind:=by omega
   simp [hl,this]
theorem By (a b:Ap):jz a b=some (sgn vlt a b):=by
 unfold jz sgn;rw [Dc,Dc,Z0,Z0];cases vlt a b<;>cases vlt b a<;>rfl
theorem Jw (a b:Int):il a b=some (sgn (fun a b:Int=>decide (a<b)) a b):=by
 simp only [il,k9,sgn,Z0,bne_self_eq_false]
 by_cases h1:a<b<;>by_cases h2:b<a<;>simp [h1,h2]
theorem KC (a b:Int):iw a b=some (sgn (fun a b:Int=>decide (a<b)) a b):=by
 simp only [iw,jy,sgn,Z0,bne_self_eq_false]
 by_cases h1:a<b<;>by_cases h2:b<a<;>simp [h1,h2]
theorem Pq (a b:Int):g8 a b=some (sgn (fun a b:Int=>decide (a<b)) a b):=by
 simp only [g8,kP,sgn,Z0,bne_self_eq_false]
 by_cases h1:a<b<;>by_cases h2:b<a<;>simp [h1,h2]
theorem Pr (a b:Int):g9 a b=some (sgn (fun a b:Int=>decide (a<b)) a b):=by
 simp only [g9,kQ,sgn,Z0,bne_self_eq_false]
 by_cases h1:a<b<;>by_cases h2:b<a<;>simp [h1,h2]
theorem Bz (a b:Ap):cD a b=some (sgn vlt a b):=by
 unfold cD vlt;rw [uN (Rf.comap fun v:Ap=>v.fKind),uN (Rf.comap vk2)]
 by_cases hk:a.fKind=b.fKind
 ·rw [if_neg (by simp [hk])]
  have e0:sgn (fun a b:Ap=>decide (a.fKind<b.fKind)) a b=0:=by simp [sgn,hk]
  rw [e0];simp only [ne_eq,not_true_eq_false,if_false]
  by_cases h1:b.fKind=1
  ·simp only [fp,vk2,vk3,hk,h1,sgn]
   cases ha:a.fBool<;>cases hb:b.fBool<;>simp [ltB]
  ·by_cases h2:b.fKind=2
   ·have ka:a.fKind=2:=hk.trans h2
    have a2:vk2 a=a.fInt:=by simp [vk2,ka]
    have b2:vk2 b=b.fInt:=by simp [vk2,h2]
    have a3:vk3 a=[]:=by simp [vk3,ka]
    have b3:vk3 b=[]:=by simp [vk3,h2]
    rw [if_neg (by simp [ka]),fp,if_neg (by simp),if_pos (by simp [ka]),KC];simp only [sgn,a2,b2,a3,b3,ltB]
    by_cases q1:a.fInt<b.fInt<;>by_cases q2:b.fInt<a.fInt<;>simp [q1,q2]
   ·by_cases h3:b.fKind=3
    ·have ka:a.fKind=3:=hk.trans h3
     have a2:vk2 a=0:=by simp [vk2,ka]
     have b2:vk2 b=0:=by simp [vk2,h3]
     have a3:vk3 a=a.fText:=by simp [vk3,ka]
     have b3:vk3 b=b.fText:=by simp [vk3,h3]
     rw [if_neg (by simp [ka]),fp,if_neg (by simp),if_neg (by simp [ka]),if_pos (by simp [ka]),lM,eo,Z0,Z0,sR];simp only [sgn,a2,b2,a3,b3];simp
    ·have ka:a.fKind≠1∧a.fKind≠2∧a.fKind≠3:=by rw [hk];exact ⟨h1,h2,h3⟩
     have a2:vk2 a=0:=by simp [vk2,ka]
     have b2:vk2 b=0:=by simp [vk2,h1,h2]
     have a3:vk3 a=[]:=by simp [vk3,ka]
     have b3:vk3 b=[]:=by simp [vk3,h3]
     rw [if_neg (by simp [ka]),fp,if_neg (by simp),if_neg (by simp [ka]),if_neg (by simp [ka])];simp only [sgn,a2,b2,a3,b3,ltB];simp
 ·rw [if_pos (by simp [hk]),Jw,Z0]
  have:sgn (fun a b:Ap=>decide (a.fKind<b.fKind)) a b≠0:=by
   unfold sgn
   by_cases hl:a.fKind<b.fKind
   ·simp [hl]
   ·have:b.fKind<a.fKind:=by omega
    simp [hl,this]
  rw [if_pos this]
  rfl
def rlt:List Ap→List Ap→Bool:=lexL vlt
theorem Rh:Swo rlt:=Eu.lexL
theorem FD {s t:List Ap} (hs:s.length<4611686018427387904) (ht:t.length<4611686018427387904):oO s t=some (sgn rlt s t):=by
 unfold oO;refine oa (fun i=> ∃k:Nat,i=(k:Int)∧k≤s.length∧k≤t.length∧sgn rlt (s.drop k) (t.drop k)=sgn rlt s t) (fun i=>s.length - i.toNat) ?_ ⟨0,rfl,by simp,by simp,by simp⟩;rintro i ⟨k,rfl,h1,h2,h3⟩;simp only [va]
 by_cases hk:k<s.length∧k<t.length
 ·obtain ⟨hk1,hk2⟩:=hk
  rw [if_pos (by split<;>simp<;>omega),aA hk1,Z0,aA hk2,Z0,Bz,Z0];rw [Z3 hk1,Z3 hk2,rlt,Db Eu] at h3
  by_cases hc:sgn vlt s[k] t[k]=0
  ·left
   rw [if_neg (by simp [hc])];refine ⟨_,rfl,⟨k+1,by rw [ak (by omega)];rfl,by omega,by omega,?_⟩,?_⟩
   ·rw [if_neg (by simp [hc])] at h3;exact h3
   ·rw [ak (by omega)];omega
  ·right
   rw [if_pos (by simp [hc])];rw [if_pos hc] at h3;rw [h3];rfl
 ·right
  rw [if_neg (by split<;>simp<;>omega),u9,Jw,Z0, ←h3]
  have key: ∀(x y:List Ap),(x=[]∨y=[])→sgn rlt x y=sgn (fun a b:Int=>decide (a<b)) (x.length:Int) (y.length:Int):=by
   intro x y hxy;rcases hxy with rfl|rfl
   ·cases y<;>simp [sgn,rlt,lexL]<;>omega
   ·cases x<;>simp [sgn,rlt,lexL]<;>omega
  rw [key]
  ·have e1:((s.length:Int)<t.length)↔(((s.length - k:Nat):Int)<((t.length - k:Nat):Int)):=by omega
   have e2:((t.length:Int)<s.length)↔(((t.length - k:Nat):Int)<((s.length - k:Nat):Int)):=by omega
   simp only [sgn,X7,decide_eq_true_eq,e1,e2,X9]
  ·by_cases q:k<s.length
   ·right;exact Z6 (by omega)
   ·left;exact Z6 (by omega)
theorem FE {s t:List Ap} (hs:s.length<4611686018427387904) (ht:t.length<4611686018427387904):zZ s t=some (sgn rlt s t):=by
 unfold zZ;refine oa (fun i=> ∃k:Nat,i=(k:Int)∧k≤s.length∧k≤t.length∧sgn rlt (s.drop k) (t.drop k)=sgn rlt s t) (fun i=>s.length - i.toNat) ?_ ⟨0,rfl,by simp,by simp,by simp⟩;rintro i ⟨k,rfl,h1,h2,h3⟩;simp only [y5]
 by_cases hk1:k<s.length
 ·rw [if_pos (by simp;omega)]
  by_cases hk2:k<t.length
  ·rw [if_neg (by simp;omega),aA hk1,Z0,aA hk2,Z0,By,Z0]
   rw [Z3 hk1,Z3 hk2,rlt,Db Eu] at h3
   by_cases hc:sgn vlt s[k] t[k]=0
   ·left
    rw [if_neg (by simp [hc])];refine ⟨_,rfl,⟨k+1,by rw [ak (by omega)];rfl,by omega,by omega,?_⟩,?_⟩
    ·rw [if_neg (by simp [hc])] at h3;exact h3
    ·rw [ak (by omega)];omega
   ·right
    rw [if_pos (by simp [hc])];rw [if_pos hc] at h3;rw [h3];rfl
  ·right
   have:k=t.length:=by omega
   rw [if_pos (by simp;omega), ←h3,this,X8,Z3 (by omega)];simp [sgn,rlt,lexL]
 ·right
  rw [if_neg (by simp;omega), ←h3,Z6 (by omega:s.length≤k),y4]
  by_cases hk2:k<t.length
  ·rw [if_pos (by simp;omega),Z3 hk2]
   simp [sgn,rlt,lexL]
  ·rw [if_neg (by simp;omega),Z6 (by omega:t.length≤k)]
   simp [sgn,rlt,lexL]
def jH (cs:List Int) (row:List Ap):List Ap:=cs.map fun c=>if 0≤c∧c<(row.length:Int) then row.getD c.toNat Ap.zero else Ap.zero
theorem sL (cs:List Int) (row:List Ap):(jH cs row).length=cs.length:=by simp [jH]
theorem G8 {α:Type} {xs:List α} {i:Int} (d:α) (h:0≤i∧i<(xs.length:Int)):idx xs i=some (xs.getD i.toNat d):=by
 obtain ⟨n,rfl⟩:=Zh h.1;have hn:n<xs.length:=by omega
 rw [aA hn];simp [hn]
theorem Dd {f:List Ap×Int→Option ((List Ap×Int)⊕List Ap)} {cs:List Int} {row:List Ap} {g:Int→Ap}
  (step: ∀(i:Nat) (l:List Ap) (h:i<cs.length),l.length=i→f (l,(i:Int))=some (.inl (l++[g cs[i]],((i+1:Nat):Int)))) (fin: ∀l,f (l,(cs.length:Int))=some (.inr l)):aq f ([],0)=some (cs.map g):=by
 refine jg (fun i=>((cs.take i).map g,(i:Int))) cs.length (by simp) (fun i hi=> ?_) ?_
 ·show f ((cs.take i).map g,(i:Int))=_
  have e:(cs.take (i+1)).map g=(cs.take i).map g++[g cs[i]]:=by rw [List.take_add_one,Z1 hi,Za];rfl
  rw [step i _ hi (by simp;omega),e]
 ·show f ((cs.take cs.length).map g,(cs.length:Int))=_
  rw [fin,Zb];rfl
theorem G9 {cs:List Int} {row:List Ap} (hc:cs.length≤3518437208883):ly cs row=some (jH cs row):=by
 unfold ly jH;refine Dd (row:=row) (fun i l hi hl=> ?_) (fun l=> ?_)
 ·simp only [pp]
  rw [if_pos (by simpa using hi),aA hi,Z0,kD,Z0]
  have hj: ∀x,mo l (i:Int) x=some (.inl (l++[x],((i+1:Nat):Int))):=by
   intro x;unfold mo;rw [aJ (by simp;omega),Z0,ak (by omega)]
   rfl
  by_cases h0:0≤cs[i]
  ·rw [if_pos (by simp [h0])]
   unfold mp
   by_cases h1:cs[i]<(row.length:Int)
   ·rw [if_pos (by simp [h1]),G8 Ap.zero ⟨h0,h1⟩,Z0,hj,if_pos ⟨h0,h1⟩]
   ·rw [if_neg (by simp;omega),hj,if_neg (by omega)];rfl
  ·rw [if_neg (by simp;omega)]
   unfold mp;rw [if_neg (by simp),hj,if_neg (by omega)];rfl
 ·simp only [pp]
  rw [if_neg (by simp)];rfl
theorem Bl {cs:List Int} {row:List Ap} (hc:cs.length≤3518437208883):y3 cs row=some (jH cs row):=by
 unfold y3 jH;refine Dd (row:=row) (fun i l hi hl=> ?_) (fun l=> ?_)
 ·simp only [vV]
  rw [if_pos (by simpa using hi),aA hi,Z0]
  have hj: ∀x,sA l (i:Int) x=some (.inl (l++[x],((i+1:Nat):Int))):=by
   intro x;unfold sA;rw [aJ (by simp;omega),Z0,ak (by omega)]
   rfl
  by_cases h0:0≤cs[i]
  ·rw [if_pos (by simp [h0]),Z0]
   unfold sB
   by_cases h1:cs[i]<(row.length:Int)
   ·rw [if_pos (by simp [h1]),aA hi,Z0,G8 Ap.zero ⟨h0,h1⟩,Z0,hj,if_pos ⟨h0,h1⟩]
   ·rw [if_neg (by simp;omega),hj,if_neg (by omega)];rfl
  ·rw [if_neg (by simp;omega)]
   unfold sB;rw [if_neg (by simp),hj,if_neg (by omega)];rfl
 ·simp only [vV]
  rw [if_neg (by simp)];rfl
def ilt:aK→aK→Bool:=pD (fun a b=>decide (a.fEpoch<b.fEpoch)) (fun a b=>decide (a.fNumber<b.fNumber))
theorem Ri:Swo ilt:=(Rf.comap fun v:aK=>v.fEpoch).lex (Rf.comap fun v:aK=>v.fNumber)
def qlt (cs:List Int):aa→aa→Bool:=pD (fun a b=>rlt (jH cs a.fRow) (jH cs b.fRow)) (fun a b=>ilt a.fId b.fId)
theorem gl (cs:List Int):Swo (qlt cs):=(Rh.comap fun v:aa=>jH cs v.fRow).lex (Ri.comap fun v:aa=>v.fId)
theorem Bm (a b:Int):mq [a,b]=some (if a≠0 then a else b):=by
 unfold mq;have e0:idx [a,b] 0=some a:=rfl;have e1:idx [a,b] 1=some b:=rfl
 by_cases ha:a=0
 ·have h0:gn [a,b] 0=some (.inl 1):=by
   simp only [gn];rw [if_pos (by simp),e0,Z0,if_neg (by simp [ha])];rfl
  rw [bO h0]
  by_cases hb:b=0
  ·have h1:gn [a,b] 1=some (.inl 2):=by
    simp only [gn];rw [if_pos (by simp),e1,Z0,if_neg (by simp [hb])];rfl
   rw [bO h1];apply a7;simp only [gn];rw [if_neg (by simp),ha,hb];rfl
  ·apply a7
   simp only [gn];rw [if_pos (by simp),e1,Z0,if_pos (by simp [hb]),if_neg (by simp [ha])];rfl
 ·apply a7
  simp only [gn];rw [if_pos (by simp),e0,Z0,if_pos (by simp [ha]),if_pos ha];rfl
theorem I1 (a b:aK):lf a b=some (sgn ilt a b):=by
 unfold lf ilt;rw [Pq,Z0,Pr,Z0,Bm,Z0,uN (Rf.comap fun v:aK=>v.fEpoch)]
 rfl
theorem FF {cs:List Int} (hc:cs.length≤3518437208883) (a b:aa):eD a b cs=some (sgn (qlt cs) a b):=by
 unfold eD qlt;rw [G9 hc,Z0,G9 hc,Z0,FD (by rw [sL];omega) (by rw [sL];omega),Z0,I1,Z0,Bm,Z0,uN (Rh.comap fun v:aa=>jH cs v.fRow)]
 rfl
theorem FG {cs:List Int} (hc:cs.length≤3518437208883):Cmp (qlt cs) (fun a b=>eD a b cs):=fun a b=>⟨_,FF hc a b,LX⟩
theorem De (a b:aK):vW a b=some (ilt a b):=by
 unfold vW ilt pD
 by_cases h:a.fEpoch=b.fEpoch
 ·rw [if_neg (by simp [h])];simp [h]
 ·rw [if_pos (by simp [h])]
  by_cases hl:a.fEpoch<b.fEpoch
  ·simp [hl]
  ·have:b.fEpoch<a.fEpoch:=by omega
   simp [hl,this]
theorem Bn {cs:List Int} (hc:cs.length≤3518437208883) (a b:aa):vX cs a b=some (qlt cs a b):=by
 unfold vX qlt pD;rw [Bl hc,Z0,Bl hc,Z0,FE (by rw [sL];omega) (by rw [sL];omega),Z0,De];unfold sgn;cases e1:rlt (jH cs a.fRow) (jH cs b.fRow)
 ·cases e2:rlt (jH cs b.fRow) (jH cs a.fRow)
  ·simp [e1,e2]
  ·simp [e1,e2]
 ·simp [e1]
set_option linter.unusedVariables false
set_option linter.unusedSimpArgs false
def Rok (l:List aa):Prop:= ∀v∈l,v.fRow.length≤1048576
theorem own_eq {v:aa} (h:v.fRow.length≤1048576):jU v=some v:=by
  unfold jU gX;rw [aJ (by simp;omega)];simp
theorem ia {α:Type} {xs:List α} {i:Nat} (h:i<xs.length):xs.take (i+1)=xs.take i++[xs[i]]:=by
  rw [List.take_add_one,Z1 h];rfl
theorem Bo {cs:List Int} {xs:List aa} (hc:cs.length≤1048576) (hx:xs.length≤1048576) (hr:Rok xs): ∃T,iN cs xs=some T∧Stb (qlt cs) xs T:=by
  obtain ⟨T,h1,h2⟩:=G7 (gl cs) (FG (cs:=cs) (by omega)) xs (by omega);refine ⟨T,?_,h2⟩;unfold iN;refine (jg (fun i=>((i:Int),xs.take i)) xs.length (by simp) (fun i hi=> ?_) (b:=iy cs xs) ?_).trans ?_
  · simp only [iz]
    rw [if_pos (by simpa using hi),aA hi,Z0,own_eq (hr _ (Z9 hi)),Z0,aJ (by simp;omega),Z0,ia hi,ak (by omega)]
    rfl
  · simp only [iz]
    rw [if_neg (by simp),Zb]
  · unfold iy
    rw [h1];rfl
theorem Df {cs : List Int} {xs : List aa} (hc : cs.length ≤ 1048576) (hx : xs.length ≤ 1048576) : ∃ T, vZ cs xs = some T ∧ Stb (qlt cs) xs T := by
  unfold vZ;refine gq (fun s=> ∃k:Nat,s.2=(k:Int)∧k≤xs.length∧Stb (qlt cs) (xs.take k) s.1) (fun s=>xs.length - s.2.toNat) (fun T=>Stb (qlt cs) xs T) ?_ ⟨0,rfl,by simp,Stb.nil⟩;rintro ⟨out,i⟩ ⟨k,rfl,hk,hs⟩;simp only at hk hs;have hol:=hs.len (gl cs);rw [X6] at hol;simp only [vY]
  by_cases hkx:k<xs.length
  · left
    rw [if_pos (by simpa using hkx)]
    have inner: ∀(n:Nat) (S1 S2:List aa),S1.length=n→out=S1++S2→(∀s∈S2,qlt cs xs[k] s=true)→
        ∃T,aq (fun s:Int=>kp cs xs out (k:Int) s) (n:Int)=some (.inl (T,((k+1:Nat):Int)))∧Stb (qlt cs) (out++[xs[k]]) T:=by
      intro n
      induction n with
      | zero =>
        intro S1 S2 hn ho h2;obtain rfl:=Zg hn;have hst:=Stb.ins (gl cs) (S1:=[]) (S2:=S2) (v:=xs[k]) (by rw [←ho];exact hs.srt) h2 (by simp);rw [←ho] at hst;refine ⟨_,?_,hst⟩;apply a7;simp only [kp];rw [if_neg (by simp),oP];have e1:sub out 0 ((0:Nat):Int)=some ((out.take 0).drop 0):=ek (lo:=0) (hi:=0) (by omega) (by omega);have e2:sub out ((0:Nat):Int) (out.length:Int)=some ((out.take out.length).drop 0):=ek (lo:=0) (hi:=out.length) (by omega) (by omega);rw [e1,Z0,aJ (by simp),Z0,aA hkx,Z0,aJ (by simp),Z0,e2,Z0,aJ (by simp;omega),Z0,rC,ak (by omega)];simp [ho]
      | succ n ih =>
        intro S1 S2 hn ho h2;obtain ⟨S1',s,rfl,hn'⟩:=Au hn;have hol2:out.length=n+1+S2.length:=by rw [ho];simp;omega
        have hs1:out[n]? =some s:=by rw [ho, ←hn'];simp
        obtain ⟨hsl,hsx⟩:=List.getElem?_eq_some_iff.1 hs1;cases hl:qlt cs xs[k] s with
        | true =>
          have hst:kp cs xs out (k:Int) ((n+1:Nat):Int)=some (.inl (n:Int)):=by
            simp only [kp];rw [if_pos (by simp),aA hkx,Z0,ak (by omega),show ((n+1:Nat):Int) - 1=(n:Int) by omega,aA hsl,Z0,hsx,Bn (by omega),Z0,hl]
            rfl
          rw [bO hst]
          exact ih S1' (s::S2) hn' (by rw [ho];simp) (by
            intro x hx;rcases Xd.1 hx with rfl|hx
            · exact hl
            · exact h2 x hx)
        | false =>
          have hsrt:Srt (qlt cs) ((S1'++[s])++S2):=by rw [←ho];exact hs.srt
          have hst:=Stb.ins (gl cs) (v:=xs[k]) hsrt h2 (Cn (gl cs) (List.Pairwise.sublist (List.sublist_append_left _ _) hsrt) hl);rw [←ho] at hst;refine ⟨_,?_,hst⟩;apply a7;simp only [kp];rw [if_pos (by simp),aA hkx,Z0,ak (by omega),show ((n+1:Nat):Int) - 1=(n:Int) by omega,aA hsl,Z0,hsx,Bn (by omega),Z0,hl];rw [if_pos (by rfl),oP];have e1:sub out 0 ((n+1:Nat):Int)=some ((out.take (n+1)).drop 0):=ek (lo:=0) (hi:=n+1) (by omega) (by omega);have e2:sub out ((n+1:Nat):Int) (out.length:Int)=some ((out.take out.length).drop (n+1)):=ek (lo:=n+1) (hi:=out.length) (by omega) (by omega)
          rw [e1,Z0,aJ (by simp;omega),Z0,aA hkx,Z0,aJ (by simp;omega),Z0,e2,Z0,aJ (by simp;omega),Z0,rC,ak (by omega)];have t1:out.take (n+1)=S1'++[s]:=by rw [ho];exact List.take_left' hn
          have t2:out.drop (n+1)=S2:=by rw [ho];exact Zy hn
          rw [Zb,t2,Xa,t1];simp
    obtain ⟨T,h1,h2⟩:=inner out.length out [] rfl (by simp) (by simp);refine ⟨(T,((k+1:Nat):Int)),h1,⟨k+1,rfl,hkx,?_⟩,by simp;omega⟩;rw [ia hkx];exact hs.app h2
  · right
    rw [if_neg (by simp;omega)];refine ⟨out,rfl,?_⟩;rwa [Z4 (by omega)] at hs
theorem Rok.flat {ls:List (List aa)} (h: ∀l∈ls,Rok l):Rok ls.flatten:=by
  intro v hv;obtain ⟨l,hl,hv⟩:=List.mem_flatten.1 hv;exact h l hl v hv
set_option linter.unusedVariables false
set_option linter.unusedSimpArgs false
theorem qk {σ β:Type} {f:σ→Option (σ⊕β)} {s:σ} (S:Nat→σ) (n:Nat) (good:Nat→Bool) (b0:β) (K:Option β) (h0:s=S 0) (step: ∀i,i<n→good i=true→f (S i)=some (.inl (S (i+1)))) (out: ∀i,i<n→good i=false→f (S i)=some (.inr b0))
  (fin:f (S n)=K.map Sum.inr):aq f s=if (Z8 n).all good then K else some b0:=by
 have key: ∀k i:Nat,i+k=n→aq f (S i)=if (List.range' i k).all good then K else some b0:=by
  intro k
  induction k with
  |zero=>
   intro i hi;obtain rfl:i=n:=by omega
   rw [o9,fin];cases K<;>rfl
  |succ k ih=>
   intro i hi;rw [List.range'_succ,List.all_cons];cases hg:good i with
   |true=>rw [bO (step i (by omega) hg),ih (i+1) (by omega),Bool.true_and]
   |false=>rw [a7 (out i (by omega) hg)];simp
 rw [h0,key n 0 (by omega),List.range_eq_range']
structure kX (v:aa):Prop where
 ep:0≤v.fId.fEpoch∧v.fId.fEpoch<18446744073709551616
 nu:0≤v.fId.fNumber∧v.fId.fNumber<4294967296
 de:0≤v.fDeleted∧v.fDeleted<18446744073709551616
 row: ∀x∈v.fRow,VOK x
 len:v.fRow.length≤1048576
theorem Hb {xs:List Int} {n:Int} (h:xs.length≤1048576): ∃i,kR xs n=some i∧decide (0≤i)=xs.contains n:=by
 unfold kR
 have key : ∀ k i : Nat, i + k = xs.length → ∃ r, aq (fun s : Int => gw xs n s) (i : Int) = some r ∧ decide (0 ≤ r) = (xs.drop i).contains n := by
  intro k
  induction k with
  |zero=>
   intro i hi;refine ⟨-1,?_,by rw [Z6 (by omega)];rfl⟩;apply a7;simp only [gw];rw [if_neg (by simp;omega)];rfl
  | succ k ih =>
   intro i hi;have hlt:i<xs.length:=by omega
   rw [Z3 hlt]
   by_cases he:n=xs[i]
   ·refine ⟨(i:Int),?_,by rw [List.contains_cons,he,beq_self_eq_true,Bool.true_or];simp⟩
    apply a7;simp only [gw];rw [if_pos (by simpa using hlt),aA hlt,Z0,if_pos (by simp [he])];rfl
   ·obtain ⟨r,h1,h2⟩:=ih (i+1) (by omega)
    refine ⟨r,?_,?_⟩
    ·rw [bO (s':=((i+1:Nat):Int))]
     ·exact h1
     ·simp only [gw]
      rw [if_pos (by simpa using hlt),aA hlt,Z0,if_neg (by simp [he]),ak (by omega)];rfl
    ·have e1:(n==xs[i])=false:=by simpa using he
     rw [h2,List.contains_cons,e1,Bool.false_or]
 obtain ⟨r,h1,h2⟩:=key xs.length 0 (by omega);exact ⟨r,h1,by simpa using h2⟩
theorem Dg {xs:List Int} {n:Int} (h:xs.length≤1048576):gy xs n=some (xs.contains n):=by
 obtain ⟨i,h1,h2⟩:=Hb (n:=n) h;unfold gy;rw [h1,Z0,h2]
def rO (cols:Int) (v:aa):Bool:=
 v.fRow.all right&&(decide ((v.fRow.length:Int)=cols)&&(decide (1≤v.fId.fEpoch)&&(decide (v.fId.fEpoch≤9223372036854775807)&& !(decide (v.fDeleted≠0)&&(decide (v.fDeleted≤v.fId.fEpoch)||decide (9223372036854775807<v.fDeleted))))))
theorem Hc {cols:Int} {v:aa} (h:v.fRow.length≤1048576):lg cols v=some (rO cols v):=by
 unfold lg
 have hj: ∀x,i7 cols v x=some (decide ((v.fRow.length:Int)=cols)&&(decide (1≤v.fId.fEpoch)&&(decide (v.fId.fEpoch≤9223372036854775807)&& !x))):=by
  intro x;unfold i7 i6
  by_cases h1:(v.fRow.length:Int)=cols<;>by_cases h2:1≤v.fId.fEpoch<;>by_cases h3:v.fId.fEpoch≤9223372036854775807<;>simp [h1,h2,h3]
 have hK:kS cols v=some (decide ((v.fRow.length:Int)=cols)&&(decide (1≤v.fId.fEpoch)&&(decide (v.fId.fEpoch≤9223372036854775807)&& !(decide (v.fDeleted≠0)&&(decide (v.fDeleted≤v.fId.fEpoch)||decide (9223372036854775807<v.fDeleted)))))):=by
  unfold kS;simp only [hj]
  by_cases h1:v.fDeleted=0<;>by_cases h2:v.fDeleted≤v.fId.fEpoch<;>simp [h1,h2]
 refine (qk (fun i=>(i:Int)) v.fRow.length (fun i=>match v.fRow[i]? with|some x=>right x|none=>true) false (kS cols v) rfl (fun i hi hg=> ?_) (fun i hi hg=> ?_) ?_).trans ?_
 ·simp only [Z1 hi] at hg
  simp only [kU];rw [if_pos (by simpa using hi),aA hi,Z0,iP,Z0,hg,if_neg (by simp),ak (by omega)];rfl
 ·simp only [Z1 hi] at hg
  simp only [kU];rw [if_pos (by simpa using hi),aA hi,Z0,iP,Z0,hg,if_pos (by simp)];rfl
 ·simp only [kU]
  rw [if_neg (by simp)]
 ·have e:(Z8 v.fRow.length).all (fun i=>match v.fRow[i]? with|some x=>right x|none=>true)=v.fRow.all right:=by
   rw [Zz];simp only [Zj,Zp];constructor
   ·intro h x hx
    obtain ⟨i,hi,rfl⟩:=Zf hx;have:=h i hi;rwa [Z1 hi] at this
   ·intro h i hi
    rw [Z1 hi];exact h _ (Z9 hi)
  rw [e,hK];unfold rO;cases v.fRow.all right<;>simp
def qQ (cols:Int) (srt:List Int) (i:Nat):Bool:=match srt[i]? with
 |some n=>decide (0≤n)&&(decide (n<cols)&& !(srt.take i).contains n)
 |none=>true
def pX (cols:Int) (l:List aa) (i:Nat):Bool:=match l[i]? with
 |some v=>rO cols v&& !((l.take i).map (·.fId)).contains v.fId
 |none=>true
def qR (cols:Int) (srt:List Int):Bool:=(Z8 srt.length).all (qQ cols srt)
def oY (cols:Int) (l:List aa):Bool:=(Z8 l.length).all (pX cols l)
def qw (cols:Int) (srt:List Int) (l:List aa):Int:=
 if cols<1∨8<cols then 1 else if qR cols srt then (if 4096<l.length then 81 else if oY cols l then 0 else 81) else 1
def my (l:List aa) (i:Nat):List aK:=((l.take i).map (·.fId)).reverse
theorem I3 {l:List aK} {x:aK} (h:l.length≤1048576):decide (1<jo (x::l) x)=l.contains x:=by
 unfold jo;have h1:(x::l).count x=l.count x+1:=by simp
 have h2:l.count x≤l.length:=List.count_le_length;rw [h1,ak (by omega)]
 by_cases hm:x∈l
 ·have:0<l.count x:=List.count_pos_iff.2 hm
  simp [hm];omega
 ·have:l.count x=0:=List.count_eq_zero.2 hm
  simp [hm,this]
theorem Dh {cols:Int} {l:List aa} (hl:l.length≤4096) (hv: ∀v∈l,kX v):
  aq (fun s:(Int×List aK)=>dv cols l s.1 s.2) (0,([]:List aK))=if oY cols l then some 0 else some 81:=by
 have hj: ∀(i:Nat) (hi:i<l.length) b,fA (i:Int) (my l i) l[i] b=if b then some (.inr 81) else some (.inl (((i+1:Nat):Int),my l (i+1))):=by
  intro i hi b;unfold fA;cases b
  ·rw [if_neg (by simp),if_neg (by simp),ak (by omega)]
   have:my l (i+1)=l[i].fId::my l i:=by
    unfold my;rw [ia hi,Za,List.reverse_append];rfl
   rw [this];rfl
  ·rw [if_pos rfl,if_pos rfl];rfl
 have hb: ∀(i:Nat) (hi:i<l.length),dv cols l (i:Int) (my l i)=if pX cols l i then some (.inl (((i+1:Nat):Int),my l (i+1))) else some (.inr 81):=by
  intro i hi;have hlen:=(hv _ (Z9 hi)).len;simp only [dv];rw [if_pos (by simpa using hi),aA hi,Z0,Hc hlen,Z0,hj i hi,hj i hi,I3 (by simp [my];omega)];unfold pX;rw [Z1 hi];dsimp only
  have hc:(my l i).contains l[i].fId=((l.take i).map (·.fId)).contains l[i].fId:=by
   unfold my;rw [Zz];simp
  rw [hc];rcases Zd (((l.take i).map (·.fId)).contains l[i].fId) with hq|hq<;>rcases Zd (rO cols l[i]) with hz|hz<;>simp only [hq,hz]<;>rfl
 refine qk (fun i=>((i:Int),my l i)) l.length (pX cols l) 81 (some 0) rfl (fun i hi hg=> ?_) (fun i hi hg=> ?_) ?_
 ·show dv cols l (i:Int) (my l i)=_
  rw [hb i hi,hg];rfl
 ·show dv cols l (i:Int) (my l i)=_
  rw [hb i hi,hg];rfl
 ·simp only [dv]
  rw [if_neg (by simp)];rfl
theorem uO {cols:Int} {srt:List Int} {l:List aa} (hs:srt.length≤1048576) (hv: ∀v∈l,kX v):f7 cols srt l=some (qw cols srt l):=by
 have h2:eE cols l=some (if 4096<l.length then 81 else if oY cols l then 0 else 81):=by
  unfold eE
  by_cases h:4096<l.length
  ·rw [if_pos (by simp;omega),if_pos h]
  ·rw [if_neg (by simp;omega),if_neg h,Dh (by omega) hv]
   cases oY cols l<;>rfl
 have hj: ∀i:Nat,i<srt.length→ ∀b,eF (i:Int) b=if b then some (.inr 1) else some (.inl ((i+1:Nat):Int)):=by
  intro i hi b;unfold eF;cases b
  ·rw [if_neg (by simp),if_neg (by simp),ak (by omega)];rfl
  ·rfl
 have h1 : ∀ b, fD cols srt l b = if b then some 1 else if qR cols srt then eE cols l else some 1 := by
  intro b;unfold fD;cases b
  ·rw [if_neg (by simp), if_neg (by simp)]
   have hb: ∀(i:Nat) (hi:i<srt.length),fC cols srt l (i:Int)=if qQ cols srt i then some (.inl ((i+1:Nat):Int)) else some (.inr 1):=by
    intro i hi;simp only [fC];rw [if_pos (by simpa using hi),aA hi,Z0]
    have hsb:sub srt 0 (i:Int)=some (srt.take i):=by
     have:=ek (xs:=srt) (lo:=0) (hi:=i) (by omega) (by omega);simpa using this
    rw [hsb,Z0,Dg (by simp;omega),Z0];simp only [hj i hi];unfold qQ;rw [Z1 hi];dsimp only
    by_cases q1:srt[i]<0
    ·have q4: ¬ 0≤srt[i]:=by omega
     simp [q1,q4]
    ·by_cases q2:cols≤srt[i]
     ·have q3: ¬ srt[i]<cols:=by omega
      simp [q1,q2,q3]
     ·have q3:srt[i]<cols:=by omega
      have q4:0≤srt[i]:=by omega
      rw [if_neg (by simp [q1]),if_neg (by simp [q2])];rcases Zd ((srt.take i).contains srt[i]) with hq|hq<;>simp only [hq,decide_eq_true q3,decide_eq_true q4]<;>rfl
   refine qk (fun i=>(i:Int)) srt.length (qQ cols srt) 1 (eE cols l) rfl (fun i hi hg=> ?_) (fun i hi hg=> ?_) ?_
   ·rw [hb i hi,hg];rfl
   ·rw [hb i hi,hg];rfl
   ·simp only [fC]
    rw [if_neg (by simp)]
  ·rfl
 unfold f7 qw;simp only [h1,h2]
 by_cases q1:cols<1
 ·simp [q1]
 ·by_cases q2:8<cols
  ·simp [q1,q2]
  ·simp only [q1,q2,decide_false,Bool.false_eq_true,if_false,or_self]
   cases qR cols srt<;>simp
set_option linter.unusedVariables false
set_option linter.unusedSimpArgs false
theorem Di {α:Type} [DecidableEq α] {l:List α} {i:Nat} {x:α} (h:i≤l.length):(Z8 i).all (fun k=>(l[k]?).all fun y=> !decide (y=x))= !(l.take i).contains x:=by
 rw [Zz];simp only [Zj,Zp,Ze,Zm,decide_eq_false_iff_not];constructor
 ·intro h1 hm
  obtain ⟨k,hk,he⟩:=Zf hm;have hk':k<i:=by simp at hk;omega
  have h2:=h1 k hk'
  have h3:l[k]? =some x:=by
   rw [Z1 (by omega)];simpa using he
  rw [h3,Zk] at h2;simp at h2
 ·intro h1 k hk
  have hkl:k<l.length:=by omega
  rw [Z1 hkl,Zk];simp only [Ze,decide_eq_false_iff_not];intro e;apply h1;rw [←e];exact Zt (i:=k) (by rw [Zn hk,Z1 hkl])
theorem I4 {α:Type} (l:List α) (p:α→Bool):(Z8 l.length).all (fun i=>(l[i]?).all fun x=>p x)=l.all p:=by
 rw [Zz];simp only [Zj,Zp];constructor
 ·intro h x hx
  obtain ⟨i,hi,rfl⟩:=Zf hx;have:=h i hi;rwa [Z1 hi,Zk] at this
 ·intro h i hi
  rw [Z1 hi,Zk];exact h _ (Z9 hi)
theorem Dj {cols:Int} {l:List aa} (hl:l.length≤4096) (hv: ∀v∈l,kX v) (i:Nat) (hi:i<l.length):
  nI cols l (i:Int)=if pX cols l i then some (.inl ((i+1:Nat):Int)) else some (.inr 81):=by
 have hok:=hv _ (Z9 hi);have hlen:=hok.len
 have h6:lh l (i:Int) l[i]=if !((l.take i).map (·.fId)).contains l[i].fId then some (.inl ((i+1:Nat):Int)) else some (.inr 81):=by
  have hrow:((l.take i).map (·.fId))=(l.map (·.fId)).take i:=by simp
  have ha:=Di (l:=l.map (·.fId)) (i:=i) (x:=l[i].fId) (by simp;omega);rw [hrow, ←ha];unfold lh
  have e:(Z8 i).all (fun k=>((l.map (·.fId))[k]?).all fun y=> !decide (y=l[i].fId))=(Z8 i).all (fun k=>(l[k]?).all fun y=> !decide (y.fId=l[i].fId)):=by
   congr 1;funext k;rw [List.getElem?_map];cases l[k]? <;>rfl
  rw [e];refine qk (fun k=>(k:Int)) i (fun k=>(l[k]?).all fun y=> !decide (y.fId=l[i].fId)) (Sum.inr 81) (some (.inl ((i+1:Nat):Int))) rfl (fun k hk hg=> ?_) (fun k hk hg=> ?_) ?_
  ·have hkl:k<l.length:=by omega
   simp only [Z1 hkl,Zk] at hg;simp only [nG];rw [if_pos (by simpa using hk),aA hkl,Z0,if_neg (by simpa using hg),ak (by omega)];rfl
  ·have hkl:k<l.length:=by omega
   simp only [Z1 hkl,Zk] at hg;simp only [nG];rw [if_pos (by simpa using hk),aA hkl,Z0,if_pos (by simpa using hg)];rfl
  ·simp only [nG]
   rw [if_neg (by simp),vb,ak (by omega)];rfl
 have h5: ∀b,gp l (i:Int) l[i] b=if b then some (.inr 81) else if l[i].fRow.all right then lh l (i:Int) l[i] else some (.inr 81):=by
  intro b;unfold gp;cases b
  ·rw [if_neg (by simp),if_neg (by simp), ←I4]
   refine qk (fun k=>(k:Int)) l[i].fRow.length (fun k=>(l[i].fRow[k]?).all fun x=>right x) (Sum.inr 81) (lh l (i:Int) l[i]) rfl (fun k hk hg=> ?_) (fun k hk hg=> ?_) ?_
   ·simp only [Z1 hk,Zk] at hg
    simp only [nH];rw [if_pos (by simpa using hk),aA hk,Z0,oR,Z0,hg,if_neg (by simp),ak (by omega)];rfl
   ·simp only [Z1 hk,Zk] at hg
    simp only [nH];rw [if_pos (by simpa using hk),aA hk,Z0,oR,Z0,hg,if_pos (by simp)];rfl
   ·simp only [nH]
    rw [if_neg (by simp)]
  ·rfl
 simp only [nI];rw [if_pos (by simpa using hi),aA hi,Z0];simp only [h5,h6];unfold pX rO;rw [Z1 hi];dsimp only;have he:=hok.ep;have hd:=hok.de
 rcases Zd (((l.take i).map (·.fId)).contains l[i].fId) with hq|hq<;>rcases Zd (l[i].fRow.all right) with hz|hz<;>simp only [hq,hz]<;>
  by_cases c1:(l[i].fRow.length:Int)=cols<;>by_cases c2:l[i].fId.fEpoch=0<;>by_cases c3:9223372036854775807<l[i].fId.fEpoch<;>by_cases c4:9223372036854775807<l[i].fDeleted<;>by_cases c5:l[i].fDeleted=0<;>by_cases c6:l[i].fDeleted≤l[i].fId.fEpoch<;>
  simp [c1,c2,c3,c4,c5,c6]<;>omega
theorem KD {cols:Int} {srt:List Int} {l:List aa} (hs:srt.length≤1048576) (hv: ∀v∈l,kX v):uz cols srt l=some (qw cols srt l):=by
 have h2:lj cols l=some (if 4096<l.length then 81 else if oY cols l then 0 else 81):=by
  unfold lj
  by_cases h:4096<l.length
  ·rw [if_pos (by simp;omega),if_pos h]
  ·rw [if_neg (by simp;omega),if_neg h]
   refine (qk (fun i=>(i:Int)) l.length (pX cols l) 81 (some 0) rfl (fun i hi hg=> ?_) (fun i hi hg=> ?_) ?_).trans ?_
   ·rw [Dj (by omega) hv i hi,hg];rfl
   ·rw [Dj (by omega) hv i hi,hg];rfl
   ·simp only [nI]
    rw [if_neg (by simp)];rfl
   ·show (if oY cols l then some 0 else some 81)=_
    cases oY cols l<;>rfl
 have h8: ∀(i:Nat) (hi:i<srt.length) b,nK srt (i:Int) b=if b then some (.inr 1) else if !(srt.take i).contains srt[i] then some (.inl ((i+1:Nat):Int)) else some (.inr 1):=by
  intro i hi b;unfold nK;cases b
  ·rw [if_neg (by simp),if_neg (by simp), ←Di (by omega)]
   refine qk (fun k=>(k:Int)) i (fun k=>(srt[k]?).all fun y=> !decide (y=srt[i])) (Sum.inr 1) (some (.inl ((i+1:Nat):Int))) rfl (fun k hk hg=> ?_) (fun k hk hg=> ?_) ?_
   ·have hkl:k<srt.length:=by omega
    simp only [Z1 hkl,Zk] at hg;simp only [nJ];rw [if_pos (by simpa using hk),aA hkl,Z0,aA hi,Z0,if_neg (by simpa using hg),ak (by omega)];rfl
   ·have hkl:k<srt.length:=by omega
    simp only [Z1 hkl,Zk] at hg;simp only [nJ];rw [if_pos (by simpa using hk),aA hkl,Z0,aA hi,Z0,if_pos (by simpa using hg)];rfl
   ·simp only [nJ]
    rw [if_neg (by simp),vc,ak (by omega)];rfl
  ·rfl
 have h1 : ∀ b, nM cols srt l b = if b then some 1 else if qR cols srt then lj cols l else some 1 := by
  intro b;unfold nM;cases b
  ·rw [if_neg (by simp), if_neg (by simp)]
   have hb: ∀(i:Nat) (hi:i<srt.length),nL cols srt l (i:Int)=if qQ cols srt i then some (.inl ((i+1:Nat):Int)) else some (.inr 1):=by
    intro i hi;simp only [nL];rw [if_pos (by simpa using hi),aA hi,Z0,Z0];simp only [h8 i hi];unfold qQ;rw [Z1 hi];dsimp only
    by_cases q1:srt[i]<0
    ·have q4: ¬ 0≤srt[i]:=by omega
     simp [q1,q4]
    ·by_cases q2:cols≤srt[i]
     ·have q3: ¬ srt[i]<cols:=by omega
      simp [q1,q2,q3]
     ·have q3:srt[i]<cols:=by omega
      have q4:0≤srt[i]:=by omega
      rw [if_neg (by simp [q1]),if_neg (by simp [q2])];rcases Zd ((srt.take i).contains srt[i]) with hq|hq<;>simp only [hq,decide_eq_true q3,decide_eq_true q4]<;>rfl
   refine qk (fun i=>(i:Int)) srt.length (qQ cols srt) 1 (lj cols l) rfl (fun i hi hg=> ?_) (fun i hi hg=> ?_) ?_
   ·rw [hb i hi,hg];rfl
   ·rw [hb i hi,hg];rfl
   ·simp only [nL]
    rw [if_neg (by simp)]
  ·rfl
 unfold uz qw;simp only [h1,h2]
 by_cases q1:cols<1
 ·simp [q1]
 ·by_cases q2:8<cols
  ·simp [q1,q2]
  ·simp only [q1,q2,decide_false,Bool.false_eq_true,if_false,or_self]
   cases qR cols srt<;>simp
structure oZ (cols:Int) (srt:List Int) (l:List aa):Prop where
 co:1≤cols∧cols≤8
 so:qR cols srt=true
 le:l.length≤4096
 ro:oY cols l=true
theorem Qp {cols:Int} {srt:List Int} {l:List aa}:qw cols srt l=0↔oZ cols srt l:=by
 unfold qw;constructor
 ·intro h
  by_cases c1:cols<1∨8<cols
  ·rw [if_pos c1] at h;cases h
  ·rw [if_neg c1] at h
   cases c2:qR cols srt with
   |false=>rw [c2] at h;cases h
   | true =>
    rw [c2,if_pos rfl] at h
    by_cases c3:4096<l.length
    ·rw [if_pos c3] at h;cases h
    ·rw [if_neg c3] at h
     cases c4:oY cols l with
     |false=>rw [c4] at h;cases h
     |true=>exact ⟨by omega,c2,by omega,c4⟩
 ·intro h
  have h1:=h.co;have h2:=h.le;rw [if_neg (by omega),h.so,if_pos rfl,if_neg (by omega),h.ro,if_pos rfl]
theorem oZ.ver {cols:Int} {srt:List Int} {l:List aa} (h:oZ cols srt l): ∀v∈l,rO cols v=true:=by
 intro v hv;obtain ⟨i,hi,rfl⟩:=Zf hv;have h1:=Zj.1 h.ro i (Zp.2 hi);unfold pX at h1;rw [Z1 hi] at h1;simp only [Zi] at h1;exact h1.1
theorem ql {cols:Int} {v:aa} (hv:kX v) (h:rO cols v=true):(∀x∈v.fRow,Rgt x)∧(v.fRow.length:Int)=cols∧1≤v.fId.fEpoch∧v.fId.fEpoch≤9223372036854775807∧(v.fDeleted=0∨v.fId.fEpoch<v.fDeleted∧v.fDeleted≤9223372036854775807):=by
 unfold rO at h;simp only [Zi,decide_eq_true_eq,Ze,Zr,Zs,decide_eq_false_iff_not,Zj] at h;obtain ⟨h1,h2,h3,h4,h5⟩:=h;refine ⟨fun x hx=>Rgt.of (hv.row x hx) (h1 x hx),h2,h3,h4,?_⟩;rcases h5 with h5|h5
 ·left;simpa using h5
 ·right;omega
set_option linter.unusedVariables false
set_option linter.unusedSimpArgs false
structure CV (cols:Int) (l:List aa):Prop where
 co:1≤cols∧cols≤8
 le:l.length≤4096
 ok: ∀v∈l,kX v∧rO cols v=true
theorem CV.of {cols:Int} {srt:List Int} {l:List aa} (h:oZ cols srt l) (hv: ∀v∈l,kX v):CV cols l:=⟨h.co,h.le,fun v hm=>⟨hv v hm,h.ver v hm⟩⟩
theorem CV.mem {cols:Int} {l l':List aa} (h:CV cols l) (hl:l'.length=l.length) (hm: ∀v∈l',v∈l):CV cols l':=⟨h.co,by rw [hl];exact h.le,fun v hv=>h.ok v (hm v hv)⟩
def gg (cols:Int) (n:Nat) (v:aa):Ap:=
 if (n:Int)<cols then v.fRow.getD n kV else if (n:Int)=cols then iH v.fId.fEpoch else if (n:Int)=cols+1 then iH v.fId.fNumber else iH v.fDeleted
def kx (cols:Int) (n:Nat) (l:List aa):List Ap:=l.map (gg cols n)
theorem Ev {cols:Int} {l:List aa} (h:CV cols l) {v:aa} (hv:v∈l) (n:Nat):Rgt (gg cols n v):=by
 obtain ⟨h1,h2⟩:=h.ok v hv;obtain ⟨h3,h4,h5,h6,h7⟩:=ql h1 h2;unfold gg;split
 ·have hn:n<v.fRow.length:=by omega
  have:v.fRow.getD n kV=v.fRow[n]:=by simp [hn]
  rw [this];exact h3 _ (Z9 hn)
 ·have hd:=h1.de
  have hn:=h1.nu;split
  ·exact Rgt.int _ (by unfold cY;omega)
  ·split
   ·exact Rgt.int _ (by unfold cY;omega)
   ·exact Rgt.int _ (by unfold cY;omega)
theorem Ew {cols:Int} {n:Nat} {l:List aa} {f:List Ap×Int→Option ((List Ap×Int)⊕List Ap)} (hl:l.length≤4096)
  (step: ∀(i:Nat) (h:i<l.length) (x:List Ap),x.length=i→f (x,(i:Int))=some (.inl (x++[gg cols n l[i]],((i+1:Nat):Int)))) (fin: ∀x,f (x,(l.length:Int))=some (.inr x)):aq f ([],0)=some (kx cols n l):=by
 refine jg (fun i=>((l.take i).map (gg cols n),(i:Int))) l.length (by simp) (fun i hi=> ?_) ?_
 ·show f ((l.take i).map (gg cols n),(i:Int))=_
  rw [step i hi _ (by simp;omega),ia hi,Za]
  rfl
 ·show f ((l.take l.length).map (gg cols n),(l.length:Int))=_
  rw [fin,Zb];rfl
theorem Hd {cols:Int} {n:Nat} {l:List aa} (h:CV cols l) (hn:(n:Int)<cols+3):kq cols (n:Int) l=some (kx cols n l):=by
 have hle:=h.le;have hco:=h.co;unfold kq;refine Ew hle (fun i hi x hx=> ?_) (fun x=> ?_)
 ·obtain ⟨h1,h2⟩:=h.ok _ (Z9 hi)
  obtain ⟨h3,h4,h5,h6,h7⟩:=ql h1 h2;have hd:=h1.de;have hnu:=h1.nu;simp only [mK,ez,Z0];have hj: ∀z,gj (i:Int) z=some (.inl (z,((i+1:Nat):Int))):=fun z=>by unfold gj;rw [ak (by omega)];rfl
  have ha: ∀y:Ap,app 3518437208883 x [y]=some (x++[y]):=fun y=>aJ (by simp;omega);rw [if_pos (by simpa using hi),aA hi,Z0,ak (n:=(n:Int) - cols) (by omega)];simp only [ha,Z0,hj];unfold gg
  by_cases c1:(n:Int)=cols
  ·rw [if_pos (by simp;omega),if_neg (by omega),if_pos c1,ak (by omega)]
  ·rw [if_neg (by simp;omega)]
   by_cases c2:(n:Int)=cols+1
   ·rw [if_pos (by simp;omega),if_neg (by omega),if_neg c1,if_pos c2,ak (by omega)]
   ·rw [if_neg (by simp;omega)]
    by_cases c3:(n:Int)=cols+2
    ·rw [if_pos (by simp;omega),if_neg (by omega),if_neg c1,if_neg c2,ak (by omega)]
    ·have hr:n<l[i].fRow.length:=by omega
     rw [if_neg (by simp;omega),if_pos (by omega),aA hr,Z0];simp [hr]
 ·simp only [mK]
  rw [if_neg (by simp)];rfl
theorem FH {cols:Int} {n:Nat} {l:List aa} (h:CV cols l) (hn:(n:Int)<cols+3):wa cols (n:Int) l=some (kx cols n l):=by
 have hle:=h.le;have hco:=h.co;unfold wa;refine Ew hle (fun i hi x hx=> ?_) (fun x=> ?_)
 ·obtain ⟨h1,h2⟩:=h.ok _ (Z9 hi)
  obtain ⟨h3,h4,h5,h6,h7⟩:=ql h1 h2;have hd:=h1.de;have hnu:=h1.nu;simp only [rD];have hj: ∀z,kt (i:Int) z=some (.inl (z,((i+1:Nat):Int))):=fun z=>by unfold kt;rw [ak (by omega)];rfl
  have ha: ∀y:Ap,app 3518437208883 x [y]=some (x++[y]):=fun y=>aJ (by simp;omega);rw [if_pos (by simpa using hi),aA hi,Z0,ak (n:=cols+1) (by omega)];simp only [ha,Z0,hj];unfold gg
  by_cases c0:(n:Int)<cols
  ·have hr:n<l[i].fRow.length:=by omega
   rw [if_pos (by simpa using c0),if_pos c0,aA hr,Z0];simp [hr]
  ·rw [if_neg (by simpa using c0),if_neg c0]
   by_cases c1:(n:Int)=cols
   ·rw [if_pos (by simpa using c1),if_pos c1,ak (by omega)]
   ·rw [if_neg (by simpa using c1),if_neg c1]
    by_cases c2:(n:Int)=cols+1
    ·rw [if_pos (by simpa using c2),if_pos c2,ak (by omega)]
    ·rw [if_neg (by simpa using c2),if_neg c2,ak (by omega)]
 ·simp only [rD]
  rw [if_neg (by simp)];rfl
def cS (l:List Ap) (i:Nat):List Ap:=(l.drop (64*i)).take 64
def ib (l:List Ap):Nat:=(l.length+63)/64
def jh (l:List Ap):List (List Ap):=(Z8 (ib l)).map (cS l)
theorem o4 (i:Nat):Z8 (i+1)=Z8 i++[i]:=List.range_succ
theorem Dk {l:List Ap} {i:Nat} (hi:i<ib l) (hl:l.length≤4096):(l.take (min l.length (64*i+64))).drop (64*i)=cS l i:=by
 unfold cS ib at*;rw [List.drop_take];rcases Nat.le_total l.length (64*i+64) with h|h
 ·rw [Nat.min_eq_left h,Z4 (by simp),Z4 (by simp;omega)]
 ·rw [Nat.min_eq_right h]
  congr 1;omega
theorem I5 {l:List Ap} (hl:l.length≤4096):hU l 64=some (jh l):=by
 unfold hU;rw [if_neg (by simp)];unfold im fP f8
 have:aq (fun s:Int×List (List Ap)=>cK (fun (s:List (List Ap)) x=>some (s++[x],true)) l 64 s.1 s.2) (0,[])=some (jh l):=by
  refine jg (fun i=>(((64*i:Nat):Int),(Z8 i).map (cS l))) (ib l) (by simp) (fun i hi=> ?_) ?_
  ·have hlt:64*i<l.length:=by unfold ib at hi;omega
   simp only [cK]
   have h1:sub l ((64*i:Nat):Int) (l.length:Int)=some (l.drop (64*i)):=by
    have:=ek (xs:=l) (lo:=64*i) (hi:=l.length) (by omega) (Zl _);rwa [Zb] at this
   have h2:sub l ((64*i:Nat):Int) (Zq.wrap (((64*i:Nat):Int)+(if ((l.drop (64*i)).length:Int)<64 then ((l.drop (64*i)).length:Int) else 64)))=some (cS l i):=by
    have e:Zq.wrap (((64*i:Nat):Int)+(if ((l.drop (64*i)).length:Int)<64 then ((l.drop (64*i)).length:Int) else 64))=((min l.length (64*i+64):Nat):Int):=by
     rw [X7];split<;>rw [ak (by omega)]<;>omega
    rw [e,ek (by omega) (by omega),Dk hi hl]
   rw [if_pos (by simp;omega),h1,Z0,h2,Z0,Z0,if_neg (by simp),ak (by omega),o4,Za];congr 2
  ·have hge:l.length≤64*ib l:=by unfold ib;omega
   simp only [cK];rw [if_neg (by simp;omega)];rfl
 rw [this];rfl
def yq (kind:Int) (p:List Ap):Int:=if (enc kind p).2=0 then kind else -1
def fu (kind:Int) (p:List Ap):List Int:=(wr (yq kind p) p).1
def pY (kind:Int) (l:List Ap):List Int:=((jh l).map (fu kind)).flatten
theorem xj {kind:Int} {p:List Ap} (h: ∀v∈p,VOK v):Byt (fu kind p)∧(fu kind p).length≤100000:=by
 unfold fu
 by_cases hw:(wr (yq kind p) p).2=0
 ·exact GY h hw
 ·have:(wr (yq kind p) p).1=[]:=by
   unfold wr at hw ⊢;split
   ·rfl
   ·rename_i h1
    rw [if_neg h1] at hw;split
    ·rfl
    ·rename_i h2;rw [if_neg h2] at hw;exact absurd rfl hw
  rw [this];exact ⟨fun c hc=>by simp at hc,by simp⟩
theorem rP {l:List Ap} {i:Nat} {v:Ap} (h:v∈cS l i):v∈l:=List.mem_of_mem_drop (List.mem_of_mem_take h)
theorem yr (l:List Ap) (i:Nat):(cS l i).length≤64:=by unfold cS;simp;omega
theorem wB {kind:Int} {l:List Ap} (h: ∀v∈l,VOK v): ∀k,Byt ((((Z8 k).map (cS l)).map (fu kind)).flatten)∧((((Z8 k).map (cS l)).map (fu kind)).flatten).length≤100000*k:=by
 intro k
 induction k with
 |zero=>exact ⟨fun c hc=>by simp at hc,by simp⟩
 |succ k ih=>
  have hb:=xj (kind:=kind) (p:=cS l k) (fun v hv=>h v (rP hv));rw [o4,Za,Za,Zo];simp only [Xe,List.map_nil,List.flatten_singleton];refine ⟨fun c hc=> ?_,by rw [Z2];omega⟩;rcases List.mem_append.1 hc with hc|hc
  ·exact ih.1 c hc
  ·exact hb.1 c hc
theorem uP {kind:Int} {l:List Ap} (h: ∀v∈l,VOK v) (hl:l.length≤4096):Byt (pY kind l)∧(pY kind l).length≤6400000:=by
 have:=wB (kind:=kind) h (ib l);refine ⟨this.1,Nat.le_trans this.2 ?_⟩;unfold ib;omega
theorem He {kind:Int} {l:List Ap} (h: ∀v∈l,VOK v) (hl:l.length≤4096):kr kind l=some (pY kind l):=by
 have hstep: ∀(out:List Int) (p:List Ap),(∀v∈p,VOK v)→p.length≤64→out.length≤10000000→eS kind out p=some (out++fu kind p,true):=by
  intro out p hp hpl ho;have hb:=(xj (kind:=kind) hp).2
  have hj: ∀k,(wr k p).1.length≤100000→gk out p k=some (out++(wr k p).1,true):=fun k hk=>by
   unfold gk;rw [IN k hp (by omega),Z0,aJ (by omega),Z0]
  simp only [eS,qI];rw [sH kind hp (by omega),Z0,Z0];unfold fu yq at*
  by_cases hc:(enc kind p).2=0
  ·rw [if_pos hc] at hb ⊢
   rw [if_neg (by simp [hc]),hj _ hb]
  ·rw [if_neg hc] at hb ⊢
   rw [if_pos (by simp [hc]),hj _ hb]
 unfold kr;rw [I5 hl,Z0]
 have key: ∀(k i:Nat),i+k=ib l→ew (fun (s:List Int) (x:List Ap)=>eS kind s x) ((((Z8 i).map (cS l)).map (fu kind)).flatten) ((List.range' i k).map (cS l))=some (pY kind l,true):=by
  intro k
  induction k with
  |zero=>
   intro i hi;obtain rfl:i=ib l:=by omega
   rfl
  | succ k ih =>
   intro i hi;rw [List.range'_succ,Xe];have hb:=wB (kind:=kind) h i;have hi':i<64:=by unfold ib at hi;omega
   simp only [ew];rw [hstep _ _ (fun v hv=>h v (rP hv)) (yr l i) (by omega),Z0,if_pos rfl]
   have e:(((Z8 i).map (cS l)).map (fu kind)).flatten++fu kind (cS l i)=(((Z8 (i+1)).map (cS l)).map (fu kind)).flatten:=by
    rw [o4,Za,Za,Zo];simp
   rw [e];exact ih (i+1) (by omega)
 have:=key (ib l) 0 (by omega);rw [←List.range_eq_range'] at this;have h0:(((Z8 0).map (cS l)).map (fu kind)).flatten=[]:=rfl;rw [h0] at this;unfold jh;rw [this,Z0,if_pos rfl]
theorem FJ {kind:Int} {l:List Ap} (h: ∀v∈l,VOK v) (hl:l.length≤4096):wb kind l=some (pY kind l):=by
 unfold wb;refine jg (fun i=>((((Z8 i).map (cS l)).map (fu kind)).flatten,((64*i:Nat):Int))) (ib l) (by simp) (fun i hi=> ?_) ?_
 ·have hlt:64*i<l.length:=by unfold ib at hi;omega
  have hb:=wB (kind:=kind) h i;have hp: ∀v∈cS l i,VOK v:=fun v hv=>h v (rP hv);have hpl:=yr l i;have hbb:=(xj (kind:=kind) hp).2;have hi':i<64:=by omega
  have h2:sub l ((64*i:Nat):Int) (if (l.length:Int)<Zq.wrap (((64*i:Nat):Int)+64) then (l.length:Int) else Zq.wrap (((64*i:Nat):Int)+64))=some (cS l i):=by
   have e:(if (l.length:Int)<Zq.wrap (((64*i:Nat):Int)+64) then (l.length:Int) else Zq.wrap (((64*i:Nat):Int)+64))=((min l.length (64*i+64):Nat):Int):=by
    rw [ak (by omega)];split<;>omega
   rw [e,ek (by omega) (by omega),Dk hi hl]
  have e:(((Z8 i).map (cS l)).map (fu kind)).flatten++fu kind (cS l i)=(((Z8 (i+1)).map (cS l)).map (fu kind)).flatten:=by
   rw [o4,Za,Za,Zo];simp
  have hj: ∀k,(wr k (cS l i)).1.length≤100000→oQ ((((Z8 i).map (cS l)).map (fu kind)).flatten) ((64*i:Nat):Int) (cS l i) k=some (.inl ((((Z8 i).map (cS l)).map (fu kind)).flatten++(wr k (cS l i)).1,((64*(i+1):Nat):Int))):=fun k hk=>by
   unfold oQ;rw [G2 k hp (by omega),Z0,aJ (by omega),Z0,ak (by omega)]
   rfl
  simp only [rE];rw [if_pos (by simp;omega),h2,Z0,qu kind hp (by omega),Z0, ←e];unfold fu yq at*
  by_cases hc:(enc kind (cS l i)).2=0
  ·rw [if_pos hc] at hbb ⊢
   rw [if_neg (by simp [hc]),hj _ hbb]
  ·rw [if_neg hc] at hbb ⊢
   rw [if_pos (by simp [hc]),hj _ hbb]
 ·have hge:l.length≤64*ib l:=by unfold ib;omega
  simp only [rE];rw [if_neg (by simp;omega)];rfl
set_option linter.unusedVariables false
set_option linter.unusedSimpArgs false
theorem Aw {b:List Int} {n:Int} (h:b.length≤1000000000):i8 b n=some (b++be4 n):=by
 unfold i8;have e1:aD .i64 n 24=n/2^24:=Fv (k:=24) (by decide);have e2:aD .i64 n 16=n/2^16:=Fv (k:=16) (by decide);have e3:aD .i64 n 8=n/2^8:=Fv (k:=8) (by decide);rw [aJ (by simp;omega),Z0,e1,e2,e3,bm,bm,bm,bm]
 rfl
def lQ (cols:Int) (srt:List Int):List Int:=[72,65,89,49,Xh.wrap cols,Xh.wrap (srt.length:Int)]
def nmB (cols:Int) (srt:List Int) (m:Int):List Int:=lQ cols srt++srt.map Xh.wrap++be4 m
def gu (cols:Int) (kinds:List Int) (n:Nat):Int:=if (n:Int)<cols∧n<kinds.length then kinds.getD n 0 else -1
def lG (cols:Int) (kinds:List Int) (T:List aa) (n:Nat):List Int:=
 be4 ((pY (gu cols kinds n) (kx cols n T)).length:Int)++pY (gu cols kinds n) (kx cols n T)
def dZ (cols:Int) (kinds:List Int) (T:List aa) (k:Nat):List Int:=((Z8 k).map (lG cols kinds T)).flatten
def iJ (cols:Int) (srt kinds:List Int) (T:List aa):List Int:=nmB cols srt (T.length:Int)++dZ cols kinds T (cols+3).toNat
def l8 (cols:Int) (srt kinds:List Int) (T:List aa):List Int:=iJ cols srt kinds T++be4 (lF (iJ cols srt kinds T))
theorem wC (cols:Int) (kinds:List Int) (T:List aa) (k:Nat):dZ cols kinds T (k+1)=dZ cols kinds T k++lG cols kinds T k:=by
 unfold dZ;rw [o4,Za,Zo];simp
theorem xk {cols:Int} {n:Nat} {T:List aa} (h:CV cols T):(∀v∈kx cols n T,VOK v)∧(kx cols n T).length≤4096:=by
 refine ⟨fun v hv=> ?_,by unfold kx;simpa using h.le⟩;obtain ⟨x,hx,rfl⟩:=Xf.1 hv;exact (Ev h hx n).ok
theorem Dl (n:Int):0≤Xh.wrap n∧Xh.wrap n<256:=by rw [bm];omega
theorem tU {a b:List Int} (ha:Byt a) (hb:Byt b):Byt (a++b):=fun c hc=>by
 rcases List.mem_append.1 hc with hc|hc
 ·exact ha c hc
 ·exact hb c hc
theorem Ex {cols:Int} {kinds:List Int} {T:List aa} (h:CV cols T) (n:Nat):Byt (lG cols kinds T n)∧(lG cols kinds T n).length≤6400004:=by
 obtain ⟨h1,h2⟩:=xk (n:=n) h;obtain ⟨h3,h4⟩:=uP (kind:=gu cols kinds n) h1 h2;unfold lG;exact ⟨tU (Aq _) h3,by rw [Z2,dQ];omega⟩
theorem uQ {cols:Int} {kinds:List Int} {T:List aa} (h:CV cols T): ∀k,Byt (dZ cols kinds T k)∧(dZ cols kinds T k).length≤6400004*k:=by
 intro k
 induction k with
 |zero=>exact ⟨fun c hc=>by simp [dZ] at hc,by simp [dZ]⟩
 |succ k ih=>
  have hs:=Ex (kinds:=kinds) h k;rw [wC];exact ⟨tU ih.1 hs.1,by rw [Z2];omega⟩
theorem LY (cols:Int) (srt:List Int) (m:Int):Byt (nmB cols srt m):=by
 unfold nmB lQ;refine tU (tU ?_ ?_) (Aq m)
 ·intro c hc
  have h1:=Dl cols;have h2:=Dl (srt.length:Int);simp only [Xd,List.not_mem_nil,or_false] at hc;rcases hc with rfl|rfl|rfl|rfl|rfl|rfl<;>omega
 ·intro c hc
  obtain ⟨x,_,rfl⟩:=Xf.1 hc;exact Dl x
theorem Dm (cols:Int) (srt:List Int) (m:Int):(nmB cols srt m).length=10+srt.length:=by
 unfold nmB lQ;simp [dQ];omega
theorem Az {cols:Int} {srt kinds:List Int} {T:List aa} (h:CV cols T) (hs:srt.length≤1048576):Byt (iJ cols srt kinds T)∧(iJ cols srt kinds T).length≤100000000:=by
 have h1:=uQ (kinds:=kinds) h (cols+3).toNat;have hco:=h.co;have hn:=Dm cols srt (T.length:Int);unfold iJ;refine ⟨tU (LY _ _ _) h1.1,?_⟩;rw [Z2,hn];have:(cols+3).toNat≤11:=by omega
 have:6400004*(cols+3).toNat≤6400004*11:=Nat.mul_le_mul_left _ this;omega
theorem KE {cols:Int} {srt kinds:List Int} {T:List aa} (h:CV cols T) (hs:srt.length≤1048576) (hk:kinds.length≤1048576):
  aq (fun s:(List Int×Int)=>gH cols kinds T s.1 s.2) (nmB cols srt (T.length:Int),0)=some (l8 cols srt kinds T,0):=by
 have hco:=h.co;have hbod:=Az (srt:=srt) (kinds:=kinds) h hs;have hnm:=Dm cols srt (T.length:Int);refine jg (fun n=>(nmB cols srt (T.length:Int)++dZ cols kinds T n,(n:Int))) (cols+3).toNat (by simp [dZ]) (fun n hn=> ?_) ?_
 ·have hss:=uQ (kinds:=kinds) h n
  have hn11:n<11:=by omega
  have hlen:(nmB cols srt (T.length:Int)++dZ cols kinds T n).length≤200000000:=by rw [Z2,hnm];omega
  obtain ⟨hv,hl⟩:=xk (n:=n) h;obtain ⟨hb1,hb2⟩:=uP (kind:=gu cols kinds n) hv hl
  have hj4:gG cols T (nmB cols srt (T.length:Int)++dZ cols kinds T n) (n:Int) (gu cols kinds n)=some (.inl (nmB cols srt (T.length:Int)++dZ cols kinds T (n+1),((n+1:Nat):Int))):=by
   unfold gG;rw [Hd h (by omega),Z0,He hv hl,Z0,Aw (by omega),Z0,aJ (by rw [Z2,dQ];omega),Z0,ak (by omega),wC];unfold lG;simp only [Z7]
   rfl
  have hj3: ∀b,(b=true↔n<kinds.length)→(n:Int)<cols→fq cols kinds T (nmB cols srt (T.length:Int)++dZ cols kinds T n) (n:Int) b=some (.inl (nmB cols srt (T.length:Int)++dZ cols kinds T (n+1),((n+1:Nat):Int))):=by
   intro b hb hc;unfold fq;cases b with
   |true=>
    have hlt:=hb.1 rfl;rw [if_pos rfl,aA hlt,Z0];have:gu cols kinds n=kinds[n]:=by unfold gu;rw [if_pos ⟨hc,hlt⟩];simp [hlt]
    rw [←this,hj4]
   | false =>
    rw [if_neg (by simp)]
    have:gu cols kinds n= -1:=by
     unfold gu;rw [if_neg (fun hh=>by have:=hb.2 hh.2;cases this)]
    rw [←this,hj4]
  simp only [gH];rw [ak (by omega),if_pos (by simp;omega)]
  by_cases hc:(n:Int)<cols
  ·rw [if_pos (by simpa using hc)]
   exact hj3 _ (by simp) hc
  ·rw [if_neg (by simpa using hc)]
   unfold fq;rw [if_neg (by simp)];have:gu cols kinds n= -1:=by unfold gu;rw [if_neg (fun hh=>hc hh.1)]
   rw [←this,hj4]
 ·simp only [gH]
  rw [ak (by omega),if_neg (by simp;omega)];show (i9 (iJ cols srt kinds T)).map Sum.inr=_;unfold i9;obtain ⟨h1,h2⟩:=wu (b:=iJ cols srt kinds T) (by omega);unfold U32 at h2;rw [h1,Z0,ak (by omega),Aw (by omega)]
  rfl
theorem I6 {cols:Int} {srt kinds:List Int} {T:List aa} (h:CV cols T) (hs:srt.length≤1048576) (hk:kinds.length≤1048576):
  aq (fun s:(List Int×Int)=>pV cols kinds T s.1 s.2) (nmB cols srt (T.length:Int),0)=some (l8 cols srt kinds T,0):=by
 have hco:=h.co;have hbod:=Az (srt:=srt) (kinds:=kinds) h hs;have hnm:=Dm cols srt (T.length:Int);refine jg (fun n=>(nmB cols srt (T.length:Int)++dZ cols kinds T n,(n:Int))) (cols+3).toNat (by simp [dZ]) (fun n hn=> ?_) ?_
 ·have hss:=uQ (kinds:=kinds) h n
  have hn11:n<11:=by omega
  have hlen:(nmB cols srt (T.length:Int)++dZ cols kinds T n).length≤200000000:=by rw [Z2,hnm];omega
  obtain ⟨hv,hl⟩:=xk (n:=n) h;obtain ⟨hb1,hb2⟩:=uP (kind:=gu cols kinds n) hv hl
  have hj4:pU cols T (nmB cols srt (T.length:Int)++dZ cols kinds T n) (n:Int) (gu cols kinds n)=some (.inl (nmB cols srt (T.length:Int)++dZ cols kinds T (n+1),((n+1:Nat):Int))):=by
   unfold pU;rw [FH h (by omega),Z0,FJ hv hl,Z0,bD,Zc (by omega) (by omega),qP (by omega),Z0,aJ (by rw [dQ];omega),Z0,aJ (by rw [Z2,dQ];omega),Z0,ak (by omega),wC];unfold lG;simp only [Z7]
   rfl
  have hj3: ∀b,(b=true↔n<kinds.length)→(n:Int)<cols→ni cols kinds T (nmB cols srt (T.length:Int)++dZ cols kinds T n) (n:Int) b=some (.inl (nmB cols srt (T.length:Int)++dZ cols kinds T (n+1),((n+1:Nat):Int))):=by
   intro b hb hc;unfold ni;cases b with
   |true=>
    have hlt:=hb.1 rfl;rw [if_pos rfl,aA hlt,Z0];have:gu cols kinds n=kinds[n]:=by unfold gu;rw [if_pos ⟨hc,hlt⟩];simp [hlt]
    rw [←this,hj4]
   | false =>
    rw [if_neg (by simp)]
    have:gu cols kinds n= -1:=by
     unfold gu;rw [if_neg (fun hh=>by have:=hb.2 hh.2;cases this)]
    rw [←this,hj4]
  simp only [pV];rw [ak (by omega),if_pos (by simp;omega)]
  by_cases hc:(n:Int)<cols
  ·rw [if_pos (by simpa using hc)]
   exact hj3 _ (by simp) hc
  ·rw [if_neg (by simpa using hc)]
   unfold ni;rw [if_neg (by simp)];have:gu cols kinds n= -1:=by unfold gu;rw [if_neg (fun hh=>hc hh.1)]
   rw [←this,hj4]
 ·simp only [pV]
  rw [ak (by omega),if_neg (by simp;omega)];show (th (iJ cols srt kinds T)).map Sum.inr=_;unfold th;obtain ⟨h1,h2⟩:=wu (b:=iJ cols srt kinds T) (by omega);unfold U32 at h2;rw [Et hbod.1 (by omega),Z0,bD,Zc (by omega) (by omega),qP (by omega),Z0,aJ (by rw [dQ];omega)]
  rfl
theorem Bp {cols:Int} {srt kinds:List Int} {l:List aa} (hs:srt.length≤1048576) (hk:kinds.length≤1048576) (hv: ∀v∈l,kX v):
  (qw cols srt l≠0∧fh cols srt kinds l=some ([],qw cols srt l)∧yh cols srt kinds l=some ([],qw cols srt l))∨
  (oZ cols srt l∧ ∃T,Stb (qlt srt) l T∧CV cols T∧fh cols srt kinds l=some (l8 cols srt kinds T,0)∧yh cols srt kinds l=some (l8 cols srt kinds T,0)):=by
 unfold fh yh;rw [uO hs hv,KD hs hv,Z0,Z0]
 by_cases hr:qw cols srt l=0
 ·right
  have hA:=Qp.1 hr;have hle:=hA.le;have hrk:Rok l:=fun v hm=>(hv v hm).len;obtain ⟨T,h1,h2⟩:=Bo (cs:=srt) (xs:=l) hs (by omega) hrk;obtain ⟨T',h3,h4⟩:=Df (cs:=srt) (xs:=l) hs (by omega);obtain rfl:=h4.unique (gl srt) h2;have hT:CV cols T':=(CV.of hA hv).mem (h2.len (gl srt)) (fun v hm=>(h2.mem (gl srt)).1 hm);have hTl:=h2.len (gl srt);refine ⟨hA,T',h2,hT,?_,?_⟩
  ·rw [if_neg (by simp [hr]),h1,Z0,aJ (by simp),Z0]
   refine (jg (fun i=>(lQ cols srt++(srt.take i).map Xh.wrap,(i:Int))) srt.length (by simp [lQ]) (fun i hi=> ?_) (b:=ja cols kinds T' (lQ cols srt++srt.map Xh.wrap)) ?_).trans ?_
   ·simp only [jb]
    rw [if_pos (by simpa using hi),aA hi,Z0,aJ (by simp [lQ];omega),Z0,ak (by omega),ia hi,Za];simp only [Z7]
    rfl
   ·simp only [jb]
    rw [if_neg (by simp),Zb]
   ·unfold ja
    rw [Aw (by simp [lQ];omega),Z0];exact KE hT hs hk
  ·rw [if_neg (by simp [hr]),h3,Z0]
   refine (jg (fun i=>(lQ cols srt++(srt.take i).map Xh.wrap,(i:Int))) srt.length (by simp [lQ]) (fun i hi=> ?_) (b:=tj cols kinds l T' (lQ cols srt++srt.map Xh.wrap)) ?_).trans ?_
   ·simp only [tl]
    rw [if_pos (by simpa using hi),aA hi,Z0,aJ (by simp [lQ];omega),Z0,ak (by omega),ia hi,Za];simp only [Z7]
    rfl
   ·simp only [tl]
    rw [if_neg (by simp),Zb]
   ·unfold tj
    rw [bD,Zc (by omega) (by omega),qP (by omega),Z0,aJ (by simp [lQ,dQ];omega),Z0];have:=I6 (srt:=srt) (kinds:=kinds) hT hs hk;rw [hTl] at this;exact this
 ·left
  exact ⟨hr,by rw [if_pos (by simpa using hr)],by rw [if_pos (by simpa using hr)]⟩
set_option linter.unusedVariables false
set_option linter.unusedSimpArgs false
theorem orS {a b:Nat} (k:Nat) (hb:b<2^k) (h:2^k*a+b<4294967296):bOr .i64 ((2^k*a:Nat):Int) (b:Int)=((2^k*a+b:Nat):Int):=by
 unfold bOr
 have h1:(Xg Zq.bits ((2^k*a:Nat):Int)).toNat=2^k*a:=by
  show (Xg 64 ((2^k*a:Nat):Int)).toNat=2^k*a;rw [BitVec.toNat_ofInt];omega
 have h2:(Xg Zq.bits (b:Int)).toNat=b:=by
  show (Xg 64 (b:Int)).toNat=b;rw [BitVec.toNat_ofInt];omega
 rw [BitVec.toNat_or,h1,h2, ←Nat.two_pow_add_eq_or_of_lt hb,ak (by omega)]
theorem shI {a:Nat} (k:Nat) (hk:k≤24) (ha:a<256):em .i64 (a:Int) (k:Int)=((2^k*a:Nat):Int):=by
 unfold em;have e:min ((k:Int)).toNat Zq.bits=k:=by simp [IntKind.bits];omega
 have h2:2^k≤2^24:=Nat.pow_le_pow_right (by decide) hk;have h3:2^k*a≤2^24*255:=Nat.mul_le_mul h2 (by omega);rw [e,show (a:Int)*2^k=((2^k*a:Nat):Int) by rw [Nat.mul_comm];push_cast;rfl,ak (by omega)]
theorem FK {a b c d:Int} {t:List Int} (ha:0≤a∧a<256) (hb:0≤b∧b<256) (hc:0≤c∧c<256) (hd:0≤d∧d<256):d4 (a::b::c::d::t)=some (en [a,b,c,d]):=by
 have e0:idx (a::b::c::d::t) 0=some a:=aA (xs:=a::b::c::d::t) (i:=0) (by simp);have e1:idx (a::b::c::d::t) 1=some b:=aA (xs:=a::b::c::d::t) (i:=1) (by simp);have e2:idx (a::b::c::d::t) 2=some c:=aA (xs:=a::b::c::d::t) (i:=2) (by simp);have e3:idx (a::b::c::d::t) 3=some d:=aA (xs:=a::b::c::d::t) (i:=3) (by simp);unfold d4;rw [e0,Z0,e1,Z0,e2,Z0,e3,Z0,ak (by omega),ak (by omega),ak (by omega),ak (by omega)];obtain ⟨a,rfl⟩:=Zh ha.1;obtain ⟨b,rfl⟩:=Zh hb.1;obtain ⟨c,rfl⟩:=Zh hc.1;obtain ⟨d,rfl⟩:=Zh hd.1;have s1:=shI (a:=a) 24 (by omega) (by omega);have s2:=shI (a:=b) 16 (by omega) (by omega)
 have s3:=shI (a:=c) 8 (by omega) (by omega);rw [show ((24:Nat):Int)=24 from rfl] at s1;rw [show ((16:Nat):Int)=16 from rfl] at s2;rw [show ((8:Nat):Int)=8 from rfl] at s3;rw [s1,s2,s3,orS 24 (by omega) (by omega),show 2^24*a+2^16*b=2^16*(2^8*a+b) by omega,orS 16 (by omega) (by omega),show 2^16*(2^8*a+b)+2^8*c=2^8*(2^8*(2^8*a+b)+c) by omega,orS 8 (by omega) (by omega)];unfold en;simp only [List.foldl_cons,List.foldl_nil];congr 1;omega
theorem uR {n:Int} (h:U32 n) (t:List Int):d4 (be4 n++t)=some n:=by
 have:=IV h;unfold be4 at*;rw [Zu,Zu,Zu,Zu,FK (by omega) (by omega) (by omega) (by omega),this]
theorem Hf {kind:Int} {p:List Ap} (h: ∀v∈p,Rgt v) (hp:p≠[]) (hl:p.length≤64):(wr (yq kind p) p).2=0:=by
 have key: ∀k,(enc (kw k p) p).2=0→(wr k p).2=0:=fun k hk=>by
  unfold wr;rw [if_neg hp,if_neg (by simpa using hk)]
 apply key;unfold yq;split
 ·rename_i he
  unfold kw;rw [if_neg]
  ·exact he
  ·rintro rfl
   unfold enc at he;rw [if_pos (by omega)] at he;cases he
 ·unfold kw
  rw [if_pos rfl,Re.1];unfold enc;have hr:p.all right=true:=Zj.2 fun v hv=>(h v hv).right;rw [if_neg (by omega),if_neg (by omega),if_neg (by simp [hr]),if_neg (fun hh=>by omega),if_neg hp]
theorem I7 {kind:Int} {p:List Ap} (h: ∀v∈p,Rgt v) (hp:p≠[]) (hl:p.length≤64) {t:List Int} (ht:Byt t) (htl:t.length≤900000000000):kO (fu kind p++t)=some (p,((fu kind p).length:Int),0):=by
 unfold fu;exact Ky (fun v hv=>(h v hv).ok) (Hf h hp hl) ht htl
theorem KF {kind:Int} {p:List Ap} (h: ∀v∈p,Rgt v) (hp:p≠[]) (hl:p.length≤64):0<(fu kind p).length:=by
 unfold fu;obtain ⟨k,_,_,_,_,hw,_⟩:=C7 (fun v hv=>(h v hv).ok) (Hf (kind:=kind) h hp hl);rw [hw];unfold mw;simp [dQ]
theorem Bq {kind:Int} {l:List Ap} {i:Nat} (hi:i<ib l):(((jh l).drop i).map (fu kind)).flatten=fu kind (cS l i)++(((jh l).drop (i+1)).map (fu kind)).flatten:=by
 have hc:i<(jh l).length:=by unfold jh;simpa using hi
 rw [Z3 hc];have:(jh l)[i]=cS l i:=by simp [jh]
 rw [this];rfl
theorem Hg {kind:Int} {l:List Ap} (h: ∀v∈l,VOK v) (hl:l.length≤4096): ∀k i:Nat,i+k=ib l→Byt ((((jh l).drop i).map (fu kind)).flatten)∧((((jh l).drop i).map (fu kind)).flatten).length≤100000*k:=by
 intro k
 induction k with
 |zero=>
  intro i hi;rw [Z6 (by unfold jh;simp;omega)];exact ⟨.nil,by simp⟩
 |succ k ih=>
  intro i hi;have hb:=xj (kind:=kind) (p:=cS l i) (fun v hv=>h v (rP hv));have:=ih (i+1) (by omega);rw [Bq (by omega)];exact ⟨hb.1.app this.1,by rw [Z2];omega⟩
theorem Hh {kind:Int} {l:List Ap} (h: ∀v∈l,Rgt v) (hl:l.length≤4096):iO (pY kind l) (l.length:Int)=some (l,true):=by
 unfold iO;have hv: ∀v∈l,VOK v:=fun v hv=>(h v hv).ok;refine jg (fun i=>((((jh l).drop i).map (fu kind)).flatten,l.take (64*i))) (ib l) (by simp [pY]) (fun i hi=> ?_) ?_
 ·have hlt:64*i<l.length:=by unfold ib at hi;omega
  have hp: ∀v∈cS l i,Rgt v:=fun v hv=>h v (rP hv);have hpl:=yr l i;have hplen:(cS l i).length=min 64 (l.length - 64*i):=by unfold cS;simp
  have hne:cS l i≠[]:=fun e=>by rw [e] at hplen;simp at hplen;omega
  have hpos:=KF (kind:=kind) hp hne hpl;obtain ⟨hd1,hd2⟩:=Hg (kind:=kind) hv hl (ib l - (i+1)) (i+1) (by omega);have hcb:ib l≤64:=by unfold ib;omega
  have htl:(l.take (64*i)).length=64*i:=by simp;omega
  have ht:l.take (64*(i+1))=l.take (64*i)++cS l i:=by unfold cS;rw [←List.take_add];congr 1
  simp only [iC];rw [Bq hi,if_pos (by simp;omega),I7 hp hne hpl hd1 (by omega),Z0,if_neg (by simp),htl,ak (by omega)]
  have hm:(((cS l i).length:Int) != (if (l.length:Int) - ((64*i:Nat):Int)<64 then (l.length:Int) - ((64*i:Nat):Int) else 64))=false:=by
   rw [hplen];simp;split<;>omega
  dsimp only;rw [hm];unfold iB;rw [if_neg (by simp)];dsimp only;rw [aJ (by rw [htl];omega),Z0,ge (by simp),Z0,Xb,ht]
 ·have hge:l.length≤64*ib l:=by unfold ib;omega
  simp only [iC];rw [Z6 (by unfold jh;simp),if_neg (by simp),Z4 hge];unfold jY;simp
def tkV (cols:Int) (n:Nat) (v:aa):aa:=
 ⟨⟨if cols<(n:Int) then v.fId.fEpoch else 0,if cols+1<(n:Int) then v.fId.fNumber else 0⟩,v.fRow.take n,if cols+2<(n:Int) then v.fDeleted else 0⟩
theorem KG {cols:Int} (hc:1≤cols) (v:aa):tkV cols 0 v=aa.zero:=by
 unfold tkV;rw [if_neg (by omega),if_neg (by omega),if_neg (by omega)]
 rfl
theorem LZ {cols:Int} {v:aa} (hc:1≤cols) (h:(v.fRow.length:Int)=cols):tkV cols (cols+3).toNat v=v:=by
 unfold tkV;rw [if_pos (by omega),if_pos (by omega),if_pos (by omega),Z4 (by omega)]
theorem L2 {α:Type} {A B:List α} {x:α} {i:Nat} (h:A.length=i):(A++x::B)[i]? =some x:=by simp [←h]
theorem I8 {α:Type} {A B:List α} {x y:α} {i:Nat} (h:A.length=i):(A++x::B).set i y=A++y::B:=by simp [←h]
theorem I9 {cols:Int} {srt:List Int} {T:List aa} (h:CV cols T) {n:Nat} (hn:(n:Int)<cols+3):
  iD ⟨cols,srt,[]⟩ (T.map (tkV cols n)) (n:Int) (kx cols n T)=some (true,T.map (tkV cols (n+1))):=by
 have hle:=h.le;have hco:=h.co;have hcl:(kx cols n T).length=T.length:=by simp [kx]
 unfold iD;refine jg (fun i=>((i:Int),(T.take i).map (tkV cols (n+1))++(T.drop i).map (tkV cols n))) T.length (by simp) (fun i hi=> ?_) ?_
 ·obtain ⟨h1,h2⟩:=h.ok _ (Z9 hi)
  obtain ⟨h3,h4,h5,h6,h7⟩:=ql h1 h2;have hde:=h1.de;have hnu:=h1.nu;have hAl:((T.take i).map (tkV cols (n+1))).length=i:=by simp;omega
  obtain ⟨A,hA⟩: ∃A,A=(T.take i).map (tkV cols (n+1)):=⟨_,rfl⟩
  obtain ⟨B,hB⟩: ∃B,B=(T.drop (i+1)).map (tkV cols n):=⟨_,rfl⟩
  have hS:(T.take i).map (tkV cols (n+1))++(T.drop i).map (tkV cols n)=A++tkV cols n T[i]::B:=by
   rw [Z3 hi,Xe,hA,hB]
  have hS':(T.take (i+1)).map (tkV cols (n+1))++(T.drop (i+1)).map (tkV cols n)=A++tkV cols (n+1) T[i]::B:=by
   rw [ia hi,Za,hA,hB];simp
  have hAl':A.length=i:=by rw [hA];exact hAl
  have hx:(A++tkV cols n T[i]::B)[i]? =some (tkV cols n T[i]):=L2 hAl';have hset: ∀y,(A++tkV cols n T[i]::B).set i y=A++y::B:=fun y=>I8 hAl'
  have hc:idx (kx cols n T) (i:Int)=some (gg cols n T[i]):=by
   rw [aA (by omega)];simp [kx]
  show dT ⟨cols,srt,[]⟩ (n:Int) (kx cols n T) (i:Int) ((T.take i).map (tkV cols (n+1))++(T.drop i).map (tkV cols n))=some (.inl (((i+1:Nat):Int),(T.take (i+1)).map (tkV cols (n+1))++(T.drop (i+1)).map (tkV cols n)));rw [hS,hS'];unfold dT;rw [if_pos (by simp;omega),hc,Z0,nN (by simp;omega),Z0]
  have h3': ∀z,dw (i:Int) z=some (.inl (((i+1:Nat):Int),z)):=fun z=>by
   unfold dw;rw [ak (by omega)];rfl
  have hj2 : dS ⟨cols, srt, []⟩ (n : Int) (i : Int) (A ++ tkV cols n T[i] :: B) (gg cols n T[i]) i false = some (.inl (((i + 1 : Nat) : Int), A ++ tkV cols (n + 1) T[i] :: B)) := by
   unfold dS;dsimp only;rw [if_neg (by simp),ak (by omega),hx];simp only [Z0,hset,h3']
   by_cases c1:(n:Int)=cols
   ·rw [if_pos (by simp;omega)]
    have hcell:gg cols n T[i]=iH T[i].fId.fEpoch:=by unfold gg;rw [if_neg (by omega),if_pos c1]
    rw [hcell,bD];unfold tkV;dsimp only [iH];rw [Zc (by omega) (by omega),Z4 (by omega),Z4 (by omega)];have a0:(cols<(n:Int))=False:=eq_false (by omega);have b0:(cols<((n+1:Nat):Int))=True:=eq_true (by omega);have a1:(cols+1<(n:Int))=False:=eq_false (by omega);have b1:(cols+1<((n+1:Nat):Int))=False:=eq_false (by omega);have a2:(cols+2<(n:Int))=False:=eq_false (by omega);have b2:(cols+2<((n+1:Nat):Int))=False:=eq_false (by omega);simp only [a0,b0,a1,b1,a2,b2,if_true,if_false]
   ·rw [if_neg (by simp; omega)]
    by_cases c2:(n:Int)=cols+1
    ·rw [if_pos (by simp;omega)]
     have hcell:gg cols n T[i]=iH T[i].fId.fNumber:=by unfold gg;rw [if_neg (by omega),if_neg c1,if_pos c2]
     rw [hcell,lA];unfold tkV;dsimp only [iH];rw [if_neg (by simp;omega),Zc (by omega) (by omega),Z4 (by omega),Z4 (by omega)];have a0:(cols<(n:Int))=True:=eq_true (by omega);have b0:(cols<((n+1:Nat):Int))=True:=eq_true (by omega);have a1:(cols+1<(n:Int))=False:=eq_false (by omega);have b1:(cols+1<((n+1:Nat):Int))=True:=eq_true (by omega);have a2:(cols+2<(n:Int))=False:=eq_false (by omega);have b2:(cols+2<((n+1:Nat):Int))=False:=eq_false (by omega);simp only [a0,b0,a1,b1,a2,b2,if_true,if_false]
    ·rw [if_neg (by simp;omega)]
     by_cases c3:(n:Int)=cols+2
     ·rw [if_pos (by simp;omega)]
      have hcell:gg cols n T[i]=iH T[i].fDeleted:=by unfold gg;rw [if_neg (by omega),if_neg c1,if_neg c2]
      rw [hcell,bD];unfold tkV;dsimp only [iH];rw [Zc (by omega) (by omega),Z4 (by omega),Z4 (by omega)];have a0:(cols<(n:Int))=True:=eq_true (by omega);have b0:(cols<((n+1:Nat):Int))=True:=eq_true (by omega);have a1:(cols+1<(n:Int))=True:=eq_true (by omega);have b1:(cols+1<((n+1:Nat):Int))=True:=eq_true (by omega);have a2:(cols+2<(n:Int))=False:=eq_false (by omega);have b2:(cols+2<((n+1:Nat):Int))=True:=eq_true (by omega);simp only [a0,b0,a1,b1,a2,b2,if_true,if_false]
     ·rw [if_neg (by simp;omega)]
      have hr:n<T[i].fRow.length:=by omega
      have e:T[i].fRow.take (n+1)=T[i].fRow.take n++[gg cols n T[i]]:=by
       unfold gg;rw [ia hr,if_pos (by omega)];simp [hr]
      have hxl:(tkV cols n T[i]).fRow.length≤1048576:=by
       have:=h1.len;unfold tkV;simp;omega
      rw [aJ (by simp;omega),Z0]
      have:tkV cols (n+1) T[i]={ tkV cols n T[i] with fRow:=(tkV cols n T[i]).fRow++[gg cols n T[i]] }:=by
       unfold tkV;dsimp only;rw [e,if_neg (by omega),if_neg (by omega),if_neg (by omega),if_neg (by omega),if_neg (by omega),if_neg (by omega)]
      rw [this]
  by_cases hnc:cols≤(n:Int)
  ·rw [if_pos (by simpa using hnc)]
   have hk:(gg cols n T[i]).fKind=2∧0≤(gg cols n T[i]).fInt:=by
    unfold gg;rw [if_neg (by omega)];split
    ·exact ⟨rfl,by simp only [iH];omega⟩
    ·split
     ·exact ⟨rfl,by simp only [iH];omega⟩
     ·exact ⟨rfl,by simp only [iH];omega⟩
   rw [if_neg (by simp [hk.1]),decide_eq_false (by omega)];exact hj2
  ·rw [if_neg (by simpa using hnc)]
   exact hj2
 ·show dT ⟨cols,srt,[]⟩ (n:Int) (kx cols n T) (T.length:Int) ((T.take T.length).map (tkV cols (n+1))++(T.drop T.length).map (tkV cols n))=_
  unfold dT;rw [if_neg (by simp;omega),Zb,X8];unfold iG;simp
set_option linter.unusedVariables false
set_option linter.unusedSimpArgs false
theorem nodup_iff {α:Type} [DecidableEq α] (l:List α):l.Nodup↔ ∀(i:Nat) (h:i<l.length),(l.take i).contains l[i]=false:=by
 unfold List.Nodup;rw [X3];constructor
 ·intro h i hi
  rw [Zm,decide_eq_false_iff_not];intro hm;obtain ⟨k,hk,he⟩:=Zf hm;have hk':k<i:=by simp at hk;omega
  have:=h k i (by omega) hi hk';apply this;rw [←he];simp
 ·intro h i j hi hj hij e
  have:=h j hj;rw [Zm,decide_eq_false_iff_not] at this;apply this;rw [←e];exact Zt (i:=i) (by rw [Zn hij,Z1 hi])
theorem Qy {cols:Int} {srt:List Int}:qR cols srt=true↔(∀s∈srt,0≤s∧s<cols)∧srt.Nodup:=by
 unfold qR;rw [nodup_iff];simp only [Zj,Zp];constructor
 ·intro h
  have key: ∀(i:Nat) (hi:i<srt.length),0≤srt[i]∧srt[i]<cols∧(srt.take i).contains srt[i]=false:=by
   intro i hi;have:=h i hi;unfold qQ at this;rw [Z1 hi] at this;simp only [Zi,decide_eq_true_eq,Ze] at this;exact this
  refine ⟨fun s hs=> ?_,fun i hi=>(key i hi).2.2⟩;obtain ⟨i,hi,rfl⟩:=Zf hs;exact ⟨(key i hi).1,(key i hi).2.1⟩
 ·rintro ⟨h1,h2⟩ i hi
  unfold qQ;rw [Z1 hi];simp only [Zi,decide_eq_true_eq,Ze];have:=h1 _ (Z9 hi);exact ⟨this.1,this.2,h2 i hi⟩
theorem Qz {cols:Int} {l:List aa}:oY cols l=true↔(∀v∈l,rO cols v=true)∧(l.map (·.fId)).Nodup:=by
 unfold oY;rw [nodup_iff];simp only [Zj,Zp,List.length_map,List.getElem_map];constructor
 ·intro h
  have key: ∀(i:Nat) (hi:i<l.length),rO cols l[i]=true∧((l.take i).map (·.fId)).contains l[i].fId=false:=by
   intro i hi;have:=h i hi;unfold pX at this;rw [Z1 hi] at this;simp only [Zi,Ze] at this;exact this
  refine ⟨fun s hs=> ?_,fun i hi=> ?_⟩
  ·obtain ⟨i,hi,rfl⟩:=Zf hs
   exact (key i hi).1
  ·have:=(key i hi).2
   rw [List.map_take] at this;exact this
 ·rintro ⟨h1,h2⟩ i hi
  unfold pX;rw [Z1 hi];simp only [Zi,Ze];refine ⟨h1 _ (Z9 hi),?_⟩;have:=h2 i hi;rw [List.map_take];exact this
theorem Ja: ∀(n:Nat) (l:List Int),l.Nodup→(∀s∈l,0≤s∧s<(n:Int))→l.length≤n:=by
 intro n
 induction n with
 |zero=>
  intro l _ h;cases l with
  |nil=>simp
  |cons a l=>have:=h a (by simp);omega
 | succ n ih =>
  intro l hn h
  have h1:=ih (l.filter fun x=> !decide (x=(n:Int))) (hn.filter _) (fun s hs=>by
   obtain ⟨hm,hq⟩:=List.mem_filter.1 hs;have:=h s hm;have:s≠(n:Int):=by simpa using hq
   omega)
  have h2:l.count (n:Int)≤1:=List.nodup_iff_count.1 hn _;have h3:=List.length_eq_countP_add_countP (p:=fun x=> !decide (x=(n:Int))) (l:=l);rw [List.countP_eq_length_filter] at h3
  have h4:List.countP (fun a=>decide ¬((!decide (a=(n:Int)))=true)) l=l.count (n:Int):=by
   unfold List.count;congr 1;funext a
   by_cases e:a=(n:Int)<;>simp [e]
  omega
theorem oZ.srt_le {cols:Int} {srt:List Int} {l:List aa} (h:oZ cols srt l):srt.length≤8:=by
 obtain ⟨h1,h2⟩:=Qy.1 h.so;have hc:=h.co;exact Ja 8 srt h2 fun s hs=>by have:=h1 s hs;omega
theorem oZ.stb {cols:Int} {srt:List Int} {l T:List aa} (h:oZ cols srt l) (hs:Stb (qlt srt) l T):oZ cols srt T:=by
 have hp:=hs.perm (gl srt);obtain ⟨h1,h2⟩:=Qz.1 h.ro;refine ⟨h.co,h.so,by rw [hp.length_eq];exact h.le,Qz.2 ⟨fun v hv=>h1 v (hp.mem_iff.1 hv),?_⟩⟩;exact (hp.map _).nodup_iff.2 h2
theorem oZ.none {cols:Int} {srt:List Int} {l:List aa} (h:oZ cols srt l):oZ cols srt []:=⟨h.co,h.so,by simp,rfl⟩
theorem oZ.id_srt {cols:Int} {srt:List Int} {l:List aa} (h:oZ cols srt l):srt.map Xh.wrap=srt:=by
 obtain ⟨h1,_⟩:=Qy.1 h.so;have hc:=h.co;rw [Zv (g:=id),List.map_id];intro s hs;have:=h1 s hs;rw [bm,Zc (by omega) (by omega)];rfl
theorem Jb {cols:Int} {srt kinds:List Int} {T:List aa} (h:oZ cols srt T) (hs:Byt (dZ cols kinds T (cols+3).toNat)∧(dZ cols kinds T (cols+3).toNat).length≤100000000):
  iA (iJ cols srt kinds T)=some ((T.length:Int),dZ cols kinds T (cols+3).toNat,true,⟨cols,srt,[]⟩):=by
 have hco:=h.co;have hle:=h.le;have hsl:=h.srt_le;obtain ⟨hs1,hs2⟩:=hs;obtain ⟨S,hS⟩: ∃S,S=dZ cols kinds T (cols+3).toNat:=⟨_,rfl⟩
 rw [←hS] at hs1 hs2 ⊢
 have hb:iJ cols srt kinds T=72::65::89::49::cols::(srt.length:Int)::(srt++(be4 (T.length:Int)++S)):=by
  unfold iJ nmB lQ;rw [h.id_srt,bm,bm,Zc (by omega) (by omega),Zc (by omega) (by omega), ←hS];simp
 rw [hb];obtain ⟨p,hp⟩: ∃p,p=72::65::89::49::cols::(srt.length:Int)::(srt++(be4 (T.length:Int)++S)):=⟨_,rfl⟩
 rw [←hp];have hpl:p.length=6+(srt.length+(4+S.length)):=by rw [hp];simp [dQ];omega
 have e1:sub p 0 4=some [72,65,89,49]:=by
  have:=ek (xs:=p) (lo:=0) (hi:=4) (by omega) (by omega);rw [hp] at this ⊢;exact this
 have i4:idx p 4=some cols:=by rw [hp];exact aA (i:=4) (by simp)
 have i5:idx p 5=some (srt.length:Int):=by rw [hp];exact aA (i:=5) (by simp)
 have e2:sub p 6 (p.length:Int)=some (srt++(be4 (T.length:Int)++S)):=by
  have:=ge (xs:=p) (k:=6) (by omega);rw [show ((6:Nat):Int)=6 from rfl] at this;rw [this,hp];rfl
 have hrl:(srt++(be4 (T.length:Int)++S)).length=srt.length+(4+S.length):=by simp [dQ]
 have e3:sub (srt++(be4 (T.length:Int)++S)) 0 (srt.length:Int)=some srt:=by
  have:=ek (xs:=srt++(be4 (T.length:Int)++S)) (lo:=0) (hi:=srt.length) (by omega) (by omega);rw [List.take_left] at this;exact this
 have hw:Zq.wrap (srt.length:Int)=(srt.length:Int):=ak (by omega);have hw4:Zq.wrap ((srt.length:Int)+4)=((srt.length+4:Nat):Int):=by rw [ak (by omega)];omega
 unfold iA;rw [if_neg (by simp;omega),e1,Z0];show eP p (!decide ((72,65,89,49)=((72,65,89,49):Int×Int×Int×Int)))=_;unfold eP;rw [if_neg (by simp),i4,Z0,i5,Z0,e2,Z0,hw,hw4,hrl,if_neg (by simp;omega),e3,Z0];refine jg (fun i=>((i:Int),(⟨cols,srt.take i,[]⟩:az))) srt.length ?_ (fun i hi=> ?_) ?_
 ·rw [ak (by omega)];rfl
 ·simp only [ga]
  obtain ⟨hr,_⟩:=Qy.1 h.so;have:=hr _ (Z9 hi);rw [if_pos (by simpa using hi),aA hi,Z0,aJ (by simp;omega),Z0,ak (by omega),ak (by omega),ia hi]
  rfl
 ·simp only [ga]
  rw [if_neg (by simp),Zb];unfold iF
  have e4:sub (srt++(be4 (T.length:Int)++S)) (srt.length:Int) ((srt++(be4 (T.length:Int)++S)).length:Int)=some (be4 (T.length:Int)++S):=by
   rw [ge (by simp),Xb]
  have e5:sub (srt++(be4 (T.length:Int)++S)) ((srt.length+4:Nat):Int) ((srt++(be4 (T.length:Int)++S)).length:Int)=some S:=by
   rw [ge (by omega), ←Z7,Zy (by simp [dQ])]
  rw [hw,hw4,e4,Z0,uR (by unfold U32;omega),Z0,e5,Z0];dsimp only;rw [uO (by omega) (by simp),Z0,Qp.2 h.none,if_pos (by simp)];unfold f9;rw [decide_eq_true (by omega)]
theorem AA {xs:List aa} (h:xs.length≤1048576):eG xs xs et=some true:=by
 unfold eG;rw [if_neg (by simp)];refine jg (fun i=>(i:Int)) xs.length rfl (fun i hi=> ?_) ?_
 ·simp only [hZ]
  rw [if_pos (by simpa using hi),aA hi,Z0,Z0];simp only [et];rw [Z0,if_neg (by simp),ak (by omega)];rfl
 ·simp only [hZ]
  rw [if_neg (by simp)];rfl
theorem Dn {cols:Int} {srt kinds:List Int} {T:List aa} (h:oZ cols srt T) (hv: ∀v∈T,kX v) (hS:Srt (qlt srt) T) (hk:kinds.length≤1048576):
  fc (l8 cols srt kinds T)=some (some ⟨cols,srt,T⟩,0):=by
 have hco:=h.co;have hle:=h.le;have hsl:=h.srt_le;have hC:CV cols T:=CV.of h hv;obtain ⟨hb1,hb2⟩:=Az (srt:=srt) (kinds:=kinds) hC (by omega);obtain ⟨hs1,hs2⟩:=wu (b:=iJ cols srt kinds T) (by omega);obtain ⟨hs3,hs4⟩:=uQ (kinds:=kinds) hC (cols+3).toNat;have hk11:(cols+3).toNat≤11:=by omega
 have hs5:(dZ cols kinds T (cols+3).toNat).length≤100000000:=Nat.le_trans hs4 (by omega);have hpl:(l8 cols srt kinds T).length=(iJ cols srt kinds T).length+4:=by unfold l8;rw [Z2,dQ]
 have hw:Zq.wrap (((l8 cols srt kinds T).length:Int) - 4)=((iJ cols srt kinds T).length:Int):=by rw [hpl,ak (by omega)];omega
 have e1:sub (l8 cols srt kinds T) ((iJ cols srt kinds T).length:Int) ((l8 cols srt kinds T).length:Int)=some (be4 (lF (iJ cols srt kinds T))):=by
  rw [ge (by omega)];unfold l8;rw [Xb]
 have e2:sub (l8 cols srt kinds T) 0 ((iJ cols srt kinds T).length:Int)=some (iJ cols srt kinds T):=by
  have:=ek (xs:=l8 cols srt kinds T) (lo:=0) (hi:=(iJ cols srt kinds T).length) (by omega) (by omega);have e:(l8 cols srt kinds T).take (iJ cols srt kinds T).length=iJ cols srt kinds T:=by unfold l8;rw [List.take_left]
  rw [e] at this;exact this
 have hnum:=uR hs2 [];rw [Zx] at hnum
 have hsw:Zq.wrap (lF (iJ cols srt kinds T))=lF (iJ cols srt kinds T):=by
  unfold U32 at hs2;rw [ak (by omega)]
 unfold fc;rw [if_neg (by simp;omega),hw,e1,Z0,hnum,Z0,e2,Z0,hs1,Z0,hsw];unfold jE;rw [if_neg (by simp),hw,e2,Z0,Jb h ⟨hs3,hs5⟩,Z0,if_neg (by simp)];dsimp only
 have hmk:mk 5864062014805 (T.length:Int) aa.zero=some (T.map (tkV cols 0)):=by
  rw [uD (by omega),Zv (g:=fun _=>aa.zero) (fun v _=>KG hco.1 v),List.map_const']
 rw [hmk,Z0]
 have hdr: ∀n,n<(cols+3).toNat→(((Z8 (cols+3).toNat).drop n).map (lG cols kinds T)).flatten=lG cols kinds T n++(((Z8 (cols+3).toNat).drop (n+1)).map (lG cols kinds T)).flatten:=by
  intro n hn;rw [Z3 (by simpa using hn)];simp
 have hdl: ∀k n:Nat,n+k=(cols+3).toNat→((((Z8 (cols+3).toNat).drop n).map (lG cols kinds T)).flatten).length≤6400004*k:=by
  intro k
  induction k with
  |zero=>intro n hn;rw [Z6 (by simp;omega)];simp
  |succ k ih=>
   intro n hn;rw [hdr n (by omega),Z2];have:=(Ex (kinds:=kinds) hC n).2;have:=ih (n+1) (by omega);omega
 refine jg (fun n=>((((Z8 (cols+3).toNat).drop n).map (lG cols kinds T)).flatten,(n:Int),T.map (tkV cols n))) (cols+3).toNat (by simp [dZ]) (fun n hn=> ?_) ?_
 ·have hrl:=hdl ((cols+3).toNat - (n+1)) (n+1) (by omega)
  have hrl2:6400004*((cols+3).toNat - (n+1))≤6400004*11:=Nat.mul_le_mul_left _ (by omega);obtain ⟨R,hR⟩: ∃R,R=(((Z8 (cols+3).toNat).drop (n+1)).map (lG cols kinds T)).flatten:=⟨_,rfl⟩
  obtain ⟨B,hB⟩: ∃B,B=pY (gu cols kinds n) (kx cols n T):=⟨_,rfl⟩
  obtain ⟨hcv,hcl⟩:=xk (n:=n) hC;have hBl:=(uP (kind:=gu cols kinds n) hcv hcl).2;rw [←hB] at hBl;rw [←hR] at hrl;show gc ((T.length:Int),dZ cols kinds T (cols+3).toNat,true,⟨cols,srt,[]⟩) ((((Z8 (cols+3).toNat).drop n).map (lG cols kinds T)).flatten) (n:Int) (T.map (tkV cols n))=some (.inl ((((Z8 (cols+3).toNat).drop (n+1)).map (lG cols kinds T)).flatten,((n+1:Nat):Int),T.map (tkV cols (n+1))))
  have hx:(((Z8 (cols+3).toNat).drop n).map (lG cols kinds T)).flatten=be4 (B.length:Int)++(B++R):=by
   rw [hdr n hn, ←hR];unfold lG;rw [←hB,Z7]
  rw [hx, ←hR];obtain ⟨X,hX⟩: ∃X,X=be4 (B.length:Int)++(B++R):=⟨_,rfl⟩
  have hXl:X.length=4+(B.length+R.length):=by rw [hX];simp [dQ]
  have hn4:d4 X=some (B.length:Int):=by rw [hX];exact uR (by unfold U32;omega) _
  have hw4:Zq.wrap (4+(B.length:Int))=((4+B.length:Nat):Int):=by rw [ak (by omega)];omega
  have s1:sub X 4 ((4+B.length:Nat):Int)=some B:=by
   have:=ek (xs:=X) (lo:=4) (hi:=4+B.length) (by omega) (by omega);rw [show ((4:Nat):Int)=4 from rfl] at this;rw [this,hX, ←Z7,List.take_left' (by simp [dQ]),Zy (dQ _)]
  have s2:sub X ((4+B.length:Nat):Int) (X.length:Int)=some R:=by
   rw [ge (by omega),hX, ←Z7,Zy (by simp [dQ])]
  have hval:iO B (T.length:Int)=some (kx cols n T,true):=by
   have hcr: ∀v∈kx cols n T,Rgt v:=fun v hv=>by
    obtain ⟨x,hx,rfl⟩:=Xf.1 hv;exact Ev hC hx n
   have:=Hh (kind:=gu cols kinds n) hcr hcl;rw [←hB] at this;rw [show (kx cols n T).length=T.length by simp [kx]] at this;exact this
  rw [←hX];unfold gc;dsimp only;rw [ak (by omega),if_pos (by simp;omega),if_neg (by simp;omega),hn4,Z0,hw4,decide_eq_false (by omega)];unfold jD;rw [if_neg (by simp),hn4,Z0,hw4,s1,Z0];dsimp only;rw [hval,Z0,if_neg (by simp)];dsimp only;rw [I9 hC (by omega),Z0];unfold jC;rw [if_neg (by simp),hw4,s2,Z0,ak (by omega)]
  rfl
 ·show gc ((T.length:Int),dZ cols kinds T (cols+3).toNat,true,⟨cols,srt,[]⟩) ((((Z8 (cols+3).toNat).drop (cols+3).toNat).map (lG cols kinds T)).flatten) ((cols+3).toNat:Int) (T.map (tkV cols (cols+3).toNat))=_
  have hT:T.map (tkV cols (cols+3).toNat)=T:=by
   rw [Zv (g:=id) (fun v hm=> ?_),List.map_id];obtain ⟨h1,h2⟩:=hC.ok v hm;exact LZ hco.1 (ql h1 h2).2.1
  rw [hT,Z6 (by simp)];unfold gc;dsimp only;rw [ak (by omega),if_neg (by simp;omega)];have hrk:Rok T:=fun v hm=>(hv v hm).len;obtain ⟨T',h1,h2⟩:=Bo (cs:=srt) (xs:=T) (by omega) (by omega) hrk;obtain rfl:=h2.unique (gl srt) (Stb.refl hS)
  have hso:gA (some ⟨cols,srt,T'⟩)=some true:=by
   unfold gA;simp only [Z0];rw [h1,Z0,AA (by omega)]
   rfl
  unfold lN;rw [if_neg (by simp)];simp only [Z0];rw [uO (by omega) hv,Z0,Qp.2 h,if_neg (by simp),hso,Z0]
  rfl
set_option linter.unusedVariables false
set_option linter.unusedSimpArgs false
def atB (l:List aa) (id:aK):Option Nat:=l.findIdx? fun v=>decide (v.fId=id)
theorem Hi {l : List aa} {id : aK} (h : l.length ≤ 1048576) : eH l (fun y => da y id) = some (((atB l id).map fun i : Nat => (i : Int)).getD (-1)) := by
  unfold eH
  have key: ∀k i:Nat,i+k=l.length→aq (fun s:Int=>dO l (fun y=>da y id) s) (i:Int)=some (((atB (l.drop i) id).map fun j=>((i+j:Nat):Int)).getD (-1)):=by
    intro k
    induction k with
    | zero =>
      intro i hi;rw [Z6 (by omega)];apply a7;simp only [dO];rw [if_neg (by simp;omega)];rfl
    | succ k ih =>
      intro i hi;have hlt:i<l.length:=by omega
      unfold atB;rw [Z3 hlt,List.findIdx?_cons]
      by_cases he:l[i].fId=id
      · rw [if_pos (by simpa using he)]
        apply a7;simp only [dO];rw [if_pos (by simpa using hlt),aA hlt,Z0];simp only [da];rw [Z0,if_pos (by simpa using he)];simp
      · rw [if_neg (by simpa using he)]
        rw [bO (s':=((i+1:Nat):Int))]
        · rw [ih (i + 1) (by omega)]
          unfold atB;cases (l.drop (i+1)).findIdx? fun v=>decide (v.fId=id) with
          |none=>rfl
          |some j=>simp only [X9,Xc];congr 1;omega
        · simp only [dO]
          rw [if_pos (by simpa using hlt),aA hlt,Z0];simp only [da];rw [Z0,if_neg (by simpa using he),ak (by omega)];rfl
  have:=key l.length 0 (by omega);rw [Xa] at this;simpa using this
theorem AB {f:az} {id:aK} (h:f.fL.length≤1048576):eT (some f) id=some (((atB f.fL id).map fun i:Nat=>(i:Int)).getD 0,(atB f.fL id).isSome):=by
  unfold eT;rw [Z0,Hi h,Z0];cases atB f.fL id with
  |none=>rfl
  | some i =>
    simp only [X9,Xc,Option.isSome_some];rw [if_neg (by omega),decide_eq_true (by omega)]
theorem Br:pq=some true:=by
  let v1:aa:=⟨⟨1,0⟩,[⟨2,false,2,[]⟩],0⟩
  let v2:aa:=⟨⟨2,0⟩,[⟨2,false,1,[]⟩],0⟩
  have ok: ∀(e n:Int),0≤e→e<10→0≤n→n<10→kX ⟨⟨e,0⟩,[⟨2,false,n,[]⟩],0⟩:=by
    intro e n h1 h2 h3 h4;refine ⟨by dsimp only;omega,by dsimp only;omega,by dsimp only;omega,?_,by simp⟩;intro x hx;have:x=iH n:=by simpa using hx
    subst this;exact (Rgt.int n (by unfold cY;omega)).ok
  have hv: ∀v∈[v1,v2],kX v:=by
    intro v hv;simp only [Xd,List.not_mem_nil,or_false] at hv;rcases hv with rfl|rfl
    · exact ok 1 2 (by omega) (by omega) (by omega) (by omega)
    · exact ok 2 1 (by omega) (by omega) (by omega) (by omega)
  have hA:oZ 1 [0] [v1,v2]:=Qp.1 (by decide);rcases Bp (cols:=1) (srt:=[0]) (kinds:=[]) (by simp) (by simp) hv with ⟨h,_⟩|⟨_,T,h2,hC,hw,_⟩
  · exact absurd (Qp.2 hA) h
  have hi:Stb (qlt [0]) ([]++[v1]++[v2]) ([]++v2::[v1]):=Stb.ins (gl [0]) (by simp [Srt]) (by
    intro s hs
    rw [List.mem_singleton] at hs;subst hs;decide) (by simp)
  obtain rfl:T=[v2,v1]:=Stb.unique (gl [0]) h2 hi;have hr:=Dn (kinds:=[]) (hA.stb h2) (fun v hm=>hv v ((h2.mem (gl [0])).1 hm)) h2.srt (by simp);unfold pq;rw [hw,Z0,hr,Z0,if_neg (by simp),if_neg (by simp)];unfold lz;dsimp only;rw [if_neg (by simp),AB (by simp),Z0]
  rfl
structure Do (c:cC):Prop where
  so:c.fSort.length≤1048576
  ki:c.fKinds.length≤1048576
  le:c.fL.length≤1048576
  ok: ∀v∈c.fL,kX v
set_option linter.unusedVariables false
section
def ic (x106:Int) (x109:Bool) (x155:Bool):Option ((Bool×Int×Bool)×Bool):=
 some ((x155,Zq.wrap (x106+1),x109),true)
def ie (p1:aK) (x103:Bool) (x106:Int) (x109:Bool) (x112:aa) (x147:Bool):Option ((Bool×Int×Bool)×Bool):=
 if x147 then
  some ((x103,x106,false),false)
 else
  if x103 then
   ic x106 x109 true
  else
   ic x106 x109 (decide (x112.fId=p1))
def eK (p1:aK) (r40:((Option az)×Int)) (x103:Bool) (x106:Int) (x109:Bool) (x112:aa):Option ((Bool×Int×Bool)×Bool):=
 (eT r40.1 x112.fId).bind fun r130=>
 if r130.1 != x106 then
  ie p1 x103 x106 x109 x112 true
 else
  ie p1 x103 x106 x109 x112 (!r130.2)
def fF (x231:Bool):Option Bool:=
 some x231
def ig (p0 : cC) (p1 : aK) (r40 : ((Option az) × Int)) (x73 : Bool) : Option Bool :=
 if x73 then
  some false
 else
  (jd r40.1).bind fun r91=>
  (ew (fun (s:Bool×Int×Bool) (x:aa)=>eK p1 r40 s.1 s.2.1 s.2.2 x) (false,0,false) r91).bind fun y195=>
  if y195.2 then
   (eT r40.1 p1).bind fun r214=>
   (pq).bind fun r235=>
   if r235 then
    if r214.2==y195.1.1 then
     fF (y195.1.2.1==(p0.fL.length:Int))
    else
     fF false
   else
    fF false
  else
   some y195.1.2.2
def lR (p0:cC) (p1:aK):Option Bool:=
 (fh p0.fColumns p0.fSort p0.fKinds p0.fL).bind fun r24=>
 (fc r24.1).bind fun r40=>
 if r24.2 != 0 then
  (pq).bind fun r62=>
  some r62
 else
  if r40.2 != 0 then
   ig p0 p1 r40 true
  else
   ig p0 p1 r40 r40.1.isNone
end
set_option linter.unusedVariables false
set_option linter.unusedSimpArgs false
theorem Hj {f:az} (n:Nat) (hn:n≤f.fL.length) (h:f.fL.length≤1048576) (hr:Rok f.fL):gB (some f) (n:Int)=some (f.fL.drop n):=by
 unfold gB dU dJ;rw [Z0,ge hn,Z0]
 have:aq (fun s:Int×List aa=>cI (fun (s:List aa) x=>some (s++[x],true)) (f.fL.drop n) s.1 s.2) (0,[])=some (f.fL.drop n):=by
  refine jg (fun i=>((i:Int),(f.fL.drop n).take i)) (f.fL.drop n).length (by simp) (fun i hi=> ?_) ?_
  ·simp only [cI]
   have hm:(f.fL.drop n)[i]∈f.fL:=List.mem_of_mem_drop (Z9 hi);have hl:(f.fL.drop n).length≤f.fL.length:=by simp
   rw [if_pos (by simpa using hi),aA hi,Z0,own_eq (hr _ hm),Z0,Z0,if_neg (by simp),ak (by omega),ia hi]
   rfl
  ·simp only [cI]
   rw [if_neg (by simp),Zb]
 rw [this];rfl
theorem L3 {f:az} (h:f.fL.length≤1048576) (hr:Rok f.fL):jd (some f)=some f.fL:=by
 unfold jd;have:=Hj (f:=f) 0 (by omega) h hr;rw [show ((0:Nat):Int)=0 from rfl] at this;rw [this];rfl
theorem KH {l:List aa} (h:(l.map (·.fId)).Nodup) {i:Nat} (hi:i<l.length):atB l l[i].fId=some i:=by
 unfold atB;rw [List.findIdx?_eq_some_iff_getElem];refine ⟨hi,by simp,fun j hj=> ?_⟩;have h2:=(nodup_iff (l.map (·.fId))).1 h i (by simpa using hi);rw [Zm,decide_eq_false_iff_not] at h2;simp only [decide_eq_true_eq];intro e;apply h2;rw [List.getElem_map, ←e];exact Zt (i:=j) (by rw [Zn hj,List.getElem?_map,Z1 (by omega)];rfl)
theorem KI {l:List aa} {id:aK}:(atB l id).isSome=l.any fun v=>decide (v.fId=id):=by
 unfold atB;rw [List.findIdx?_isSome]
theorem Jc:fc []=some (none,80):=by
 unfold fc;rw [if_pos (by decide)];rfl
theorem Ps {c:cC} (h:Do c) (kinds:List Int) (hk:kinds.length≤1048576):(∃e,e≠0∧e=qw c.fColumns c.fSort c.fL∧fh c.fColumns c.fSort kinds c.fL=some ([],e)∧fc []=some (none,80))∨
  (∃T,oZ c.fColumns c.fSort T∧Stb (qlt c.fSort) c.fL T∧qw c.fColumns c.fSort c.fL=0∧(∀v∈T,kX v)∧Rok T∧T.length=c.fL.length∧T.length≤4096∧fh c.fColumns c.fSort kinds c.fL=some (l8 c.fColumns c.fSort kinds T,0)∧fc (l8 c.fColumns c.fSort kinds T)=some (some ⟨c.fColumns,c.fSort,T⟩,0)):=by
 rcases Bp (cols:=c.fColumns) (kinds:=kinds) h.so hk h.ok with ⟨h1,h2,_⟩|⟨hA,T,hS,hC,h1,_⟩
 ·exact .inl ⟨_,h1,rfl,h2,Jc⟩
 ·have hv: ∀v∈T,kX v:=fun v hm=>h.ok v ((hS.mem (gl c.fSort)).1 hm)
  have hA':=hA.stb hS;exact .inr ⟨T,hA',hS,Qp.2 hA,hv,fun v hm=>(hv v hm).len,hS.len (gl c.fSort),hA'.le,h1,Dn hA' hv hS.srt hk⟩
theorem FL {c:cC} {id:aK} (h:Do c):lR c id=some true:=by
 unfold lR;rcases Ps h c.fKinds h.ki with ⟨e,h1,_,h2,h3⟩|⟨T,hA,_,_,hv,hr,hl,hle,h2,h3⟩
 ·rw [h2,Z0,h3,Z0,if_pos (by simpa using h1),Br];rfl
 ·rw [h2, Z0, h3, Z0, if_neg (by simp), if_neg (by simp)]
  unfold ig;obtain ⟨_,hnd⟩:=Qz.1 hA.ro;rw [if_neg (by simp),L3 (by dsimp only;omega) hr,Z0];dsimp only
  have key: ∀k i:Nat,i+k=T.length→ew (fun (s:Bool×Int×Bool) (x:aa)=>eK id ((some ⟨c.fColumns,c.fSort,T⟩,0):Option az×Int) s.1 s.2.1 s.2.2 x) ((T.take i).any (fun v=>decide (v.fId=id)),(i:Int),false) (T.drop i)=some ((T.any (fun v=>decide (v.fId=id)),(T.length:Int),false),true):=by
   intro k
   induction k with
   |zero=>
    intro i hi;obtain rfl:i=T.length:=by omega
    rw [X8,Zb];rfl
   | succ k ih =>
    intro i hi;have hlt:i<T.length:=by omega
    rw [Z3 hlt];simp only [ew]
    have hstep:eK id ((some ⟨c.fColumns,c.fSort,T⟩,0):Option az×Int) ((T.take i).any (fun v=>decide (v.fId=id))) (i:Int) false T[i]=some (((T.take (i+1)).any (fun v=>decide (v.fId=id)),((i+1:Nat):Int),false),true):=by
     unfold eK;rw [AB (by dsimp only;omega),Z0];dsimp only;rw [KH hnd hlt];simp only [X9,Xc,Option.isSome_some];rw [if_neg (by simp)];unfold ie ic;rw [if_neg (by simp),ak (by omega),ia hlt,List.any_append];cases (T.take i).any (fun v=>decide (v.fId=id)) with
     |true=>simp
     |false=>simp
    rw [hstep,Z0,if_pos rfl];exact ih (i+1) (by omega)
  have:=key T.length 0 (by omega);rw [Xa,List.take_zero,List.any_nil] at this;rw [show ((0:Nat):Int)=0 from rfl] at this;rw [this,Z0];dsimp only;rw [if_pos rfl,AB (by dsimp only;omega),Z0,Br,Z0,if_pos rfl];dsimp only;rw [KI,if_pos (by simp)];unfold fF;rw [hl];simp
set_option maxRecDepth 100000
set_option linter.unusedSimpArgs false
open Go.Proofs Tryz
theorem mixed:prog.follows .mixedOrders=true:=by kernel_rfl
def Ap.pr (x:Ap):Int×Bool×Int×List Int:=(x.fKind,x.fBool,x.fInt,x.fText)
def kAp:Kd Ap:=ou Ap.pr (bS (ai .i64) (bS cN (bS (ai .i64) qn)))
theorem L4:Fld kAp (ai .i64) 0 (fun x=>x.fKind):=cc dn
theorem Dp:StF kAp (ai .i64) 0 (fun x y=>{ x with fKind:=y }):=cd dy (fun _ _=>rfl)
theorem L5:Fld kAp cN 1 (fun x=>x.fBool):=cc (be dn)
theorem L6:StF kAp cN 1 (fun x y=>{ x with fBool:=y }):=cd (aX dy) (fun _ _=>rfl)
theorem L7:Fld kAp (ai .i64) 2 (fun x=>x.fInt):=cc (be (be dn))
theorem Dq:StF kAp (ai .i64) 2 (fun x y=>{ x with fInt:=y }):=cd (aX (aX dy)) (fun _ _=>rfl)
theorem L8:Fld kAp qn 3 (fun x=>x.fText):=cc (be (be (be iT)))
theorem L9:StF kAp qn 3 (fun x y=>{ x with fText:=y }):=cd (aX (aX (aX aS))) (fun _ _=>rfl)
def aU.pr (x:aU):Int×Ap:=(x.fMany,x.fValue)
def cy:Kd aU:=ou aU.pr (bS (ai .i64) kAp)
theorem KJ:Fld cy (ai .i64) 0 (fun x=>x.fMany):=cc dn
theorem AC:StF cy (ai .i64) 0 (fun x y=>{ x with fMany:=y }):=cd dy (fun _ _=>rfl)
theorem KK:Fld cy kAp 1 (fun x=>x.fValue):=cc (be iT)
theorem Ey:StF cy kAp 1 (fun x y=>{ x with fValue:=y }):=cd (aX aS) (fun _ _=>rfl)
def bM.pr (x:bM):Int×Int×Ap×Ap×Int×Int:=(x.fKind,x.fMany,x.fMin,x.fMax,x.fNulls,x.fBytes)
def cX:Kd bM:=ou bM.pr (bS (ai .i64) (bS (ai .i64) (bS kAp (bS kAp (bS (ai .i64) (ai .i64))))))
theorem Ma:Fld cX (ai .i64) 0 (fun x=>x.fKind):=cc dn
theorem Hk:StF cX (ai .i64) 0 (fun x y=>{ x with fKind:=y }):=cd dy (fun _ _=>rfl)
theorem Mb:Fld cX (ai .i64) 1 (fun x=>x.fMany):=cc (be dn)
theorem Hl:StF cX (ai .i64) 1 (fun x y=>{ x with fMany:=y }):=cd (aX dy) (fun _ _=>rfl)
theorem Mc:Fld cX kAp 2 (fun x=>x.fMin):=cc (be (be dn))
theorem Hm:StF cX kAp 2 (fun x y=>{ x with fMin:=y }):=cd (aX (aX dy)) (fun _ _=>rfl)
theorem Md:Fld cX kAp 6 (fun x=>x.fMax):=cc (be (be (be dn)))
theorem Hn:StF cX kAp 6 (fun x y=>{ x with fMax:=y }):=cd (aX (aX (aX dy))) (fun _ _=>rfl)
theorem Me:Fld cX (ai .i64) 10 (fun x=>x.fNulls):=cc (be (be (be (be dn))))
theorem Ho:StF cX (ai .i64) 10 (fun x y=>{ x with fNulls:=y }):=cd (aX (aX (aX (aX dy)))) (fun _ _=>rfl)
theorem Mf:Fld cX (ai .i64) 11 (fun x=>x.fBytes):=cc (be (be (be (be (be iT)))))
theorem Mg:StF cX (ai .i64) 11 (fun x y=>{ x with fBytes:=y }):=cd (aX (aX (aX (aX (aX aS))))) (fun _ _=>rfl)
def fy.pr (x:fy):Int×Ap:=(x.fMany,x.fValue)
def q9:Kd fy:=ou fy.pr (bS (ai .i64) kAp)
theorem KL:Fld q9 (ai .i64) 0 (fun x=>x.fMany):=cc dn
theorem KM:StF q9 (ai .i64) 0 (fun x y=>{ x with fMany:=y }):=cd dy (fun _ _=>rfl)
theorem KN:Fld q9 kAp 1 (fun x=>x.fValue):=cc (be iT)
theorem KO:StF q9 kAp 1 (fun x y=>{ x with fValue:=y }):=cd (aX aS) (fun _ _=>rfl)
def dp.pr (x:dp):Int×Int×Ap×Ap×Int×Int:=(x.fKind,x.fMany,x.fMin,x.fMax,x.fNulls,x.fBytes)
def fw:Kd dp:=ou dp.pr (bS (ai .i64) (bS (ai .i64) (bS kAp (bS kAp (bS (ai .i64) (ai .i64))))))
theorem Mh:Fld fw (ai .i64) 0 (fun x=>x.fKind):=cc dn
theorem Mi:StF fw (ai .i64) 0 (fun x y=>{ x with fKind:=y }):=cd dy (fun _ _=>rfl)
theorem Mj:Fld fw (ai .i64) 1 (fun x=>x.fMany):=cc (be dn)
theorem Mk:StF fw (ai .i64) 1 (fun x y=>{ x with fMany:=y }):=cd (aX dy) (fun _ _=>rfl)
theorem Ml:Fld fw kAp 2 (fun x=>x.fMin):=cc (be (be dn))
theorem Mm:StF fw kAp 2 (fun x y=>{ x with fMin:=y }):=cd (aX (aX dy)) (fun _ _=>rfl)
theorem Mn:Fld fw kAp 6 (fun x=>x.fMax):=cc (be (be (be dn)))
theorem Mo:StF fw kAp 6 (fun x y=>{ x with fMax:=y }):=cd (aX (aX (aX dy))) (fun _ _=>rfl)
theorem Mp:Fld fw (ai .i64) 10 (fun x=>x.fNulls):=cc (be (be (be (be dn))))
theorem Mq:StF fw (ai .i64) 10 (fun x y=>{ x with fNulls:=y }):=cd (aX (aX (aX (aX dy)))) (fun _ _=>rfl)
theorem Mr:Fld fw (ai .i64) 11 (fun x=>x.fBytes):=cc (be (be (be (be (be iT)))))
theorem Ms:StF fw (ai .i64) 11 (fun x y=>{ x with fBytes:=y }):=cd (aX (aX (aX (aX (aX aS))))) (fun _ _=>rfl)
def aj.pr (x:aj):List Int×Bool:=(x.fB,x.fOk)
def iQ:Kd aj:=ou aj.pr (bS (kSl (ai .u8)) cN)
theorem KP:Fld iQ (kSl (ai .u8)) 0 (fun x=>x.fB):=cc dn
theorem KQ:StF iQ (kSl (ai .u8)) 0 (fun x y=>{ x with fB:=y }):=cd dy (fun _ _=>rfl)
theorem KR:Fld iQ cN 1 (fun x=>x.fOk):=cc (be iT)
theorem Ez:StF iQ cN 1 (fun x y=>{ x with fOk:=y }):=cd (aX aS) (fun _ _=>rfl)
def aK.pr (x:aK):Int×Int:=(x.fEpoch,x.fNumber)
def bp:Kd aK:=ou aK.pr (bS (ai .u64) (ai .u32))
theorem Mt:Fld bp (ai .u64) 0 (fun x=>x.fEpoch):=cc dn
theorem wE:StF bp (ai .u64) 0 (fun x y=>{ x with fEpoch:=y }):=cd dy (fun _ _=>rfl)
theorem Mu:Fld bp (ai .u32) 1 (fun x=>x.fNumber):=cc (be iT)
theorem Hp:StF bp (ai .u32) 1 (fun x y=>{ x with fNumber:=y }):=cd (aX aS) (fun _ _=>rfl)
def aa.pr (x:aa):aK×List Ap×Int:=(x.fId,x.fRow,x.fDeleted)
def ab:Kd aa:=ou aa.pr (bS bp (bS (kSl kAp) (ai .u64)))
theorem zp:Fld ab bp 0 (fun x=>x.fId):=cc dn
theorem wF:StF ab bp 0 (fun x y=>{ x with fId:=y }):=cd dy (fun _ _=>rfl)
theorem Mv:Fld ab (kSl kAp) 2 (fun x=>x.fRow):=cc (be dn)
theorem zq:StF ab (kSl kAp) 2 (fun x y=>{ x with fRow:=y }):=cd (aX dy) (fun _ _=>rfl)
theorem Mw:Fld ab (ai .u64) 3 (fun x=>x.fDeleted):=cc (be (be iT))
theorem Hq:StF ab (ai .u64) 3 (fun x y=>{ x with fDeleted:=y }):=cd (aX (aX aS)) (fun _ _=>rfl)
def az.pr (x:az):Int×List Int×List aa:=(x.fColumns,x.fSort,x.fL)
def aT:Kd az:=ou az.pr (bS (ai .i64) (bS (kSl (ai .i64)) (kSl ab)))
theorem EA:Fld aT (ai .i64) 0 (fun x=>x.fColumns):=cc dn
theorem EB:StF aT (ai .i64) 0 (fun x y=>{ x with fColumns:=y }):=cd dy (fun _ _=>rfl)
theorem AD:Fld aT (kSl (ai .i64)) 1 (fun x=>x.fSort):=cc (be dn)
theorem EC:StF aT (kSl (ai .i64)) 1 (fun x y=>{ x with fSort:=y }):=cd (aX dy) (fun _ _=>rfl)
theorem pE:Fld aT (kSl ab) 2 (fun x=>x.fL):=cc (be (be iT))
theorem KS:StF aT (kSl ab) 2 (fun x y=>{ x with fL:=y }):=cd (aX (aX aS)) (fun _ _=>rfl)
def cC.pr (x:cC):Int×List Int×List Int×List aa:=(x.fColumns,x.fSort,x.fKinds,x.fL)
def bT:Kd cC:=ou cC.pr (bS (ai .i64) (bS (kSl (ai .i64)) (bS (kSl (ai .i64)) (kSl ab))))
theorem Mx:Fld bT (ai .i64) 0 (fun x=>x.fColumns):=cc dn
theorem My:StF bT (ai .i64) 0 (fun x y=>{ x with fColumns:=y }):=cd dy (fun _ _=>rfl)
theorem Mz:Fld bT (kSl (ai .i64)) 1 (fun x=>x.fSort):=cc (be dn)
theorem MA:StF bT (kSl (ai .i64)) 1 (fun x y=>{ x with fSort:=y }):=cd (aX dy) (fun _ _=>rfl)
theorem MB:Fld bT (kSl (ai .i64)) 2 (fun x=>x.fKinds):=cc (be (be dn))
theorem MC:StF bT (kSl (ai .i64)) 2 (fun x y=>{ x with fKinds:=y }):=cd (aX (aX dy)) (fun _ _=>rfl)
theorem MD:Fld bT (kSl ab) 3 (fun x=>x.fL):=cc (be (be (be iT)))
theorem ME:StF bT (kSl ab) 3 (fun x y=>{ x with fL:=y }):=cd (aX (aX (aX aS))) (fun _ _=>rfl)
def Eg.pr (x:Eg):Int×List Int×List aa:=(x.fColumns,x.fSort,x.fL)
theorem Dr:nQ prog 32 4 40:=⟨⟨t32,_,type32,rfl,rfl,rfl,rfl⟩⟩
theorem fd:dt prog 32 kAp:=⟨sizeOf32,isAgg32⟩
def wG:List Value:=[.int .i64 0,.bool false,.int .i64 0,.string (bts [])]
theorem pF: ∀m,kAp.R m wG Ap.zero:=fun _=>⟨⟨rfl,aw (by decide)⟩,⟨rfl,⟨⟨rfl,aw (by decide)⟩,⟨rfl,(by decide),(by decide)⟩⟩⟩⟩
theorem Ds:cR prog 32 0 0:=cJ underlying32 rfl sizeOf3 (by decide) rfl
theorem ty3:dt prog 3 (ai .i64):=⟨sizeOf3,isAgg3⟩
theorem AE {m:M} {cs:List Value} {x:Ap} (h:kAp.R m cs x):cs=[.int .i64 x.fKind,.bool x.fBool,.int .i64 x.fInt,.string (bts x.fText)]∧(∀n∈x.fText,0≤n∧n<256):=by
 obtain ⟨h0,h1,h2,h3⟩:=h;refine ⟨?_,h3.2.1⟩;rw [←Z5 1 cs,show (cs).take 1=_ from h0.1, ←Z5 1 ((cs).drop 1),show ((cs).drop 1).take 1=_ from h1, ←Z5 1 (((cs).drop 1).drop 1),show (((cs).drop 1).drop 1).take 1=_ from h2.1,show (((cs).drop 1).drop 1).drop 1=_ from h3.1]
 rfl
theorem AF:vq prog 32 kAp:=by
 refine ⟨fun m cs ds x y d w hx hy=> ?_,fun op o o' cs ds w=> ?_⟩
 ·obtain ⟨rfl,p3⟩:=AE hx
  obtain ⟨rfl,q3⟩:=AE hy;have e:x=y↔x.fKind=y.fKind∧x.fBool=y.fBool∧x.fInt=y.fInt∧x.fText=y.fText:=by cases x;cases y;simp
  show (Op.equalIn (d+20) 32 (.agg #[_,_,_,_]) (.agg #[_,_,_,_])).run _ _=_;rw [run_equalIn_struct w (d+19) 32 _ _ underlying32 stoodInHeld32];simp only [Program.fieldsOf,underlying32,Op.eqFields];simp [part,run_equalIn_int,run_equalIn_bool',run_equalIn_string,wX p3 q3]
  repeat' split
  all_goals simp_all
 ·show (eqGuard op 32 o o' (.agg _) (.agg _)).run _ _=_
  cases op<;>simp [eqGuard]
theorem MG:cR prog 32 1 1:=cJ underlying32 rfl sizeOf4 (by decide) rfl
theorem ty4:dt prog 4 cN:=⟨sizeOf4,isAgg4⟩
theorem tV:cR prog 32 2 2:=cJ underlying32 rfl sizeOf2 (by decide) rfl
theorem ty2:dt prog 2 (ai .i64):=⟨sizeOf2,isAgg2⟩
theorem MH:cR prog 32 3 3:=cJ underlying32 rfl sizeOf9 (by decide) rfl
theorem el2:nQ prog 2 1 8:=⟨⟨t2,_,type2,rfl,rfl,rfl,rfl⟩⟩
theorem ED:cR prog 187 1 1:=cJ underlying187 rfl sizeOf32 (by decide) rfl
theorem AG:cR prog 187 0 0:=cJ underlying187 rfl sizeOf3 (by decide) rfl
def Pt:List Value:=[.int .i64 0,.int .i64 0,.bool false,.int .i64 0,.string (bts [])]
theorem FM: ∀m,cy.R m Pt aU.zero:=fun _=>⟨⟨rfl,aw (by decide)⟩,⟨⟨rfl,aw (by decide)⟩,⟨rfl,⟨⟨rfl,aw (by decide)⟩,⟨rfl,(by decide),(by decide)⟩⟩⟩⟩⟩
theorem Jx:nQ prog 187 5 48:=⟨⟨t187,_,type187,rfl,rfl,rfl,rfl⟩⟩
def zc5:List Value:=[.int .u8 0]
theorem zr5: ∀m,(ai .u8).R m zc5 0:=fun _=>⟨rfl,aw (by decide)⟩
def FN:List Value:=(List.replicate 8 zc5).flatten
theorem Pu: ∀m b,GS (ai .u8) m b FN (.slice (some ⟨b,0,none⟩) 8 8) (List.replicate 8 0):=fun _ _=>GS.zero zr5 rfl
theorem ty5:dt prog 5 (ai .u8):=⟨sizeOf5,isAgg5⟩
theorem el5:nQ prog 5 1 1:=⟨⟨t5,_,type5,rfl,rfl,rfl,rfl⟩⟩
theorem Pv:dt prog 187 cy:=⟨sizeOf187,isAgg187⟩
theorem yt:dt prog 54 (ai .u64):=⟨sizeOf54,isAgg54⟩
theorem MI:nQ prog 54 1 8:=⟨⟨t54,_,type54,rfl,rfl,rfl,rfl⟩⟩
theorem wH:dt prog 22 (kSl kAp):=⟨sizeOf22,isAgg22⟩
def uS:List Value:=[.int .i64 0,.int .i64 0,.int .i64 0,.bool false,.int .i64 0,.string (bts []),.int .i64 0,.bool false,.int .i64 0,.string (bts []),.int .i64 0,.int .i64 0]
theorem yu: ∀m,cX.R m uS bM.zero:=fun _=>⟨⟨rfl,aw (by decide)⟩,⟨⟨rfl,aw (by decide)⟩,⟨⟨⟨rfl,aw (by decide)⟩,⟨rfl,⟨⟨rfl,aw (by decide)⟩,⟨rfl,(by decide),(by decide)⟩⟩⟩⟩,⟨⟨⟨rfl,aw (by decide)⟩,⟨rfl,⟨⟨rfl,aw (by decide)⟩,⟨rfl,(by decide),(by decide)⟩⟩⟩⟩,⟨⟨rfl,aw (by decide)⟩,⟨rfl,aw (by decide)⟩⟩⟩⟩⟩⟩
theorem yv:dt prog 34 cX:=⟨sizeOf34,isAgg34⟩
theorem wI:cR prog 34 4 10:=cJ underlying34 rfl sizeOf3 (by decide) rfl
theorem Jd:dt prog 55 (ai .u32):=⟨sizeOf55,isAgg55⟩
theorem Hr:cR prog 34 1 1:=cJ underlying34 rfl sizeOf3 (by decide) rfl
theorem Dt:cR prog 34 2 2:=cJ underlying34 rfl sizeOf32 (by decide) rfl
theorem Du:cR prog 34 3 6:=cJ underlying34 rfl sizeOf32 (by decide) rfl
theorem Pw:dt prog 155 q9:=⟨sizeOf155,isAgg155⟩
def Px:List Value:=[.int .i64 0,.int .i64 0,.bool false,.int .i64 0,.string (bts [])]
theorem Jy: ∀m,q9.R m Px fy.zero:=fun _=>⟨⟨rfl,aw (by decide)⟩,⟨⟨rfl,aw (by decide)⟩,⟨rfl,⟨⟨rfl,aw (by decide)⟩,⟨rfl,(by decide),(by decide)⟩⟩⟩⟩⟩
theorem KT:cR prog 155 0 0:=cJ underlying155 rfl sizeOf3 (by decide) rfl
theorem Py:nQ prog 155 5 48:=⟨⟨t155,_,type155,rfl,rfl,rfl,rfl⟩⟩
theorem KU:cR prog 155 1 1:=cJ underlying155 rfl sizeOf32 (by decide) rfl
def QA:List Value:=[.int .i64 0,.int .i64 0,.int .i64 0,.bool false,.int .i64 0,.string (bts []),.int .i64 0,.bool false,.int .i64 0,.string (bts []),.int .i64 0,.int .i64 0]
theorem MJ: ∀m,fw.R m QA dp.zero:=fun _=>⟨⟨rfl,aw (by decide)⟩,⟨⟨rfl,aw (by decide)⟩,⟨⟨⟨rfl,aw (by decide)⟩,⟨rfl,⟨⟨rfl,aw (by decide)⟩,⟨rfl,(by decide),(by decide)⟩⟩⟩⟩,⟨⟨⟨rfl,aw (by decide)⟩,⟨rfl,⟨⟨rfl,aw (by decide)⟩,⟨rfl,(by decide),(by decide)⟩⟩⟩⟩,⟨⟨rfl,aw (by decide)⟩,⟨rfl,aw (by decide)⟩⟩⟩⟩⟩⟩
theorem QB:dt prog 37 fw:=⟨sizeOf37,isAgg37⟩
theorem MK:cR prog 37 2 2:=cJ underlying37 rfl sizeOf32 (by decide) rfl
theorem ML:cR prog 37 3 6:=cJ underlying37 rfl sizeOf32 (by decide) rfl
theorem MM:cR prog 37 4 10:=cJ underlying37 rfl sizeOf3 (by decide) rfl
theorem MN:cR prog 37 1 1:=cJ underlying37 rfl sizeOf3 (by decide) rfl
theorem zr:cR prog 34 5 11:=cJ underlying34 rfl sizeOf3 (by decide) rfl
theorem KV:cR prog 161 0 0:=cJ underlying161 rfl sizeOf24 (by decide) rfl
theorem Je:dt prog 24 (kSl (ai .u8)):=⟨sizeOf24,isAgg24⟩
theorem EE:cR prog 161 1 1:=cJ underlying161 rfl sizeOf4 (by decide) rfl
def QC:List Value:=[.int .u64 0]
theorem MO: ∀m,(ai .u64).R m QC 0:=fun _=>⟨rfl,aw (by decide)⟩
def Pz:List Value:=[.slice none 0 0,.bool false]
theorem Jz: ∀m,iQ.R m Pz aj.zero:=fun _=>⟨⟨none,0,0,rfl,rfl,Zl _,(by decide),rfl⟩,rfl⟩
theorem Dv:cR prog 34 0 0:=cJ underlying34 rfl sizeOf3 (by decide) rfl
theorem MP:cR prog 37 5 11:=cJ underlying37 rfl sizeOf3 (by decide) rfl
theorem MQ:cR prog 37 0 0:=cJ underlying37 rfl sizeOf3 (by decide) rfl
theorem JA (d:Nat) (w:World) (x y:Ap) (p0: ∀n∈x.fText,0≤n∧n<256) (q0: ∀n∈y.fText,0≤n∧n<256):(Op.equalIn (d+10) 32 (.agg #[.int .i64 x.fKind,.bool x.fBool,.int .i64 x.fInt,.string (bts x.fText)]) (.agg #[.int .i64 y.fKind,.bool y.fBool,.int .i64 y.fInt,.string (bts y.fText)])).run prog w= .ok (decide (x=y)) w:=by
 have e:x=y↔x.fKind=y.fKind∧x.fBool=y.fBool∧x.fInt=y.fInt∧x.fText=y.fText:=by cases x;cases y;simp
 rw [run_equalIn_struct w (d+9) 32 _ _ underlying32 stoodInHeld32];simp only [Program.fieldsOf,underlying32,Op.eqFields];simp [part,run_equalIn_int,run_equalIn_bool',run_equalIn_string,wX p0 q0]
 repeat' split
 all_goals simp_all
theorem MR {m:M} {cs:List Value} {x:dp} (h:fw.R m cs x):cs=[.int .i64 x.fKind,.int .i64 x.fMany,.int .i64 x.fMin.fKind,.bool x.fMin.fBool,.int .i64 x.fMin.fInt,.string (bts x.fMin.fText),.int .i64 x.fMax.fKind,.bool x.fMax.fBool,.int .i64 x.fMax.fInt,.string (bts x.fMax.fText),.int .i64 x.fNulls,.int .i64 x.fBytes]∧(∀n∈x.fMin.fText,0≤n∧n<256)∧(∀n∈x.fMax.fText,0≤n∧n<256):=by
 obtain ⟨h0,h1,h2,h3,h4,h5⟩:=h;refine ⟨?_,(AE h2).2,(AE h3).2⟩;rw [←Z5 1 cs,show (cs).take 1=_ from h0.1, ←Z5 1 ((cs).drop 1),show ((cs).drop 1).take 1=_ from h1.1, ←Z5 4 (((cs).drop 1).drop 1),show (((cs).drop 1).drop 1).take 4=_ from (AE h2).1, ←Z5 4 ((((cs).drop 1).drop 1).drop 4),show ((((cs).drop 1).drop 1).drop 4).take 4=_ from (AE h3).1, ←Z5 1 (((((cs).drop 1).drop 1).drop 4).drop 4),show (((((cs).drop 1).drop 1).drop 4).drop 4).take 1=_ from h4.1,show (((((cs).drop 1).drop 1).drop 4).drop 4).drop 1=_ from h5.1]
 rfl
theorem QD:vq prog 37 fw:=by
 refine ⟨fun m cs ds x y d w hx hy=> ?_,fun op o o' cs ds w=> ?_⟩
 ·obtain ⟨rfl,p0,p1⟩:=MR hx
  obtain ⟨rfl,q0,q1⟩:=MR hy;have e:x=y↔x.fKind=y.fKind∧x.fMany=y.fMany∧x.fMin=y.fMin∧x.fMax=y.fMax∧x.fNulls=y.fNulls∧x.fBytes=y.fBytes:=by cases x;cases y;simp
  have e2:=fun w=>JA (d+9) w x.fMin y.fMin p0 q0;have e3:=fun w=>JA (d+9) w x.fMax y.fMax p1 q1;show (Op.equalIn (d+20) 37 (.agg #[_,_,_,_,_,_,_,_,_,_,_,_]) (.agg #[_,_,_,_,_,_,_,_,_,_,_,_])).run _ _=_;rw [run_equalIn_struct w (d+19) 37 _ _ underlying37 stoodInHeld37];simp only [Program.fieldsOf,underlying37,Op.eqFields];simp [part,run_equalIn_int,run_equalIn_bool',run_equalIn_string,e2,e3]
  repeat' split
  all_goals simp_all
 ·show (eqGuard op 37 o o' (.agg _) (.agg _)).run _ _=_
  cases op<;>simp [eqGuard]
def zc4:List Value:=[.bool false]
theorem zr4: ∀m,cN.R m zc4 false:=fun _=>rfl
def zc3:List Value:=[.int .i64 0]
theorem zr3: ∀m,(ai .i64).R m zc3 0:=fun _=>⟨rfl,aw (by decide)⟩
theorem eL:dt prog 59 ab:=⟨sizeOf59,isAgg59⟩
def Dw:List Value:=[.int .u64 0,.int .u32 0,.slice none 0 0,.int .u64 0]
theorem uT: ∀m,ab.R m Dw aa.zero:=fun _=>⟨⟨⟨rfl,aw (by decide)⟩,⟨rfl,aw (by decide)⟩⟩,⟨⟨none,0,0,rfl,rfl,Zl _,(by decide),rfl⟩,⟨rfl,aw (by decide)⟩⟩⟩
theorem wJ:cR prog 59 1 2:=cJ underlying59 rfl sizeOf22 (by decide) rfl
theorem MS:nQ prog 59 4 48:=⟨⟨t59,_,type59,rfl,rfl,rfl,rfl⟩⟩
theorem zu:cR prog 57 0 0:=cJ underlying57 rfl sizeOf54 (by decide) rfl
theorem zw:cR prog 57 1 1:=cJ underlying57 rfl sizeOf55 (by decide) rfl
theorem tp:dt prog 49 (kSl (ai .i64)):=⟨sizeOf49,isAgg49⟩
theorem nq:cR prog 59 0 0:=cJ underlying59 rfl sizeOf57 (by decide) rfl
theorem rQ:dt prog 57 bp:=⟨sizeOf57,isAgg57⟩
theorem Hs:cR prog 59 2 3:=cJ underlying59 rfl sizeOf54 (by decide) rfl
theorem Jf {m:M} {cs:List Value} {x:aK} (h:bp.R m cs x):cs=[.int .u64 x.fEpoch,.int .u32 x.fNumber]:=by
 obtain ⟨h0,h1⟩:=h
 skip
 rw [←Z5 1 cs,show (cs).take 1=_ from h0.1,show (cs).drop 1=_ from h1.1]
 rfl
theorem Jg:vq prog 57 bp:=by
 refine ⟨fun m cs ds x y d w hx hy=> ?_,fun op o o' cs ds w=> ?_⟩
 ·obtain rfl:=Jf hx
  obtain rfl:=Jf hy;have e:x=y↔x.fEpoch=y.fEpoch∧x.fNumber=y.fNumber:=by cases x;cases y;simp
  show (Op.equalIn (d+20) 57 (.agg #[_,_]) (.agg #[_,_])).run _ _=_;rw [run_equalIn_struct w (d+19) 57 _ _ underlying57 stoodInHeld57];simp only [Program.fieldsOf,underlying57,Op.eqFields];simp [part,run_equalIn_int,run_equalIn_bool',run_equalIn_string]
  repeat' split
  all_goals simp_all
 ·show (eqGuard op 57 o o' (.agg _) (.agg _)).run _ _=_
  cases op<;>simp [eqGuard]
theorem PA:laidOutB prog=true:=by kernel_rfl
def Dx (x:aK):Value:= .agg #[.int .u64 x.fEpoch,.int .u32 x.fNumber]
theorem MT {m:M} {v:Value} {x:aK} (h:RV bp m v x):v=Dx x:=by
 obtain ⟨cs,h,rfl⟩:=h;obtain rfl:=Jf h
 rfl
theorem QE {m:M} {v:Value} {x:aK} (h:RV bp m v x): ∃l,keyOf prog 57 v=some l:=by
 rw [MT h];obtain ⟨cs,h,rfl⟩:=h;obtain ⟨h0,h1⟩:=h;exact Gf (d:=250) underlying57 (by decide) underlying54 underlying55 rfl rfl (by kernel_rfl) (by kernel_rfl) (by kernel_rfl) (by kernel_rfl) (by kernel_rfl) (Jk h0.2) (Jk h1.2)
theorem QF {x y:aK} (h:Dx x=Dx y):x=y:=by
 obtain ⟨a0,a1⟩:=x;obtain ⟨b0,b1⟩:=y;simp [Dx] at h;simp [h]
def FO:Cl prog 57 bp:=⟨Dx,MT,QF,deep_law_laid PA (m:=2) (by omega) (of_decide_eq_true (by kernel_rfl)) (by kernel_rfl) (by rw [underlying57]),QE⟩
def sM:List Value:=[.int .i64 0,.slice none 0 0,.slice none 0 0]
theorem BT: ∀m,aT.R m sM az.zero:=fun _=>⟨⟨rfl,aw (by decide)⟩,⟨⟨none,0,0,rfl,rfl,Zl _,(by decide),rfl⟩,⟨none,0,0,rfl,rfl,Zl _,(by decide),rfl⟩⟩⟩
theorem PB:dt prog 178 kA4:=⟨sizeOf178,isAgg178⟩
theorem PC:vq prog 178 kA4:=Qt underlying178 type5 (by kernel_rfl) underlying5 isAgg5 (by kernel_rfl)
theorem om:cR prog 120 0 0:=cJ underlying120 rfl sizeOf3 (by decide) rfl
theorem pG:cR prog 120 1 1:=cJ underlying120 rfl sizeOf49 (by decide) rfl
theorem el3:nQ prog 3 1 8:=⟨⟨t3,_,type3,rfl,rfl,rfl,rfl⟩⟩
theorem mz:cR prog 120 2 2:=cJ underlying120 rfl sizeOf50 (by decide) rfl
theorem wK:dt prog 50 (kSl ab):=⟨sizeOf50,isAgg50⟩
def QG:List Value:=[.int .u64 0,.int .u32 0]
theorem Dy: ∀m,bp.R m QG aK.zero:=fun _=>⟨⟨rfl,aw (by decide)⟩,⟨rfl,aw (by decide)⟩⟩
theorem Dz:cR prog 62 3 3:=cJ underlying62 rfl sizeOf50 (by decide) rfl
theorem Ht:cR prog 62 0 0:=cJ underlying62 rfl sizeOf3 (by decide) rfl
theorem Hu:cR prog 62 1 1:=cJ underlying62 rfl sizeOf49 (by decide) rfl
theorem Hv:cR prog 62 2 2:=cJ underlying62 rfl sizeOf49 (by decide) rfl
theorem AH:dt prog 65 (kPt aT):=⟨sizeOf65,isAgg65⟩
open Go.Proofs Go.Shelf Go.Lib
open Go.Sort (putRowK flatK HoldsK SWO PermIn SortedIn)

section
variable {P:Program} {W0:Bse} {m:M} {L:List (Nat×List Value)} {TL:List (Nat×Value)} {w:World} {α:Type} {k:Kd α} {b:Nat} {cs:List Value} {xs:List α}
theorem S.rebase (h:S W0 m w L TL):S ⟨w,fun _=>none⟩ m w [] []:=
 ⟨⟨Bel.refl _ _,fun k o h=>by cases h⟩,h.imm,fun i e he=>by simp at he,fun i j e e' he=>by simp at he,fun i e he=>by simp at he,fun i j e e' he=>by simp at he⟩
theorem MU (l:List (El k m xs)):Rl k m (l.flatMap fun a=>a.1.1) (l.map fun a=>a.1.2):=by
 induction l with
 |nil=>exact Rl.nil
 |cons a r ih=>exact Rl.app (Rl.single a.2.1) ih
theorem FP {ρ:Ren} {v fv:Value} {cmp:α→α→Option Int} {r:List α} (Ly:SlLaysF0.n6 P ρ) (aE: ∀w,(isAgg (ρ.t 24)).run P w= .ok true w) (zE: ∀w,(Go.sizeOf (ρ.t 24)).run P w= .ok k.sz w) (hagg:k.agg=true)
  (hS:S W0 m w ((b,cs)::L) TL) (hg:GS k m b cs v xs) (hf:Fn2 P k k (ai .i64) m fv cmp) (h:w5 cmp xs=some r):
  Calls P (ρ.f 6) [v,fv].toArray w (Ret fun _ w'=> ∃m',M.le m m'∧ ∃q0:List Value,S W0 m' w' ((b,q0)::L) TL∧GS k m' b q0 v r):=by
 obtain ⟨g,cb,rfl,eg,hcall⟩:=hf;obtain ⟨hgood,hperm,hpw⟩:=yE h;have hrl:r.length=xs.length:=hperm.length_eq
 by_cases hx:xs=[]
 ·subst hx
  have hr:r=[]:=Zg hrl;subst hr;obtain ⟨a,cap,rfl,_⟩:=hg.val;refine (AnyF.slices_SortFunc_none Ly a cap (.func (.func g) #[] cb) w).mono ?_;rintro e w' ⟨rfl,rfl⟩;exact ⟨m,M.le.refl m,cs,hS,hg⟩
 ·have hg':=hg
  obtain ⟨h0,⟨rfl,_⟩|⟨cap,rfl,h2,h3,h4⟩⟩:=hg
  ·exact absurd rfl hx
  have hn:0<xs.length:=List.length_pos_iff.2 hx;have hp:=k.pos;have hle:xs.length*k.sz≤cap*k.sz:=Nat.mul_le_mul_right _ h2;have hpos:0<xs.length*k.sz:=Nat.mul_pos hn hp;have hne:cs≠[]:=fun e=>by subst e;simp at h3;omega
  obtain ⟨dl,hd1,hd2⟩:=EL h4
  have hdl:dl.length=xs.length:=by
   have:=congrArg List.length hd1;simpa using this
  obtain ⟨hB,hm,t,ht⟩:=hS.own 0 _ rfl hne;simp only at hB hm ht;have hi:Inhabited (El k m xs):=⟨dl[0]'(by omega)⟩
  have hblk:b<w.heap.size:=(Array.getElem?_eq_some_iff.1 ht).1
  -- the worlds of the sort
  have hworld: ∀(mm:Nat) (os:Array Obj) (dk:Array (El k m xs)),dk.size=xs.length→sortWorldK (fun a:El k m xs=>a.1.1) k.sz w b 0 mm dk os=Go.Sort.grow ((Go.Sort.ahead w mm).setRow b (((dk.toList.flatMap fun a=>a.1.1)++cs.drop (xs.length*k.sz)).toArray)) os:=by
   intro mm os dk hdk;unfold sortWorldK;rw [F9 _ _ (Go.Sort.ahead w mm) b cs t dk ht (by rw [hdk];omega),Cf,hdk]
  have hSw: ∀(mm:Nat) (os:Array Obj) (q:List Value),S W0 m (Go.Sort.grow ((Go.Sort.ahead w mm).setRow b q.toArray) os) ((b,q)::L) TL:=fun mm os q=>((hS.aheadN mm).setL (i:=0) rfl hne q).more os;have hcf: ∀x y:El k m xs,∃c,cmp x.1.2 y.1.2=some c∧inR .i64 c:=fun x y=>hgood.1 _ x.2.2 _ y.2.2
  have hcmp:CmpLays P g cb (fun a:El k m xs=>a.1.1) k.sz (fun x y=>(cmp x.1.2 y.1.2).getD 0) b 0 dl.toArray.size w:=by
   intro mm os dk hdk x y;rw [hworld mm os dk (by rw [hdk];simpa using hdl)];generalize hw1:Go.Sort.grow ((Go.Sort.ahead w mm).setRow b _) os=w1;have hS1:=(hSw mm os ((dk.toList.flatMap fun a=>a.1.1)++cs.drop (xs.length*k.sz))).rebase;rw [hw1] at hS1;obtain ⟨c,hc,_⟩:=hcf x y;have hv: ∀z:El k m xs,Value.agg z.1.1.toArray=k.val z.1.1:=fun z=>by simp [Kd.val,hagg]
   rw [hv x,hv y];refine (hcall ⟨w1,fun _=>none⟩ m w1 [] [] _ _ x.1.2 y.1.2 c (M.le.refl m) hS1 ⟨_,x.2.1,rfl⟩ ⟨_,y.2.1,rfl⟩ hc).mono ?_;intro e w' he;cases e with
   |returned u=>
    obtain ⟨m',_,hS2,hu⟩:=he;obtain ⟨rfl,_⟩:=aI hu;exact ⟨by simp [hc],Ce hS2.below.toBel⟩
   |panicked ch=>exact he.elim
   |outgrown=>exact he.elim
  have hO:SWO (ltOf fun x y:El k m xs=>(cmp x.1.2 y.1.2).getD 0):=by
   refine ⟨fun x=> ?_,fun x y z h1 h2=> ?_,fun x y z h1 h2=> ?_⟩
   ·simp only [ltOf,decide_eq_false_iff_not];exact hgood.2.1 _ x.2.2
   ·simp only [ltOf,decide_eq_true_eq] at*;exact hgood.2.2.1 _ x.2.2 _ y.2.2 _ z.2.2 h1 h2
   ·simp only [ltOf,decide_eq_false_iff_not] at*;exact hgood.2.2.2.1 _ x.2.2 _ y.2.2 _ z.2.2 h1 h2
  have hH:HoldsK (fun a:El k m xs=>a.1.1) k.sz w b 0 dl.toArray:=by
   intro j hj;have hj':j<xs.length*k.sz:=by simpa [hdl] using hj
   have hfl:=Cf dl.toArray
   have e1:(flatK (fun a:El k m xs=>a.1.1) k.sz dl.toArray)[j]! =cs[j]'(by omega):=by
    rw [getElem!_pos _ j (by simpa [hdl] using hj')]
    have:(flatK (fun a:El k m xs=>a.1.1) k.sz dl.toArray).toList[j]? =cs[j]? :=by
     rw [hfl];show (dl.flatMap _)[j]? =_;rw [hd2,List.getElem?_take,if_pos hj']
    rw [Z1 (by simpa [hdl] using hj'),Z1 (by omega)] at this;injection this with this
   refine ⟨?_,?_⟩
   ·rw [e1]
    simp [World.cell?,ht,show j<cs.length by omega]
   ·simp [World.frozen?,ht]
  have hcon:=AnyQ.slices_SortFunc Ly k.sz aE zE (fun a:El k m xs=>a.1.1) (fun x=>k.len x.2.1) (fun x v hv=>k.one x.2.1 v hv) (fun x y=>(cmp x.1.2 y.1.2).getD 0) hO g cb b 0 cap dl.toArray w eg hcmp hH hblk (by have:xs.length≤281474976710656:=h0;simp [hdl];omega);have hds:dl.toArray.size=xs.length:=by simpa using hdl
  rw [hds] at hcon;refine hcon.mono ?_;rintro e w' ⟨rfl,d',n,os,hpi,hso,rfl⟩;have hd's:d'.size=xs.length:=by rw [hpi.1,hds]
  rw [hworld n os d' hd's];refine ⟨m,M.le.refl m,_,hSw n os _,?_⟩;have hR:=MU d'.toList
  have hmap:(d'.toList.map fun a=>a.1.2)=r:=by
   have hp1:(d'.toList.map fun a=>a.1.2).Perm xs:=by
    have:=hpi.2.2;rw [←hd's,Array.extract_size] at this;rw [hd's, ←hds,Array.extract_size] at this;have h9:=this.map (fun a:El k m xs=>a.1.2);rw [List.toList_toArray,hd1] at h9;exact h9
   have hpw1:(d'.toList.map fun a=>a.1.2).Pairwise (fun x y=> ¬ (cmp y x).getD 0<0):=by
    rw [List.pairwise_map,X3];intro i j hi' hj' hij;have:=hso i j (Nat.zero_le _) hij (by simpa [hd's] using hj');rw [getElem!_pos d' i (by simpa using hi'),getElem!_pos d' j (by simpa using hj')] at this;simpa [ltOf] using this
   refine List.Perm.eq_of_pairwise (le:=fun x y=> ¬ (cmp y x).getD 0<0) ?_ hpw1 hpw (hp1.trans hperm.symm);intro x y hx' hy' h1 h2;exact hgood.2.2.2.2 x (hp1.mem_iff.1 hx') y (hperm.mem_iff.1 hy') h2 h1
  have hfl:(d'.toList.flatMap fun a=>a.1.1).length=xs.length*k.sz:=by
   have:=hR.1;simpa [hd's] using this
  refine ⟨by rw [hrl];exact h0,.inr ⟨cap,by rw [hrl],by rw [hrl];exact h2,by simp [hfl];omega,?_⟩⟩;rw [hrl,List.take_append_of_le_length (by omega),Z4 (by omega), ←hmap];exact hR
end
open Go.Proofs Tryz
def xG:Go.Shelf.Ren:=⟨fun|6=>148|15=>152|14=>178|28=>179|29=>154|20=>186|21=>187|22=>188|23=>189|24=>190|25=>191|26=>192|27=>193|46=>199|47=>200|48=>201|49=>202|50=>203|57=>204|n=>n,fun|22=>22|24=>32|25=>134|3=>3|39=>94|0=>0|53=>55|55=>54|4=>4|46=>219|45=>218|50=>78|5=>5|9=>9|66=>228|70=>231|76=>233|77=>234|n=>n,fun n=>n⟩
theorem KW:SlLaysF0.n6 prog xG:={
 mixed:=by kernel_rfl
 f6:=⟨f148.name,by decide,func148.trans (congrArg some (by kernel_rfl))⟩
 f14:=⟨f178.name,by decide,func178.trans (congrArg some (by kernel_rfl))⟩
 f15:=func152.trans (congrArg some (by kernel_rfl))
 f20:=⟨f186.name,by decide,func186.trans (congrArg some (by kernel_rfl))⟩
 f21:=⟨f187.name,by decide,func187.trans (congrArg some (by kernel_rfl))⟩
 f22:=⟨f188.name,by decide,func188.trans (congrArg some (by kernel_rfl))⟩
 f23:=⟨f189.name,by decide,func189.trans (congrArg some (by kernel_rfl))⟩
 f24:=⟨f190.name,by decide,func190.trans (congrArg some (by kernel_rfl))⟩
 f25:=⟨f191.name,by decide,func191.trans (congrArg some (by kernel_rfl))⟩
 f26:=⟨f192.name,by decide,func192.trans (congrArg some (by kernel_rfl))⟩
 f27:=⟨f193.name,by decide,func193.trans (congrArg some (by kernel_rfl))⟩
 f28:=func179.trans (congrArg some (by kernel_rfl))
 f29:=func154.trans (congrArg some (by kernel_rfl))
 f46:=⟨f199.name,by decide,func199.trans (congrArg some (by kernel_rfl))⟩
 f47:=func200.trans (congrArg some (by kernel_rfl))
 f48:=func201.trans (congrArg some (by kernel_rfl))
 f49:=⟨f202.name,by decide,func202.trans (congrArg some (by kernel_rfl))⟩
 f50:=⟨f203.name,by decide,func203.trans (congrArg some (by kernel_rfl))⟩
 f57:=⟨f204.name,by decide,func204.trans (congrArg some (by kernel_rfl))⟩
 t0:=underlying0
 a0:=isAgg0
 z0:=sizeOf0
 v0:=zeroValue0
 t3:=underlying3
 a3:=isAgg3
 z3:=sizeOf3
 v3:=zeroValue3
 t4:=underlying4
 a4:=isAgg4
 z4:=sizeOf4
 v4:=zeroValue4
 t5:=underlying5
 a5:=isAgg5
 z5:=sizeOf5
 v5:=zeroValue5
 t9:=underlying9
 a9:=isAgg9
 z9:=sizeOf9
 v9:=zeroValue9
 t22:=underlying22
 a22:=isAgg22
 z22:=sizeOf22
 v22:=zeroValue22
 t25:=underlying134
 a25:=isAgg134
 z25:=sizeOf134
 v25:=zeroValue134
 t39:=underlying94
 a39:=isAgg94
 z39:=sizeOf94
 v39:=zeroValue94
 t45:=underlying218
 a45:=isAgg218
 z45:=sizeOf218
 v45:=zeroValue218
 t46:=underlying219
 a46:=isAgg219
 z46:=sizeOf219
 v46:=zeroValue219
 t50:=underlying78
 a50:=isAgg78
 z50:=sizeOf78
 v50:=zeroValue78
 t53:=underlying55
 a53:=isAgg55
 z53:=sizeOf55
 v53:=zeroValue55
 t55:=underlying54
 a55:=isAgg54
 z55:=sizeOf54
 v55:=zeroValue54
 t66:=underlying228
 a66:=isAgg228
 z66:=sizeOf228
 v66:=zeroValue228
 t70:=underlying231
 a70:=isAgg231
 z70:=sizeOf231
 v70:=zeroValue231
 t76:=underlying233
 a76:=isAgg233
 z76:=sizeOf233
 v76:=zeroValue233
 t77:=underlying234
 a77:=isAgg234
 z77:=sizeOf234
 v77:=zeroValue234
}
set_option maxRecDepth 100000
open Go.Proofs Tryz
def MV:List Value:=[.pointer none]
theorem QH: ∀m,(kPt aT).R m MV none:=fun _=>rfl
theorem PD:dt prog 161 iQ:=⟨sizeOf161,isAgg161⟩
theorem QI:dt prog 62 bT:=⟨sizeOf62,isAgg62⟩
def QJ:List Value:=[.int .i64 0,.slice none 0 0,.slice none 0 0,.slice none 0 0]
theorem MW: ∀m,bT.R m QJ cC.zero:=fun _=>⟨⟨rfl,aw (by decide)⟩,⟨⟨none,0,0,rfl,rfl,Zl _,(by decide),rfl⟩,⟨⟨none,0,0,rfl,rfl,Zl _,(by decide),rfl⟩,⟨none,0,0,rfl,rfl,Zl _,(by decide),rfl⟩⟩⟩⟩
theorem PE:dt prog 120 aT:=⟨sizeOf120,isAgg120⟩
theorem QK:nQ prog 22 1 24:=⟨⟨t22,_,type22,rfl,rfl,rfl,rfl⟩⟩
def Sz:Sg:=Qw [(32,⟨Ap,kAp⟩),(57,⟨aK,bp⟩),(59,⟨aa,ab⟩),(187,⟨aU,cy⟩),(34,⟨bM,cX⟩),(155,⟨fy,q9⟩),(37,⟨dp,fw⟩),(120,⟨az,aT⟩),(161,⟨aj,iQ⟩),(62,⟨cC,bT⟩)]
def ti2:TI prog Sz 2:=oA underlying2 sizeOf2 isAgg2 zeroValue2 rfl (by decide)
def ti3:TI prog Sz 3:=oA underlying3 sizeOf3 isAgg3 zeroValue3 rfl (by decide)
def ti4:TI prog Sz 4:=LG underlying4 sizeOf4 isAgg4 zeroValue4 rfl
def ti5:TI prog Sz 5:=oA underlying5 sizeOf5 isAgg5 zeroValue5 rfl (by decide)
def ti6:TI prog Sz 6:=oA underlying6 sizeOf6 isAgg6 zeroValue6 rfl (by decide)
def ti9:TI prog Sz 9:=E9 underlying9 sizeOf9 isAgg9 zeroValue9 rfl
def QL:TI prog Sz 10:=E9 underlying10 sizeOf10 isAgg10 zeroValue10 rfl
def QM:TI prog Sz 11:=E9 underlying11 sizeOf11 isAgg11 zeroValue11 rfl
def QN:TI prog Sz 12:=oA underlying12 sizeOf12 isAgg12 zeroValue12 rfl (by decide)
def QO:TI prog Sz 21:=oA underlying21 sizeOf21 isAgg21 zeroValue21 rfl (by decide)
def QP:TI prog Sz 25:=oA underlying25 sizeOf25 isAgg25 zeroValue25 rfl (by decide)
def MX:TI prog Sz 54:=oA underlying54 sizeOf54 isAgg54 zeroValue54 rfl (by decide)
def MY:TI prog Sz 55:=oA underlying55 sizeOf55 isAgg55 zeroValue55 rfl (by decide)
def QQ:TI prog Sz 94:=oA underlying94 sizeOf94 isAgg94 zeroValue94 rfl (by decide)
def PF:TI prog Sz 218:=oA underlying218 sizeOf218 isAgg218 zeroValue218 rfl (by decide)
def QR:TI prog Sz 24:=um _ (slI ti5 _ 1 underlying24 sizeOf5 el5 type5 rfl rfl rfl) sizeOf24 isAgg24 zeroValue24 rfl
def MZ:TI prog Sz 32:=sT fd zeroValue32 Ap.zero pF
def QS:TI prog Sz 49:=um _ (slI ti3 _ 8 underlying49 sizeOf3 el3 type3 rfl rfl rfl) sizeOf49 isAgg49 zeroValue49 rfl
def QT:TI prog Sz 57:=sT rQ zeroValue57 aK.zero Dy
def PG:TI prog Sz 143:=um _ (slI ti2 _ 8 underlying143 sizeOf2 el2 type2 rfl rfl rfl) sizeOf143 isAgg143 zeroValue143 rfl
def PH:TI prog Sz 189:=um _ (slI MX _ 8 underlying189 sizeOf54 MI type54 rfl rfl rfl) sizeOf189 isAgg189 zeroValue189 rfl
def M0:TI prog Sz 22:=um _ (slI MZ _ 40 underlying22 sizeOf32 Dr type32 rfl rfl rfl) sizeOf22 isAgg22 zeroValue22 rfl
def QU:TI prog Sz 34:=sT yv zeroValue34 bM.zero yu
def QV:TI prog Sz 37:=sT QB zeroValue37 dp.zero MJ
def JB:TI prog Sz 155:=sT Pw zeroValue155 fy.zero Jy
def PI:TI prog Sz 161:=sT PD zeroValue161 aj.zero Jz
def JC:TI prog Sz 187:=sT Pv zeroValue187 aU.zero FM
def M1:TI prog Sz 59:=sT eL zeroValue59 aa.zero uT
def PJ:TI prog Sz 126:=um _ (slI M0 _ 24 underlying126 sizeOf22 QK type22 rfl rfl rfl) sizeOf126 isAgg126 zeroValue126 rfl
def PK:TI prog Sz 152:=um _ (slI JB _ 48 underlying152 sizeOf155 Py type155 rfl rfl rfl) sizeOf152 isAgg152 zeroValue152 rfl
def PL:TI prog Sz 185:=um _ (slI JC _ 48 underlying185 sizeOf187 Jx type187 rfl rfl rfl) sizeOf185 isAgg185 zeroValue185 rfl
def QW:TI prog Sz 50:=um _ (slI M1 _ 48 underlying50 sizeOf59 MS type59 rfl rfl rfl) sizeOf50 isAgg50 zeroValue50 rfl
def QX:TI prog Sz 62:=sT QI zeroValue62 cC.zero MW
def PM:TI prog Sz 120:=sT PE zeroValue120 az.zero BT
def PN:AI prog Sz 177:=arI MY 16 underlying177 sizeOf55 zeroValue177 rfl rfl
def PO:AI prog Sz 178:=arI ti5 4 underlying178 sizeOf5 zeroValue178 rfl rfl
def PP:AI prog Sz 224:=arI ti5 8 underlying224 sizeOf5 zeroValue224 rfl rfl
def M2:FI prog Sz 32 0:=⟨(.int .i64),⟨0,fun x=>x.fKind,fun x y=>{ x with fKind:=y },L4,Dp⟩,Ds⟩
def M3:FI prog Sz 32 1:=⟨.bool,⟨1,fun x=>x.fBool,fun x y=>{ x with fBool:=y },L5,L6⟩,MG⟩
def M4:FI prog Sz 32 2:=⟨(.int .i64),⟨2,fun x=>x.fInt,fun x y=>{ x with fInt:=y },L7,Dq⟩,tV⟩
def M5:FI prog Sz 32 3:=⟨.str,⟨3,fun x=>x.fText,fun x y=>{ x with fText:=y },L8,L9⟩,MH⟩
def QY:BI prog Sz 32:=⟨_,[(0,1),(1,1),(2,1),(3,1)],Ap.zero,_,underlying32,rfl,zeroValue32,pF,rfl⟩
def M6:FI prog Sz 57 0:=⟨(.int .u64),⟨0,fun x=>x.fEpoch,fun x y=>{ x with fEpoch:=y },Mt,wE⟩,zu⟩
def M7:FI prog Sz 57 1:=⟨(.int .u32),⟨1,fun x=>x.fNumber,fun x y=>{ x with fNumber:=y },Mu,Hp⟩,zw⟩
def QZ:BI prog Sz 57:=⟨_,[(0,1),(1,1)],aK.zero,_,underlying57,rfl,zeroValue57,Dy,rfl⟩
def M8:FI prog Sz 59 0:=⟨(.st 57),⟨0,fun x=>x.fId,fun x y=>{ x with fId:=y },zp,wF⟩,nq⟩
def M9:FI prog Sz 59 1:=⟨(.sl (.st 32)),⟨2,fun x=>x.fRow,fun x y=>{ x with fRow:=y },Mv,zq⟩,wJ⟩
def Na:FI prog Sz 59 2:=⟨(.int .u64),⟨3,fun x=>x.fDeleted,fun x y=>{ x with fDeleted:=y },Mw,Hq⟩,Hs⟩
def Q0:BI prog Sz 59:=⟨_,[(0,2),(2,1),(3,1)],aa.zero,_,underlying59,rfl,zeroValue59,uT,rfl⟩
def KX:FI prog Sz 187 0:=⟨(.int .i64),⟨0,fun x=>x.fMany,fun x y=>{ x with fMany:=y },KJ,AC⟩,AG⟩
def KY:FI prog Sz 187 1:=⟨(.st 32),⟨1,fun x=>x.fValue,fun x y=>{ x with fValue:=y },KK,Ey⟩,ED⟩
def PQ:BI prog Sz 187:=⟨_,[(0,1),(1,4)],aU.zero,_,underlying187,rfl,zeroValue187,FM,rfl⟩
def Nb:FI prog Sz 34 0:=⟨(.int .i64),⟨0,fun x=>x.fKind,fun x y=>{ x with fKind:=y },Ma,Hk⟩,Dv⟩
def Nc:FI prog Sz 34 1:=⟨(.int .i64),⟨1,fun x=>x.fMany,fun x y=>{ x with fMany:=y },Mb,Hl⟩,Hr⟩
def Nd:FI prog Sz 34 2:=⟨(.st 32),⟨2,fun x=>x.fMin,fun x y=>{ x with fMin:=y },Mc,Hm⟩,Dt⟩
def Nf:FI prog Sz 34 3:=⟨(.st 32),⟨6,fun x=>x.fMax,fun x y=>{ x with fMax:=y },Md,Hn⟩,Du⟩
def Ng:FI prog Sz 34 4:=⟨(.int .i64),⟨10,fun x=>x.fNulls,fun x y=>{ x with fNulls:=y },Me,Ho⟩,wI⟩
def Nh:FI prog Sz 34 5:=⟨(.int .i64),⟨11,fun x=>x.fBytes,fun x y=>{ x with fBytes:=y },Mf,Mg⟩,zr⟩
def Q1:BI prog Sz 34:=⟨_,[(0,1),(1,1),(2,4),(6,4),(10,1),(11,1)],bM.zero,_,underlying34,rfl,zeroValue34,yu,rfl⟩
def KZ:FI prog Sz 155 0:=⟨(.int .i64),⟨0,fun x=>x.fMany,fun x y=>{ x with fMany:=y },KL,KM⟩,KT⟩
def K0:FI prog Sz 155 1:=⟨(.st 32),⟨1,fun x=>x.fValue,fun x y=>{ x with fValue:=y },KN,KO⟩,KU⟩
def PS:BI prog Sz 155:=⟨_,[(0,1),(1,4)],fy.zero,_,underlying155,rfl,zeroValue155,Jy,rfl⟩
def Ni:FI prog Sz 37 0:=⟨(.int .i64),⟨0,fun x=>x.fKind,fun x y=>{ x with fKind:=y },Mh,Mi⟩,MQ⟩
def Nj:FI prog Sz 37 1:=⟨(.int .i64),⟨1,fun x=>x.fMany,fun x y=>{ x with fMany:=y },Mj,Mk⟩,MN⟩
def Nk:FI prog Sz 37 2:=⟨(.st 32),⟨2,fun x=>x.fMin,fun x y=>{ x with fMin:=y },Ml,Mm⟩,MK⟩
def Nl:FI prog Sz 37 3:=⟨(.st 32),⟨6,fun x=>x.fMax,fun x y=>{ x with fMax:=y },Mn,Mo⟩,ML⟩
def Nm:FI prog Sz 37 4:=⟨(.int .i64),⟨10,fun x=>x.fNulls,fun x y=>{ x with fNulls:=y },Mp,Mq⟩,MM⟩
def Nn:FI prog Sz 37 5:=⟨(.int .i64),⟨11,fun x=>x.fBytes,fun x y=>{ x with fBytes:=y },Mr,Ms⟩,MP⟩
def Q2:BI prog Sz 37:=⟨_,[(0,1),(1,1),(2,4),(6,4),(10,1),(11,1)],dp.zero,_,underlying37,rfl,zeroValue37,MJ,rfl⟩
def K1:FI prog Sz 120 0:=⟨(.int .i64),⟨0,fun x=>x.fColumns,fun x y=>{ x with fColumns:=y },EA,EB⟩,om⟩
def K2:FI prog Sz 120 1:=⟨(.sl (.int .i64)),⟨1,fun x=>x.fSort,fun x y=>{ x with fSort:=y },AD,EC⟩,pG⟩
def K3:FI prog Sz 120 2:=⟨(.sl (.st 59)),⟨2,fun x=>x.fL,fun x y=>{ x with fL:=y },pE,KS⟩,mz⟩
def PT:BI prog Sz 120:=⟨_,[(0,1),(1,1),(2,1)],az.zero,_,underlying120,rfl,zeroValue120,BT,rfl⟩
def K4:FI prog Sz 161 0:=⟨(.sl (.int .u8)),⟨0,fun x=>x.fB,fun x y=>{ x with fB:=y },KP,KQ⟩,KV⟩
def K5:FI prog Sz 161 1:=⟨.bool,⟨1,fun x=>x.fOk,fun x y=>{ x with fOk:=y },KR,Ez⟩,EE⟩
def PU:BI prog Sz 161:=⟨_,[(0,1),(1,1)],aj.zero,_,underlying161,rfl,zeroValue161,Jz,rfl⟩
def No:FI prog Sz 62 0:=⟨(.int .i64),⟨0,fun x=>x.fColumns,fun x y=>{ x with fColumns:=y },Mx,My⟩,Ht⟩
def Np:FI prog Sz 62 1:=⟨(.sl (.int .i64)),⟨1,fun x=>x.fSort,fun x y=>{ x with fSort:=y },Mz,MA⟩,Hu⟩
def Nq:FI prog Sz 62 2:=⟨(.sl (.int .i64)),⟨2,fun x=>x.fKinds,fun x y=>{ x with fKinds:=y },MB,MC⟩,Hv⟩
def Nr:FI prog Sz 62 3:=⟨(.sl (.st 59)),⟨3,fun x=>x.fL,fun x y=>{ x with fL:=y },MD,ME⟩,Dz⟩
def Q3:BI prog Sz 62:=⟨_,[(0,1),(1,1),(2,1),(3,1)],cC.zero,_,underlying62,rfl,zeroValue62,MW,rfl⟩
def Ns:EI prog Sz 32:=⟨inferInstanceAs (DecidableEq Ap),AF,rfl⟩
def Nt:EI prog Sz 57:=⟨inferInstanceAs (DecidableEq aK),Jg,rfl⟩
def Nu:EI prog Sz 37:=⟨inferInstanceAs (DecidableEq dp),QD,rfl⟩
def Γ:Tab prog Sz:=⟨yT [⟨2,ti2⟩,⟨3,ti3⟩,⟨4,ti4⟩,⟨5,ti5⟩,⟨6,ti6⟩,⟨9,ti9⟩,⟨10,QL⟩,⟨11,QM⟩,⟨12,QN⟩,⟨21,QO⟩,⟨22,M0⟩,⟨24,QR⟩,⟨25,QP⟩,⟨32,MZ⟩,⟨34,QU⟩,⟨37,QV⟩,⟨49,QS⟩,⟨50,QW⟩,⟨54,MX⟩,⟨55,MY⟩,⟨57,QT⟩,⟨59,M1⟩,⟨62,QX⟩,⟨94,QQ⟩,⟨120,PM⟩,⟨126,PJ⟩,⟨143,PG⟩,⟨152,PK⟩,⟨155,JB⟩,⟨161,PI⟩,⟨185,PL⟩,⟨187,JC⟩,⟨189,PH⟩,⟨218,PF⟩],yT [⟨177,PN⟩,⟨178,PO⟩,⟨224,PP⟩],CI [⟨32,0,M2⟩,⟨32,1,M3⟩,⟨32,2,M4⟩,⟨32,3,M5⟩,⟨57,0,M6⟩,⟨57,1,M7⟩,⟨59,0,M8⟩,⟨59,1,M9⟩,⟨59,2,Na⟩,⟨187,0,KX⟩,⟨187,1,KY⟩,⟨34,0,Nb⟩,⟨34,1,Nc⟩,⟨34,2,Nd⟩,⟨34,3,Nf⟩,⟨34,4,Ng⟩,⟨34,5,Nh⟩,⟨155,0,KZ⟩,⟨155,1,K0⟩,⟨37,0,Ni⟩,⟨37,1,Nj⟩,⟨37,2,Nk⟩,⟨37,3,Nl⟩,⟨37,4,Nm⟩,⟨37,5,Nn⟩,⟨120,0,K1⟩,⟨120,1,K2⟩,⟨120,2,K3⟩,⟨161,0,K4⟩,⟨161,1,K5⟩,⟨62,0,No⟩,⟨62,1,Np⟩,⟨62,2,Nq⟩,⟨62,3,Nr⟩],yT [⟨32,Ns⟩,⟨57,Nt⟩,⟨37,Nu⟩],yT [⟨32,QY⟩,⟨57,QZ⟩,⟨59,Q0⟩,⟨187,PQ⟩,⟨34,Q1⟩,⟨155,PS⟩,⟨37,Q2⟩,⟨120,PT⟩,⟨161,PU⟩,⟨62,Q3⟩]⟩
def mC {f:FuncId} {ps:List Pm} {rs:List Rm} {g:dW Sz ps→Option (bF Sz (gW ps rs))} (ok:Ctr Sz prog f ps rs g) (hc: ∀vs w,(callFunc f vs).run prog w= .ok (.enter f vs) w):CS prog Sz:=⟨f,ps,rs,g,ok,hc⟩
theorem ncR {f:FuncId} {fn:Func} {n:Nat} {ps:List Pm} {rs:List Rm} {g:dW Sz ps→Option (bF Sz (gW ps rs))} (D:List (CS prog Sz)) (res:List Nat) (hf:prog.funcs[f]? =some fn) (hn:fn.ntmps=n) (A:An Sz (bF Sz (gW ps rs))) (h: ∀x,exF n Γ D (fn.body.getD .skip) ps rs res A x=g x)
  (hA:A.nc=true:=by exact rfl) (hb:fn.body=some (fn.body.getD .skip):=by exact rfl) (hle:Nat.ble ps.length n=true:=by exact rfl) (hres:fn.results.toList=res.map ResultVar.tmp:=by exact rfl):Ctr Sz prog f ps rs g:=Ctr.nc A hA mixed hf hb hn hle hres h
theorem nxR {f:FuncId} {fn:Func} {n:Nat} {ps:List Pm} {rs:List Rm} {g:dW Sz ps→Option (bF Sz (gW ps rs))} (D:List (CS prog Sz)) (res:List ResultVar) (hf:prog.funcs[f]? =some fn) (hn:fn.ntmps=n) (A:An Sz (bF Sz (gW ps rs))) (h: ∀x,exX n Γ D (fn.body.getD .skip) ps rs res A x=g x)
  (hA:A.nc=true:=by exact rfl) (hb:fn.body=some (fn.body.getD .skip):=by exact rfl) (hle:Nat.ble ps.length n=true:=by exact rfl) (hres:fn.results.toList=res:=by exact rfl):Ctr Sz prog f ps rs g:=Ctr.nX A hA mixed hf hb hn hle hres h
end
end Go.Proofs.YthbonoagbeilkaaGreat.Hay
