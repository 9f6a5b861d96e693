import Derived.Test.YthbonoagbeilkaaGreatExQ
import Derived.Test.YthbonoagbeilkaaGreatHbW
namespace Go.Proofs.YthbonoagbeilkaaGreat.Hay
open Option renaming bind_some→Z0,getD_some→Xs,bind_assoc→Ye
open List renaming take_succ_eq_append_getElem→Z1,length_append→Z2,getElem_mem→Z3,getElem?_eq_getElem→Z4,drop_eq_getElem_cons→Z5,take_length→Z6,length_singleton→Z7,eq_nil_of_length_eq_zero→Z8,length_cons→Z9,replicate→Zd,append_assoc→Ze,mem_append→Zf,take_append_drop→Zg,nil_append→Zi,mem_of_mem_take→Zj,length_take→Zk,flatMap_cons→Zl,take_of_length_le→Zm,drop_of_length_le→Zn,length_map→Zo,append_nil→Zp,length_drop→Zq,drop_left→Zr,pairwise_cons→Zs,foldl_cons→Zu,range→Zv,pairwise_append→X3,drop_zero→X4,mem_cons→X5,cons_append→X8,getD_eq_getElem?_getD→X9,length_pos_iff→Xa,drop_drop→Xb,mem_map→Xc,take_left'→Xe,drop_length→Xh,mem_singleton→Xi,mem_of_getLast?→Xk,pairwise_iff_getElem→Xl,map_append→Xm,getElem?_eq_some_iff→Xn,flatMap_append→Xp,getElem?_drop→Xt,mem_replicate→Xu,drop_left'→Xw,foldl_append→Xx,length_range→Xy,length_replicate→Xz,dropLast_concat_getLast→Y1,getElem_map→Y5,length→Y7,getElem?_append_right→Y9,getLast?_eq_none_iff→Yc,getLast?_eq_getElem?→Yd,getElem?_append_left→Yf,eq_of_mem_replicate→Yi,foldl_nil→Ym,take_add_one→Yo,flatMap_singleton→Yq,length_eq_one_iff→Yr,all_eq_true→Yu,flatMap_nil→Yv,map_cons→Yw,singleton_append→Yz,getElem?_eq_none→V0,range_succ→V5,map_nil→V6,all_cons→V7
open Nat renaming mul_le_mul→Zw,le_refl→Zy,lt_of_lt_of_le→Zz,strongRecOn→X6,pow_le_pow_right→Xj,lt_or_ge→Xq,testBit_xor→Xr,div_lt_iff_lt_mul→Xv,eq_of_testBit_eq→Y0,two_pow_add_eq_or_of_lt→Y2,mod_two_eq_zero_or_one→Y6,pow_add→Y8,add_sub_cancel_left→Yj,div_div_eq_div_mul→Yl,testBit_succ→Yn,pow_pos→Yp,xor_comm→V9
open Bool renaming false_eq_true→Zc,eq_false_or_eq_true→Xo,or_eq_false_iff→Y3,true_and→Ya,not_true→Yb,not_false→Yk,and_eq_true→Ys,not_eq_true→Yt,and_eq_false_iff→V3,or_eq_true→V4
open Int renaming eq_ofNat_of_zero_le→Za,tmod_eq_emod_of_nonneg→X7,natCast_pow→Xd,fdiv_eq_ediv_of_nonneg→Xf,tdiv_eq_ediv_of_nonneg→Xg,toNat_natCast→Yg,emod_eq_of_lt→Yh,mul_comm→Yx,ofNat_lt→Yy,le_of_lt→V8
open BitVec renaming ofInt→Zh,toNat_ofInt→Zx
open Prod renaming ext→W3
open IntKind renaming i64→Zb,u64→Zt,u32→Y4,u8→W4
theorem Gb:∀s:List Int,ltB s s=false
 |[]=>rfl
 |a::x=>by simp[ltB,Gb x]
theorem Cy:∀{s u v:List Int},ltB s u=true->ltB u v=true->ltB s v=true
 |_,[],_,h,_=>by simp[ltB] at h
 |_,_::_,[],_,h=>by simp[ltB] at h
 |[],_::_,_::_,_,_=>rfl
 | a::x,b::y,c::z,h,k=>by
  simp only[ltB,V4,decide_eq_true_eq,Ys,beq_iff_eq] at*;rcases h with h|⟨rfl,h⟩
  ·rcases k with k|⟨rfl,k⟩
   ·left;omega
   ·left;exact h
  ·rcases k with k|⟨rfl,k⟩
   ·left;exact k
   ·right;exact⟨rfl,Cy h k⟩
theorem Gc:∀{s u:List Int},ltB s u=false->ltB u s=false->s=u
 |[],[],_,_=>rfl
 |[],_::_,h,_=>by simp[ltB] at h
 |_::_,[],_,h=>by simp[ltB] at h
 |a::x,b::y,h,k=>by
  simp only[ltB,Y3,decide_eq_false_iff_not] at h k;have e:a=b:=by omega
  subst e;simp only[beq_self_eq_true,Ya] at h k;rw[Gc h.2 k.2]
def ltV (a b:Ap):Bool:=
 if a.fKind != b.fKind then decide (a.fKind<b.fKind) else if a.fKind==1 then !a.fBool&&b.fBool else if a.fKind==2 then decide (a.fInt<b.fInt) else
 if a.fKind==3 then ltB a.fText b.fText else false
theorem Gd (a b:Ap):qu a b=some (ltV a b):=by
 unfold qu lD pS ltV
 repeat' split
 all_goals simp_all
theorem qI (a:Ap):ltV a a=false:=by
 unfold ltV
 repeat' split
 all_goals simp_all[Gb]
theorem ug {a b c:Ap}(h:ltV a b=true)(k:ltV b c=true):ltV a c=true:=by
 obtain⟨ka,ba,na,ta⟩:=a;obtain⟨kb,bb,nb,tb⟩:=b;obtain⟨kc,bc,nc,tc⟩:=c;simp only[ltV] at*
 by_cases e1:ka=kb
 ·subst e1
  by_cases e2:ka=kc
  ·subst e2
   by_cases e1:ka=1
   ·subst e1;cases ba<;>cases bb<;>cases bc<;>simp_all
   by_cases e2:ka=2
   ·subst e2;simp at*;omega
   by_cases e3:ka=3
   ·subst e3;simp at*;exact Cy h k
   ·have J:(ka==1)=false:=by simpa using e1
    have W:(ka==2)=false:=by simpa using e2
    have Z:(ka==3)=false:=by simpa using e3
    simp[J,W,Z] at h
  ·have:(ka != kc)=true:=by simpa using e2
   simp only[this,if_true] at*;exact k
 ·have J:(ka != kb)=true:=by simpa using e1
  simp only[J,if_true,decide_eq_true_eq] at h
  by_cases e2:kb=kc
  ·subst e2;simp only[J,if_true,decide_eq_true_eq];exact h
  ·have W:(kb != kc)=true:=by simpa using e2
   simp only[W,if_true,decide_eq_true_eq] at k;have Z:(ka != kc)=true:=by simp;omega
   simp only[Z,if_true,decide_eq_true_eq];omega
theorem sB {a b:Ap}(J:Rgt a)(W:Rgt b)(h:ltV a b=false)(k:ltV b a=false):a=b:=by
 cases J<;>cases W<;>simp[ltV] at h k
 ·rfl
 ·rename_i x y;cases x<;>cases y<;>simp_all
 ·have:∀x y:Int,x=y->gI x=gI y:=λx y h=>by rw[h]
  apply this;omega
 ·rw[Gc h k]
def lj (a b:Ap):Int:=if ltV a b then -1 else if ltV b a then 1 else 0
theorem qJ (a b:Ap):iX a b=some (lj a b):=by
 unfold iX lj;rw[Gd,Gd,Z0,Z0];cases ltV a b<;>cases ltV b a<;>rfl
theorem eQ (a b:Ap):cD a b=some (lj a b):=by
 unfold cD fA iK iS lX j8 mE eF lj ut;simp only[bne_self_eq_false,Z0,Zc,if_false];obtain⟨ka,W,na,ta⟩:=a;obtain⟨kb,Z,nb,tb⟩:=b;simp only[ltV]
 by_cases e:ka=kb
 ·subst e
  simp only[bne_self_eq_false,Zc,if_false]
  by_cases e1:ka=1
  ·subst e1;cases W<;>cases Z<;>simp
  ·have h:(ka==1)=false:=by simpa using e1
   simp only[h,Zc,if_false]
   by_cases e2:ka=2
   ·subst e2;simp
    repeat' split
    all_goals rfl
   ·have J:(ka==2)=false:=by simpa using e2
    simp only[J,Zc,if_false]
    by_cases e3:ka=3
    ·subst e3;simp
    ·have h3:(ka==3)=false:=by simpa using e3
     simp[h3]
 ·have h:(ka != kb)=true:=by simpa using e
  have J:(kb != ka)=true:=by simp;omega
  simp only[h,J,if_true,decide_eq_true_eq]
  repeat' split
  all_goals rfl
theorem tg {a b:Ap}(h:ltV a b=true):ltV b a=false:=by
 cases k:ltV b a with
 |false=>rfl
 |true=>have:=ug h k;rw[qI] at this;cases this
theorem lO (a b:Ap):lj a b<0↔ltV a b=true:=by
 unfold lj
 repeat' split
 all_goals simp_all
theorem Ge (a b:Ap):lj a b<=0↔ltV b a=false:=by
 unfold lj;split
 ·rename_i h;simp[tg h]
 ·split
  ·rename_i h;simp[h]
  ·rename_i h;simpa using h
theorem CA {a b:Ap}(W:Rgt a)(Z:Rgt b):lj a b=0↔a=b:=by
 unfold lj;constructor
 ·intro h
  split at h
  ·cases h
  split at h
  ·cases h
  rename_i J h2;exact sB W Z (by simpa using J) (by simpa using h2)
 ·rintro rfl;rw[qI];rfl
theorem Ok {l:List Ap}(h:∀v∈l,Rgt v):JS cD l:=by
 refine⟨λx _ y _=>⟨_,eQ x y,?_⟩,λx _=>?_,λx _ y _ z _ W J=>?_,λx hx y Z z hz W J h3=>?_,λx hx y Z W J=>?_⟩
 ·rw[mL];unfold lj
  repeat' split
  all_goals decide
 ·rw[eQ];simp only[Xs];rw[lO,qI];decide
 ·rw[eQ] at*
  simp only[Xs,lO] at*;exact ug W J
 ·rw[eQ] at*
  simp only[Xs,lO,Yt] at*;cases hyx:ltV y x with
  |true=>have:=ug hyx h3;rw[J] at this;cases this
  |false=>have:=sB (h x hx) (h y Z) W hyx;subst this;rw[J] at h3;cases h3
 ·rw[eQ] at*
  simp only[Xs,lO,Yt] at*;exact sB (h x hx) (h y Z) W J
abbrev Ris (l:List Ap):Prop:=l.Pairwise λa b=>ltV a b=true
theorem Ris.one:∀{l k:List Ap},Ris l->Ris k->(∀v,v∈l↔v∈k)->l=k
 |[],[],_,_,_=>rfl
 |[],b::k,_,_,h=>by have:=(h b).2 (by simp);cases this
 |a::l,[],_,_,h=>by have:=(h a).1 (by simp);cases this
 | a::l,b::k,hl,hk,h=>by
  have a1:=Zs.1 hl;have a0:=Zs.1 hk
  have e:a=b:=by
   have J:=(h a).1 (by simp);have Z:=(h b).2 (by simp);rcases X5.1 J with J|J
   ·exact J
   rcases X5.1 Z with Z|Z
   ·exact Z.symm
   have:=tg (a0.1 a J);rw[a1.1 b Z] at this;cases this
  subst e;congr 1;refine Ris.one a1.2 a0.2 λv=>?_;have hv:=h v;simp only[X5] at hv;constructor
  ·intro W
   rcases hv.1 (.inr W) with e|e
   ·subst e;have:=a1.1 v W;rw[qI] at this;cases this
   ·exact e
  ·intro W
   rcases hv.2 (.inr W) with e|e
   ·subst e;have:=a0.1 v W;rw[qI] at this;cases this
   ·exact e
theorem Ris.nodup {l:List Ap}(h:Ris l):l.Nodup:=h.imp λ{a b} h e=>by subst e;rw[qI] at h;cases h
def ins (v:Ap):List Ap->List Ap
 |[]=>[v]
 |x::r=>if ltV x v then x::ins v r else if v=x then x::r else v::x::r
theorem BF (v:Ap):∀(l:List Ap) (x:Ap),x∈ins v l↔x=v\/x∈l
 |[],x=>by simp[ins]
 | y::r,x=>by
  simp only[ins];split
  ·simp only[X5,BF v r x]
   constructor<;>(intro h;rcases h with h|h|h<;>simp[h])
  split
  ·rename_i e;subst e;simp
  ·simp
theorem Gf (v:Ap)(Z:Rgt v):∀{l:List Ap},(∀x∈l,Rgt x)->Ris l->Ris (ins v l)
 |[],_,_=>by simp[ins]
 | y::r,hr,h=>by
  have W:=Zs.1 h;simp only[ins];split
  ·rename_i a1
   refine Zs.2 ⟨λx J=>?_,Gf v Z (λx J=>hr x (by simp[J])) W.2⟩;rcases(BF v r x).1 J with e|e
   ·subst e;exact a1
   ·exact W.1 x e
  split
  ·exact h
  ·rename_i h1 h2
   have a0:ltV v y=true:=by
    cases h3:ltV v y with
    |true=>rfl
    |false=>exact absurd (sB Z (hr y (by simp)) h3 (by simpa using h1)) h2
   refine Zs.2 ⟨λx J=>?_,h⟩;rcases X5.1 J with e|e
   ·subst e;exact a0
   ·exact ug a0 (W.1 x e)
def aD (l:List Ap):List Ap:=l.foldl (λout v=>ins v out) []
theorem Hf (l:List Ap)(v:Ap):aD (l++[v])=ins v (aD l):=by simp[aD]
theorem AG {l:List Ap}{i:Nat}(h:i<l.length):aD (l.take (i+1))=ins l[i] (aD (l.take i)):=by
 rw[Z1 h,Hf]
theorem da {l:List Ap}(h:∀v∈l,Rgt v):Ris (aD l)/\(∀v,v∈aD l↔v∈l)/\(aD l).length<=l.length:=by
 have key:∀i,i<=l.length->Ris (aD (l.take i))/\(∀v,v∈aD (l.take i)↔v∈l.take i)/\(aD (l.take i)).length<=i:=by
  intro i
  induction i with
  |zero=>intro _;simp[aD]
  | succ i ih=>
   intro hi;obtain⟨Z,W,h3⟩:=ih (by omega);have J:i<l.length:=by omega
   rw[AG J];have hr:∀x∈aD (l.take i),Rgt x:=λx hx=>h x (Zj ((W x).1 hx));refine⟨Gf _ (h _ (Z3 J)) hr Z,λv=>?_,?_⟩
   ·rw[BF,W,Z1 J,Zf,Xi]
    exact or_comm
   ·have:∀(v:Ap) (l:List Ap),(ins v l).length<=l.length+1:=by
     intro v l
     induction l with
     |nil=>simp[ins]
     |cons y r ih=>
      simp only[ins]
      repeat' split
      all_goals simp
      omega
    have:=this l[i] (aD (l.take i));omega
 have:=key l.length (Zy _);rwa[Z6] at this
def qK (v:Ap)(s:List Ap×Bool)(x:Ap):List Ap×Bool:=
 if !s.2&&decide (lj v x<=0) then (if lj v x=0 then (s.1++[v],true) else (s.1++[v]++[x],true)) else (s.1++[x],s.2)
theorem xM (v:Ap):∀(l a:List Ap),l.foldl (qK v) (a,true)=(a++l,true)
 |[],a=>by simp
 |x::r,a=>by simp[qK,xM v r]
theorem Gg (v:Ap)(J:Rgt v):∀(l a:List Ap),(∀x∈l,Rgt x)->(if (l.foldl (qK v) (a,false)).2 then (l.foldl (qK v) (a,false)).1 else (l.foldl (qK v) (a,false)).1++[v])=a++ins v l
 |[],a,_=>by simp[ins]
 | x::r,a,h=>by
  simp only[Zu,qK,ins];cases hx:ltV x v with
  |true=>
   have: ¬ lj v x<=0:=by rw[Ge,hx];decide
   simp only[this,decide_false,Bool.and_false,Zc,if_false,if_true];rw[Gg v J r (a++[x]) (λy W=>h y (by simp[W]))];simp
  | false=>
   have Z:lj v x<=0:=(Ge v x).2 hx
   by_cases e:lj v x=0
   ·have e2:=(CA J (h x (by simp))).1 e
    subst e2;simp[e,xM]
   ·have e2:v≠x:=λe2=>e ((CA J (h x (by simp))).2 e2)
    simp[Z,e,e2,xM]
theorem qL (v:Ap):∀(l a:List Ap) (d:Bool),(l.foldl (qK v) (a,d)).1.length<=a.length+l.length+(if d then 0 else 1)
 |[],a,d=>by simp
 | x::r,a,d=>by
  simp only[Zu,qK];cases d
  ·simp only[Yk,Ya]
   split
   ·split
    ·have:=qL v r (a++[v]) true;simp at this ⊢;omega
    ·have:=qL v r (a++[v]++[x]) true;simp at this ⊢;omega
   ·have:=qL v r (a++[x]) false;simp at this ⊢;omega
  ·have:=qL v r (a++[x]) true
   simp at this ⊢;omega
theorem i6 {O β:Type}{f:β->O->β}{b:β}{l:List O}{i:Nat}(h:i<l.length):(l.take (i+1)).foldl f b=f ((l.take i).foldl f b) l[i]:=by
 rw[Z1 h,Xx];rfl
theorem Ez {l:List Ap}(h:∀v∈l,Rgt v)(hl:l.length<1048576):vN l=some (aD l):=by
 unfold vN;refine aW (λi=>(aD (l.take i),(i:Int))) l.length (by simp[aD]) (λi hi=>?_) ?_
 ·dsimp only
  unfold uF;obtain⟨h1,h2,h3⟩:=da (l:=l.take i) λv Z=>h v (Zj Z);have a2:(aD (l.take i)).length<=i:=by simp at h3;omega
  have hr:∀x∈aD (l.take i),Rgt x:=λx hx=>h x (Zj ((h2 x).1 hx));have Z:=h l[i] (Z3 hi);rw[if_pos (by simpa using hi)];generalize hw:aD (l.take i)=W at*;have a1:=Gg l[i] Z W [] hr;refine aW (λk=>(((W.take k).foldl (qK l[i]) ([],false)).1,((W.take k).foldl (qK l[i]) ([],false)).2,(k:Int))) W.length (by simp) (λk J=>?_) ?_
  ·dsimp only
   have a0:=qL l[i] (W.take k) [] false;simp only[List.length_nil,Zk,Zc,if_false] at a0;unfold uE uD uC uB;rw[if_pos (by simpa using J),aw hi,Z0,aw J,Z0,qJ,Z0,aP (by omega),i6 J];generalize hs:(W.take k).foldl (qK l[i]) ([],false)=s at*;obtain⟨s1,s2⟩:=s;simp only[qK] at*;cases s2
   ·simp only[Yk,if_true,Ya,Z0]
    by_cases e:lj l[i] W[k]<=0
    ·simp only[e,decide_true,if_true]
     rw[aI (by simp;omega),Z0]
     by_cases e0:lj l[i] W[k]=0
     ·rw[if_pos (by simpa using e0),if_pos e0]
     ·rw[if_neg (by simpa using e0),if_neg e0,aI (by simp;omega),Z0]
    ·simp only[e,decide_false,Zc,if_false]
     rw[aI (by simp;omega),Z0]
   ·simp only[Yb,Zc,if_false,Bool.false_and,Z0]
    rw[aI (by simp;omega),Z0]
  ·dsimp only
   have a0:=qL l[i] W [] false;simp only[List.length_nil,Zc,if_false] at a0;unfold uE yU uA yT;rw[if_neg (by simp),Z6,aP (by omega),AG hi,hw];rw[show([]:List Ap)++ins l[i] W=ins l[i] W from rfl] at a1;rw[←a1];cases hd:(W.foldl (qK l[i]) ([],false)).2
   ·simp only[Yk,if_true,Zc,if_false]
    rw[aw hi,Z0,aI (by simp;omega)];rfl
   ·simp
 ·dsimp only
  unfold uF yS;rw[if_neg (by simp),Z6];rfl
def dd (s:List Ap):List Ap:=s.foldl (λout v=>if out.getLast?=some v then out else out++[v]) []
theorem BG (s:List Ap)(v:Ap):dd (s++[v])=if (dd s).getLast?=some v then dd s else dd s++[v]:=by
 unfold dd;rw[Xx];rfl
theorem Gh (s:List Ap){i:Nat}(h:i<s.length):(dd (s.take (i+1))).getLast?=some s[i]:=by
 rw[Z1 h,BG];split
 ·assumption
 ·simp
theorem BH (s:List Ap){i:Nat}(h:i+1<s.length):dd (s.take (i+2))=if s[i+1]=s[i] then dd (s.take (i+1)) else dd (s.take (i+1))++[s[i+1]]:=by
 rw[Z1 h,BG,Gh s (by omega)]
 by_cases e:s[i+1]=s[i]
 ·rw[if_pos e,if_pos (by rw[e])]
 ·rw[if_neg e,if_neg (λh=>e (Option.some.inj h).symm)]
theorem Ol (s:List Ap)(h:0<s.length):dd (s.take 1)=s.take 1:=by
 match s,h with
 |a::r,_=>rfl
theorem MS {s:List Ap}(hr:∀x∈s,Rgt x)(h:s.Pairwise λx y=>ltV y x=false):Ris (dd s)/\(∀v,v∈dd s↔v∈s):=by
 have key:∀i,i<=s.length->Ris (dd (s.take i))/\(∀v,v∈dd (s.take i)↔v∈s.take i):=by
  intro i
  induction i with
  |zero=>intro _;simp[dd]
  | succ i ih=>
   intro hi;obtain⟨h1,Z⟩:=ih (by omega);have W:i<s.length:=by omega
   rw[Z1 W,BG];split
   ·rename_i e
    refine⟨h1,λv=>?_⟩;rw[Z,Zf,Xi];constructor
    ·exact .inl
    ·rintro (hm|rfl)
     ·exact hm
     ·exact(Z _).1 (Xk e)
   ·rename_i e
    refine⟨X3.2 ⟨h1,by simp,λa ha b hb=>?_⟩,λv=>by rw[Zf,Zf,Z]⟩;have a1:b=s[i]:=by simpa using hb
    subst a1;have a0:=(Z a).1 ha
    obtain⟨j,hj,rfl⟩:=List.getElem_of_mem a0;simp only[Zk] at hj;have a2:ltV s[i] s[j]=false:=Xl.1 h j i (by omega) W (by omega);rw[List.getElem_take] at ha ⊢;cases hlt2:ltV s[j] s[i] with
    |true=>rfl
    | false=>
     have e2:=sB (hr _ (Z3 (by omega))) (hr _ (Z3 W)) hlt2 a2;exfalso;apply e;have a3:0<i:=by omega
     obtain⟨J,rfl⟩:∃J,i=J+1:=⟨i - 1,by omega⟩
     rw[Gh s (by omega)]
     congr 1;apply sB (hr _ (Z3 (by omega))) (hr _ (Z3 W))
     ·cases h3:ltV s[J] s[J+1] with
      |false=>rfl
      | true=>
       rw[←e2] at h3
       by_cases e3:j=J
       ·subst e3;rw[qI] at h3;cases h3
       ·have:=Xl.1 h j J (by omega) (by omega) (by omega)
        rw[this] at h3;cases h3
     ·exact Xl.1 h J (J+1) (by omega) W (by omega)
 have:=key s.length (Zy _);rwa[Z6] at this
theorem Hg (s:List Ap)(hs:s.length<1048576):d8 s=some (dd s):=by
 unfold d8
 by_cases h2:s.length<2
 ·rw[if_pos (by simpa using by omega)]
  match s,h2 with
  |[],_=>rfl
  |[a],_=>rfl
 rw[if_neg (by simpa using by omega)];refine mY (I:=λs':Int=>∃i:Nat,s'=((i+1:Nat):Int)/\i+1<=s.length/\dd (s.take (i+1))=s.take (i+1)) (μ:=λx=>s.length - x.toNat) ?_ ⟨0,rfl,by omega,Ol s (by omega)⟩;rintro _ ⟨i,rfl,hi,W⟩;unfold fV
 by_cases hlt:i+1<s.length
 ·have e1:Zb.wrap (((i+1:Nat):Int) - 1)=(i:Int):=by rw[ai (by omega)];omega
  rw[if_pos (by simpa using by omega),nU hlt,Z0,Z4 hlt,Z0,e1,nU (by omega),Z0,Z4 (by omega),Z0]
  by_cases e:s[i+1]=s[i]
  ·right
   rw[if_pos (by simpa using e)]
   have hv:vw s ((i+1:Nat):Int) (s.length:Int)=some (i+1,s.length - (i+1)):=by
    unfold vw;rw[if_pos (by omega)];simp only[Yg]
   rw[hv,Z0];refine mY (I:=λt:Int×Int×List Ap=>∃p k2:Nat,p=i+1+k2/\1<=k2/\p<=s.length/\t.1=((dd (s.take p)).length:Int)/\t.2.1=(k2:Int)/\t.2.2.length=s.length/\(dd (s.take p)).length+1<=p/\t.2.2.take (dd (s.take p)).length=dd (s.take p)/\t.2.2.drop (p - 1)=s.drop (p - 1)) (μ:=λt=>s.length - t.2.1.toNat) ?_ ?_
   ·rintro ⟨t1,t2,xs⟩ ⟨p,k2,hp,b1,a9,rfl,rfl,a2,a6,Z,J⟩
    unfold fU;have hm:Nat.ble (s.length - (i+1)) cR=true:=Nat.ble_eq_true_of_le (by unfold cR;omega);dsimp only at*;rw[s9 hm,Z0]
    by_cases hlt2:p<s.length
    ·left
     have a0:xs[p]? =some s[p]:=by
      have:(xs.drop (p - 1))[1]? =(s.drop (p - 1))[1]? :=by rw[J]
      rw[Xt,Xt] at this;have e:p - 1+1=p:=by omega
      rw[e] at this;rw[this,Z4 hlt2]
     have a3:xs[p - 1]? =some s[p - 1]:=by
      have:(xs.drop (p - 1))[0]? =(s.drop (p - 1))[0]? :=by rw[J]
      rw[Xt,Xt] at this;rw[Nat.add_zero] at this;rw[this,Z4 (by omega)]
     have e2:ixv (i+1) (s.length - (i+1)) (k2:Int)=some p:=by unfold ixv;rw[if_pos (by omega)];simp;omega
     have e3:ixv (i+1) (s.length - (i+1)) (Zb.wrap ((k2:Int) - 1))=some (p - 1):=by
      rw[ai (by omega)];unfold ixv;rw[if_pos (by omega)];simp;omega
     have h:=BH s (i:=p - 1) (by omega);have e4:p - 1+1=p:=by omega
     have e5:p - 1+2=p+1:=by omega
     simp only[e4,e5] at h;rw[if_pos (by simpa using by omega),e2,Z0,a0,Z0,e3,Z0,a3,Z0]
     by_cases e6:s[p]=s[p - 1]
     ·rw[if_pos e6] at h
      rw[if_neg (by simpa using e6)];unfold dA;refine⟨_,rfl,⟨p+1,k2+1,by omega,by omega,by omega,by rw[h],?_,a2,by rw[h];omega,by rw[h];exact Z,?_⟩,?_⟩
      ·exact aP (by omega)
      ·have:p+1 - 1=p - 1+1:=by omega
       rw[this,←Xb,←Xb,J]
      ·dsimp only;rw[aP (by omega)];simp;omega
     ·rw[if_neg e6] at h
      rw[if_pos (by simpa using e6)];have a1:(dd (s.take p)).length<xs.length:=by omega
      rw[Z0,a0,Z0,nU a1,Z0,Z4 a1,Z0];unfold dA;refine⟨_,rfl,⟨p+1,k2+1,by omega,by omega,by omega,?_,aP (by omega),by simp[a2],by rw[h];simp;omega,?_,?_⟩,?_⟩
      ·rw[h,aP (by omega)];simp
      ·rw[h]
       simp only[Z2,Z7];rw[Z1 (by simp;omega)];rw[List.take_set_of_le (Zy _),Z];simp
      ·rw[List.drop_set_of_lt (by omega)]
       have:p+1 - 1=p - 1+1:=by omega
       rw[this,←Xb,←Xb,J]
      ·dsimp only;rw[aP (by omega)];simp;omega
    ·right
     have a4:p=s.length:=by omega
     subst a4;rw[if_neg (by simpa using by omega)];unfold fT;rw[Z6] at*
     have a5:vw xs ((dd s).length:Int) (xs.length:Int)=some ((dd s).length,xs.length - (dd s).length):=by
      unfold vw;rw[if_pos (by omega)];simp only[Yg]
     rw[a5,Z0];unfold clr;rw[if_pos (by dsimp only;omega),Z0]
     have b0:(spl xs (dd s).length (Zd (xs.length - (dd s).length) Ap.zero)).length=xs.length:=by
      unfold spl;simp;omega
     have:=cP (xs:=spl xs (dd s).length (Zd (xs.length - (dd s).length) Ap.zero)) (lo:=0) (hi:=(dd s).length) (by omega) (by omega);rw[show((0:Nat):Int)=0 from rfl] at this;rw[this]
     have e7:(spl xs (dd s).length (Zd (xs.length - (dd s).length) Ap.zero)).take (dd s).length=dd s:=by
      unfold spl;rw[Ze,Xe (by simp;omega)];exact Z
     rw[X4,e7];rfl
   ·have h:=BH s (i:=i) (by omega)
    rw[if_pos e,W] at h;refine⟨i+2,1,by omega,by omega,by omega,?_,rfl,rfl,?_,?_,rfl⟩
    ·rw[h];simp;omega
    ·rw[h];simp;omega
    ·rw[h];simp
  ·left
   rw[if_neg (by simpa using e)];unfold fS;refine⟨_,rfl,⟨i+1,aP (by omega),by omega,?_⟩,?_⟩
   ·rw[BH s (i:=i) (by omega),if_neg e,W]
    exact(Z1 hlt).symm
   ·rw[aP (by omega)];simp;omega
 ·right
  have:i+1=s.length:=by omega
  rw[if_neg (by simpa using by omega)];rw[this,Z6] at W;unfold fR;rw[W];rfl
theorem AH {l:List Ap}(h:∀v∈l,Rgt v)(hl:l.length<1048576):∃r,kW l cD=some r/\d8 r=some (aD l):=by
 obtain⟨r,W⟩:∃r,yn cD l=some r:=by
  unfold yn;rw[if_pos (Ok h)];exact⟨_,rfl⟩
 obtain⟨_,J,hs⟩:=z7 W;refine⟨r,W,?_⟩;rw[Hg r (by rw[J.length_eq];exact hl)];congr 1;have Z:∀x∈r,Rgt x:=λx hx=>h x (J.mem_iff.1 hx)
 have a0:r.Pairwise λx y=>ltV y x=false:=hs.imp λ{x y} h=>by
  rw[eQ] at h;simp only[Xs,lO,Yt] at h;exact h
 obtain⟨h1,h2⟩:=MS Z a0;obtain⟨h3,h4,_⟩:=da h;exact Ris.one h1 h3 λv=>by rw[h2,h4,J.mem_iff]
theorem Ir {O β σ:Type}{f:σ->Option (σ⊕β)}{s:σ}(S:Nat->σ)(xs:List O)(p:O->Bool)(J Z:β)(h0:s=S 0)(step:∀(i:Nat)(h:i<xs.length),p xs[i]=true->f (S i)=some (.inl (S (i+1))))
  (out:∀(i:Nat) (h:i<xs.length),p xs[i]=false->f (S i)=some (.inr J)) (a0:f (S xs.length)=some (.inr Z)):am f s=some (if xs.all p then Z else J):=by
 have key:∀k i:Nat,i+k=xs.length->am f (S i)=some (if (xs.drop i).all p then Z else J):=by
  intro k
  induction k with
  |zero=>
   intro i hi;have:i=xs.length:=by omega
   subst this;rw[aR a0];simp
  |succ k ih=>
   intro i hi;have W:i<xs.length:=by omega
   rw[Z5 W,V7];cases hp:p xs[i] with
   |true=>rw[bJ (step i W hp),ih (i+1) (by omega)];simp
   |false=>rw[aR (out i W hp)];simp
 have:=key xs.length 0 (by omega);rw[h0];simpa using this
def xN (out:List aS)(v:Ap):List aS:=
 match out.getLast? with
 |some r=>if r.fValue=v then out.dropLast++[⟨r.fMany+1,v⟩] else out++[⟨1,v⟩]
 |none=>[⟨1,v⟩]
def bg (l:List Ap):List aS:=l.foldl xN []
def fO (l:List aS):List Ap:=l.flatMap λr=>Zd r.fMany.toNat r.fValue
theorem sd {l:List Ap}{i:Nat}(h:i<l.length):bg (l.take (i+1))=xN (bg (l.take i)) l[i]:=i6 h
theorem Is (out:List aS)(v:Ap):∃n,(xN out v).getLast?=some ⟨n,v⟩:=by
 unfold xN;split
 ·rename_i r _
  split
  ·exact⟨r.fMany+1,by simp⟩
  ·exact⟨1,by simp⟩
 ·exact⟨1,by simp⟩
theorem rK {O:Type}{l:List O}{a:O}(h:l.getLast?=some a):l=l.dropLast++[a]:=by
 cases l with
 |nil=>cases h
 |cons x r=>
  have J:(x::r).getLast (by simp)=a:=by rw[List.getLast?_eq_some_getLast (by simp)] at h;exact Option.some.inj h
  rw[←J,Y1]
theorem xO (l:List Ap){i:Nat}(hi:i<=l.length):(∀r∈bg (l.take i),1<=r.fMany/\r.fMany<=i/\r.fValue∈l)/\(bg (l.take i)).length<=i/\fO (bg (l.take i))=l.take i:=by
 induction i with
 |zero=>simp[bg,fO]
 | succ i ih=>
  obtain⟨h1,h2,h3⟩:=ih (by omega);have Z:i<l.length:=by omega
  rw[sd Z,Z1 Z];generalize hw:bg (l.take i)=W at*;unfold xN;have hm:=Z3 Z;split
  ·rename_i r J
   split
   ·rename_i e
    have a0:=rK J;have a1:r∈W:=Xk J;obtain⟨g1,g2,g3⟩:=h1 r a1;refine⟨λx h=>?_,?_,?_⟩
    ·rcases Zf.1 h with h|h
     ·have:=h1 x (by rw[a0];exact List.mem_append_left _ h);exact⟨this.1,by omega,this.2.2⟩
     ·have:x=⟨r.fMany+1,l[i]⟩:=by simpa using h
      subst this;exact⟨by simp;omega,by simp;omega,hm⟩
    ·have:W.length=W.dropLast.length+1:=by rw[a0];simp
     simp;omega
    ·rw[←h3]
     have e1:fO W=fO W.dropLast++Zd r.fMany.toNat r.fValue:=by
      conv=>lhs;rw[a0]
      simp[fO]
     rw[e1];have e2:(r.fMany+1).toNat=r.fMany.toNat+1:=by omega
     simp[fO,e2,List.replicate_succ',e]
   ·refine⟨λx h=>?_,by simp;omega,?_⟩
    ·rcases Zf.1 h with h|h
     ·have:=h1 x h;exact⟨this.1,by omega,this.2.2⟩
     ·have:x=⟨1,l[i]⟩:=by simpa using h
      subst this;exact⟨by simp,by simp;omega,hm⟩
    ·rw[←h3];simp[fO]
  ·rename_i J
   have:W=[]:=Yc.1 J;subst this;refine⟨λx h=>?_,by simp,?_⟩
   ·have:x=⟨1,l[i]⟩:=by simpa using h
    subst this;exact⟨by simp,by simp;omega,hm⟩
   ·rw[←h3];simp[fO]
theorem KG {O:Type}(l:List O)(a:O)(n:Nat)(h:l.length=n+1):l.set n a=l.dropLast++[a]:=by
 apply List.ext_getElem
 ·simp;omega
 intro j J W;rw[List.getElem_set];split
 ·rename_i e;subst e
  rw[List.getElem_append_right (by simp;omega)];simp
 ·simp at J
  rw[List.getElem_append_left (by simp;omega),List.getElem_dropLast]
theorem MT (l:List Ap)(hl:l.length<=1048576):mj l=some (bg l):=by
 unfold mj;refine aW (λi=>((i:Int),bg (l.take i))) l.length (by simp[bg]) (λi hi=>?_) ?_
 ·dsimp only
  obtain⟨h1,h2,_⟩:=xO l (i:=i) (by omega);rw[sd hi];generalize bg (l.take i)=W at*;unfold kV;rw[if_pos (by simpa using hi),aw hi,Z0]
  have Z:eT (i:Int) W l[i] (W.length:Int)=some (.inr (.inl ((((i+1:Nat):Int)),W++[⟨1,l[i]⟩]))):=by
   unfold eT nB ji;rw[if_neg (by simp),aI (by simp;omega),Z0,aP (by omega)];rfl
  have a0:∀k,k+1<W.length->eT (i:Int) W l[i] (k:Int)=some (.inl ((k+1:Nat):Int)):=by
   intro k hk;unfold eT gU;rw[if_pos (by simpa using by omega),if_neg (by rw[ai (by omega)];simp;omega),if_neg (by decide),aP (by omega)]
  unfold xN;cases hg:W.getLast? with
  |none=>
   have:W=[]:=Yc.1 hg;subst this;exact aR Z
  | some r=>
   dsimp only;have a1:=rK hg
   obtain⟨n,J⟩:∃n,W.length=n+1:=⟨W.length - 1,by
    have:W.length=W.dropLast.length+1:=by rw[a1];simp
    omega⟩
   have h:W[n]? =some r:=by
    rw[Yd,J] at hg;exact hg
   have a2:=h1 r (Xk hg)
   by_cases e:r.fValue=l[i]
   ·rw[if_pos e]
    refine aW (λk=>(k:Int)) n rfl (λk hk=>a0 k (by omega)) ?_;unfold eT gU ji;rw[if_pos (by simpa using by omega),if_pos (by rw[ai (by omega)];simp;omega),nU (by omega),Z0,h,Z0,if_pos (by simpa using e),Z0,h,Z0,Z0,h,Z0,aP (by omega),KG _ _ _ J,ai (by omega),e]
    rfl
   ·rw[if_neg e]
    refine aW (λk=>(k:Int)) W.length rfl (λk hk=>?_) Z
    by_cases hk1:k+1<W.length
    ·exact a0 k hk1
    ·have:k=n:=by omega
     subst this;unfold eT gU;rw[if_pos (by simpa using by omega),if_pos (by rw[ai (by omega)];simp;omega),nU (by omega),Z0,h,Z0,if_neg (by simpa using e),aP (by omega)]
 ·dsimp only
  unfold kV nA;rw[if_neg (by simp),Z6];rfl
def mH (r:aS):d3:=⟨r.fMany,r.fValue⟩
theorem FC (l:List Ap)(hl:l.length<=1048576):sA l=some ((bg l).map mH):=by
 unfold sA;refine aW (λi=>((bg (l.take i)).map mH,(i:Int))) l.length (by simp[bg]) (λi hi=>?_) ?_
 ·dsimp only
  obtain⟨h1,h2,_⟩:=xO l (i:=i) (by omega);rw[sd hi];unfold pR
  have a1:lC l ((bg (l.take i)).map mH) (i:Int) false=some (.inl ((bg (l.take i)++[(⟨1,l[i]⟩:aS)]).map mH,((i+1:Nat):Int))):=by
   unfold lC nH;rw[if_neg (by decide),aw hi,Z0,aI (by simp;omega),Z0,aP (by omega)];simp[mH]
  rw[if_pos (by simpa using hi)];rcases Nat.eq_zero_or_pos i with h0|h0
  ·subst h0
   rw[if_neg (by decide),a1];simp[bg,xN]
  ·obtain⟨j,rfl⟩:∃j,i=j+1:=⟨i - 1,by omega⟩
   have e1:Zb.wrap (((j+1:Nat):Int) - 1)=(j:Int):=by rw[ai (by omega)];omega
   rw[if_pos (decide_eq_true (by omega)),aw hi,Z0,e1,aw (by omega),Z0];obtain⟨n,J⟩:∃n,(bg (l.take (j+1))).getLast?=some ⟨n,l[j]⟩:=by rw[sd (by omega)];exact Is _ _
   generalize hw:bg (l.take (j+1))=W at*;unfold xN;rw[J];dsimp only
   by_cases e:l[j+1]=l[j]
   ·rw[if_pos e.symm]
    unfold lC nH;have a4:=rK J
    obtain⟨k,Z⟩:∃k,W.length=k+1:=⟨W.length - 1,by
     have:W.length=W.dropLast.length+1:=by rw[a4];simp
     omega⟩
    have a3:=h1 _ (Xk J)
    have a0:(W.map mH)[k]? =some ⟨n,l[j]⟩:=by
     rw[Yd,Z] at J;rw[List.getElem?_map];have:W[k]? =some ⟨n,l[j]⟩:=J;rw[this];rfl
    have e2:Zb.wrap (((W.map mH).length:Int) - 1)=(k:Int):=by rw[ai (by simp;omega)];simp;omega
    have a2:k<(W.map mH).length:=by simp;omega
    have e3:(W.map mH)[k]=⟨n,l[j]⟩:=by
     rw[Z4 a2] at a0;exact Option.some.inj a0
    have e4:=cP (xs:=W.map mH) (lo:=0) (hi:=k) (by omega) (by omega);rw[show((0:Nat):Int)=0 from rfl] at e4;rw[if_pos (by simpa using e),e2,aw a2,Z0,e3,e4,Z0,aI (by simp;omega),Z0,aI (by simp;omega),Z0,aP (by omega)];simp only at a3;rw[ai (by simp;omega)];simp only[Zi,X4,Xm,Yw,V6,mH,List.map_dropLast];rw[List.dropLast_eq_take,Zo,Z,e]
    rfl
   ·rw[if_neg (λh=>e h.symm)]
    have:decide (l[j+1]=l[j])=false:=by simpa using e
    rw[this,a1]
 ·dsimp only
  unfold pR rT;rw[if_neg (by simp),Z6];rfl
def wh (l:List Ap):List Int:=(bg l).flatMap λr=>r.fMany::a8 r.fValue
theorem pF {O:Type}(l:List O)(f:O->List Int)(k:Nat)(h:∀x∈l,(f x).length<=k):(l.flatMap f).length<=k*l.length:=by
 induction l with
 |nil=>simp
 |cons v r ih=>
  have:=h v (by simp);have:=ih λx J=>h x (by simp[J]);rw[Zl,Z2,Z9,Nat.mul_add];omega
theorem kp {l:List Ap}:(∀r∈bg l,1<=r.fMany/\r.fMany<=l.length/\r.fValue∈l)/\(bg l).length<=l.length/\fO (bg l)=l:=by
 have:=xO l (Zy _);rwa[Z6] at this
theorem BJ {l:List Ap}(h:∀v∈l,Rgt v)(hl:l.length<=64):oC l=some (wh l):=by
 obtain⟨J,h2,_⟩:=kp (l:=l);unfold oC;rw[MT l (by omega),Z0];refine aW (λi=>(((bg l).take i).flatMap λr=>r.fMany::a8 r.fValue,(i:Int))) (bg l).length (by simp) (λi hi=>?_) ?_
 ·dsimp only
  have hm:=J _ (Z3 hi);have W:=h _ hm.2.2
  have Z:=pF ((bg l).take i) (λr=>r.fMany::a8 r.fValue) 67 λx hx=>by
   have:=(ek (h _ (J x (Zj hx)).2.2)).2;simp;omega
  have a0:=(ek W).2;simp only[Zk] at Z;unfold qr;rw[if_pos (by simpa using hi),aw hi,Z0,bB,aI (by simp only[Z7];omega),Z0,rJ W,Z0,aI (by simp only[Z2,Z7];omega),Z0,aP (by omega),mZ hi];have:(bg l)[i].fMany%256=(bg l)[i].fMany:=by omega
  rw[this];simp
 ·dsimp only
  unfold qr va;rw[if_neg (by simp),Z6];rfl
def zig (d:Int):Nat:=if d<0 then (-2*d - 1).toNat else (2*d).toNat
def eU (z:Nat):List Int:=if h:z<128 then [(z:Int)] else ((z%128+128:Nat):Int)::eU (z/128)
termination_by z
theorem qN {z:Nat}(h:z<128):eU z=[(z:Int)]:=by rw[eU,dif_pos h]
theorem th {z:Nat}(h: ¬ z<128):eU z=((z%128+128:Nat):Int)::eU (z/128):=by rw[eU,dif_neg h]
theorem CB:∀(k z:Nat),z<128^(k+1)->(eU z).length<=k+1
 |0,z,h=>by rw[qN (by simpa using h)];simp
 | k+1,z,h=>by
  by_cases hz:z<128
  ·rw[qN hz];simp
  ·rw[th hz]
   have:z/128<128^(k+1):=by rw[Xv (by decide)];rw[Nat.pow_succ] at h;exact h
   have:=CB k _ this;simp;omega
theorem mu {z:Nat}(h:z<18446744073709551616):(eU z).length<=10:=CB 9 z (Zz h (by decide))
theorem Iu (z:Nat):Byt (eU z):=by
 induction z using X6 with
 |_ z ih=>
  by_cases hz:z<128
  ·rw[qN hz];exact .cons (by omega) .nil
  ·rw[th hz];exact .cons (by omega) (ih _ (by omega))
theorem ma {d:Int}(h:cC d):zig d<18446744073709551616:=by
 unfold zig cC at*;split<;>omega
def gK (l:List Int)(i:Nat):List Int:=eU (zig (Zb.wrap (l.getD (i+1) 0 - l.getD i 0)))
def kq (l:List Int):List Int:=be8 (l.getD 0 0%18446744073709551616)++(Zv (l.length - 1)).flatMap (gK l)
theorem SS:∀n:_root_.Fin 256,n.val|||128=n.val%128+128:=by decide+kernel
theorem FE (x:Nat):∀(z:Nat) (J:List Int),z<18446744073709551616->J.length+(eU z).length<=140737488355328->x<1000->
  am (λs:(List Int×Int)=>j7 (x:Int) s.1 s.2) (J,(z:Int))=some (.inl (J++eU z,((x+1:Nat):Int))):=by
 intro z
 induction z using X6 with
 | _ z ih=>
  intro J hz W hx
  by_cases h:z<128
  ·rw[qN h] at W ⊢
   apply aR;dsimp only;unfold j7 tT tS;rw[if_neg (by simp;omega),bB,aI (by simpa using W),Z0,aP (by omega)];have:(z:Int)%256=z:=by omega
   rw[this];rfl
  ·rw[th h] at W ⊢
   simp only[Z9] at W
   have e:j7 (x:Int) J (z:Int)=some (.inl (J++[((z%128+128:Nat):Int)],((z/128:Nat):Int))):=by
    unfold j7
    have h1:bOr .u8 ((z:Int)%256) 128=((z%128+128:Nat):Int):=by
     have Z:=SS ⟨z%256,by omega⟩;simp only at Z;rw[show((z:Int)%256)=((z%256:Nat):Int) by omega,show(128:Int)=((128:Nat):Int) from rfl,or8 (by omega) (by omega),Z];congr 1;omega
    have h3:aX .u64 (z:Int) 7=((z/128:Nat):Int):=by have:=rh (x:=(z:Int)) (k:=7) (by omega);simpa using this
    rw[if_pos (by simp;omega),bB,h1,h3,aI (by simp;omega),Z0]
   rw[bJ (by dsimp only;exact e),ih (z/128) (by omega) _ (by omega) (by simp;omega) hx];simp
theorem KH {a:Nat}(W:a<18446744073709551616):dS .u64 (a:Int) 18446744073709551615=18446744073709551615 - (a:Int):=by
 unfold dS;rw[aT];show(((Zh 64 (a:Int)^^^Zh 64 18446744073709551615).toNat:Nat):Int)%18446744073709551616=_;have h:(Zh 64 (a:Int)).toNat=a:=by rw[Zx];omega
 have J:Zh 64 18446744073709551615=BitVec.allOnes 64:=by decide
 rw[J,BitVec.xor_allOnes,BitVec.toNat_not,h];have:(2:Nat)^64=18446744073709551616:=by decide
 omega
theorem xor_zero {a:Nat}(W:a<18446744073709551616):dS .u64 (a:Int) 0=(a:Int):=by
 unfold dS;rw[aT];show(((Zh 64 (a:Int)^^^Zh 64 0).toNat:Nat):Int)%18446744073709551616=_;have h:(Zh 64 (a:Int)).toNat=a:=by rw[Zx];omega
 have J:Zh 64 0=0#64:=by decide
 rw[J,BitVec.xor_zero,h];omega
theorem Om {d:Int}(h:cC d):dS .u64 (dZ .u64 (Zt.wrap d) 1) (Zt.wrap (aX .i64 d 63))=(zig d:Int):=by
 have J:aX .i64 d 63=if d<0 then -1 else 0:=by
  unfold aX cC at*;rw[Xf _ (V8 (Int.pow_pos (by decide)))];have:(2:Int)^(min (63:Int).toNat Zb.bits)=9223372036854775808:=by decide
  rw[this];split<;>omega
 have W:dZ .u64 (Zt.wrap d) 1=(2*d)%18446744073709551616:=by
  have:=yC (x:=Zt.wrap d) (k:=1) (by omega);rw[show((1:Nat):Int)=1 from rfl] at this;rw[this,aT];omega
 rw[J,W,aT];unfold zig cC at*;split
 ·have e:((2*d)%18446744073709551616)=((2*d+18446744073709551616).toNat:Int):=by omega
  rw[show((-1:Int)%18446744073709551616)=18446744073709551615 from by decide,e,KH (by omega)];omega
 ·have e:((2*d)%18446744073709551616)=((2*d).toNat:Int):=by omega
  rw[show((0:Int)%18446744073709551616)=0 from by decide,e,xor_zero (by omega)]
theorem AJ {l:List Int}(W:0<l.length)(hl:l.length<=64):mR l=some (kq l):=by
 unfold mR;have a1:idx l 0=some l[0]:=aw (i:=0) W;have Z:=cP (xs:=l) (lo:=1) (hi:=l.length) (by omega) (Zy _);rw[show((1:Nat):Int)=1 from rfl] at Z;rw[a1,Z0,aT,ua,Z0,Z,Z0,Z6];have h:(l.drop 1).length=l.length - 1:=by simp
 have a0:l.getD 0 0=l[0]:=by rw[X9,Z4 W];rfl
 refine aW (λi=>(be8 (l[0]%18446744073709551616)++(Zv i).flatMap (gK l),(i:Int))) (l.length - 1) (by simp) (λi hi=>?_) ?_
 ·dsimp only
  unfold pM;rw[h,if_pos (by simpa using hi),aw (by rw[h];exact hi),Z0,aw (by omega),Z0];have J:=gQ ((l.drop 1)[i]'(by rw[h];exact hi) - l[i]'(by omega));have hb:=pF (Zv i) (gK l) 10 λx hx=>mu (ma (gQ _));have a2:=mu (ma J);simp only[Xy] at hb
  have e:gK l i=eU (zig (Zb.wrap ((l.drop 1)[i]'(by rw[h];exact hi) - l[i]'(by omega)))):=by
   unfold gK;rw[X9,X9,Z4 (show i+1<l.length by omega),Z4 (show i<l.length by omega)];simp only[Xs,List.getElem_drop];congr 5;omega
  rw[Om J,FE i _ _ (ma J) (by simp only[Z2,bA];omega) (by omega),V5,Xp,←e];simp
 ·dsimp only
  unfold pM tR;rw[h,if_neg (by simp)];unfold kq;rw[a0];rfl
theorem AK (x:Nat):∀(z:Nat) (J:List Int),z<18446744073709551616->J.length+(eU z).length<=140737488355328->x<1000->
  am (λs:(List Int×Int)=>oG (x:Int) s.1 s.2) (J,(z:Int))=some (.inl (J++eU z,((x+1:Nat):Int))):=by
 intro z
 induction z using X6 with
 | _ z ih=>
  intro J hz W Z
  by_cases h:z<128
  ·rw[qN h] at W ⊢
   apply aR;dsimp only;unfold oG yR yQ;rw[if_neg (by simp;omega),bB,aI (by simpa using W),Z0,aP (by omega)];have:(z:Int)%256=z:=by omega
   rw[this];rfl
  ·rw[th h] at W ⊢
   simp only[Z9] at W
   have e:oG (x:Int) J (z:Int)=some (.inl (J++[((z%128+128:Nat):Int)],((z/128:Nat):Int))):=by
    unfold oG;rw[if_pos (by simp;omega),bB,aT,aT,aI (by simp;omega),Z0,X7 (by omega),Xg (by omega)];congr 4
    ·congr 1;omega
    ·omega
   rw[bJ (by dsimp only;exact e),ih (z/128) (by omega) _ (by omega) (by simp;omega) Z];simp
theorem vj {O:Type}{l:List O}{i:Nat}{d:O}(h:i<l.length):l.getD i d=l[i]:=by
 rw[X9,Z4 h];rfl
theorem EA {l:List Ap}(W:0<l.length)(hl:l.length<=64):vM l=some (kq (l.map (·.fInt))):=by
 unfold vM;have a0:idx l 0=some l[0]:=aw (i:=0) W;rw[a0,Z0,aT,xI,Z0];have J:∀i (h:i<l.length),(l.map (·.fInt)).getD i 0=l[i].fInt:=λi h=>by rw[vj (by simpa using h)];simp
 refine aW (λi=>(be8 (l[0].fInt%18446744073709551616)++(Zv i).flatMap (gK (l.map (·.fInt))),((i+1:Nat):Int))) (l.length - 1) (by simp) (λi hi=>?_) ?_
 ·dsimp only
  unfold uz uy;have e1:Zb.wrap (((i+1:Nat):Int) - 1)=(i:Int):=by rw[ai (by omega)];omega
  rw[if_pos (by simpa using by omega),aw (by omega),Z0,e1,aw (by omega),Z0];have Z:=gQ (l[i+1].fInt - l[i].fInt);have hb:=pF (Zv i) (gK (l.map (·.fInt))) 10 λx hx=>mu (ma (gQ _));have a1:=mu (ma Z);simp only[Xy] at hb
  have e:gK (l.map (·.fInt)) i=eU (zig (Zb.wrap (l[i+1].fInt - l[i].fInt))):=by
   unfold gK;rw[J _ (by omega),J _ (by omega)]
  have key:=AK (i+1) (zig (Zb.wrap (l[i+1].fInt - l[i].fInt))) (be8 (l[0].fInt%18446744073709551616)++(Zv i).flatMap (gK (l.map (·.fInt)))) (ma Z) (by simp only[Z2,bA];omega) (by omega)
  have hz:(if decide (Zb.wrap (l[i+1].fInt - l[i].fInt)<0)=true then (Zt.wrap (Zb.wrap ((Zb.wrap ((-2)*(Zb.wrap (l[i+1].fInt - l[i].fInt)))) - 1))) else (Zt.wrap (Zb.wrap (2*(Zb.wrap (l[i+1].fInt - l[i].fInt))))))=((zig (Zb.wrap (l[i+1].fInt - l[i].fInt)):Nat):Int):=by
   generalize Zb.wrap (l[i+1].fInt - l[i].fInt)=d at*;simp only[decide_eq_true_eq];unfold zig cC at*;split
   ·rw[aT,dX,dX];omega
   ·rw[aT,dX];omega
  rw[V5,Xp,Yq,e,←Ze,←key,←hz];split<;>rfl
 ·dsimp only
  unfold uz yP;rw[if_neg (by simp;omega)];unfold kq;rw[J 0 W];simp
def dY (w:List Ap)(v:Ap):Nat:=w.findIdx λx=>decide (v=x)
def kr (l:List Ap):List Int:=((aD l).length:Int)::((aD l).flatMap a8++bX (l.map λv=>(dY (aD l) v:Int)) (wid ((aD l).length - 1)))
theorem KJ {w:List Ap}{v:Ap}(Z:w.length<1048576)(h:v∈w):iA w v=some (dY w v:Int):=by
 unfold iA;have:=Cw (f:=λs:Int=>fG w v s) w (λx=>decide (v=x)) (λi=>(i:Int)) (-1) (λi hi J=>?_) (λi hi J=>?_) ?_
 ·rw[this]
  have W:w.any (λx=>decide (v=x))=true:=List.any_eq_true.2 ⟨v,h,by simp⟩;rw[W];rfl
 ·unfold fG
  rw[if_pos (by simpa using hi),aw hi,Z0,J,if_neg (by decide),aP (by omega)]
 ·unfold fG
  rw[if_pos (by simpa using hi),aw hi,Z0,J,if_pos rfl];rfl
 ·unfold fG pD
  rw[if_neg (by simp)];rfl
theorem lP {w:List Ap}{v:Ap}(h:v∈w):dY w v<w.length:=List.findIdx_lt_length_of_exists ⟨v,h,by simp⟩
theorem wj {w:List Ap}{v:Ap}(h:v∈w):w[dY w v]'(lP h)=v:=by
 have:=List.findIdx_getElem (p:=λx=>decide (v=x)) (xs:=w) (w:=lP h);simp only[decide_eq_true_eq] at this;exact this.symm
theorem AL {l w:List Ap}(h:∀v∈l,v∈w)(Z:w.length<1048576):U64 (l.map λv=>(dY w v:Int)):=λx W=>by
 obtain⟨v,J,rfl⟩:=Xc.1 W;have:=lP (h v J);omega
theorem BL {l:List Ap}(h:∀v∈l,Rgt v)(hl:l.length<=64)(a3:l≠[]):oD l=some (kr l):=by
 obtain⟨r,a5,a1⟩:=AH h (by omega);obtain⟨h3,W,h5⟩:=da h;have Z:∀v∈aD l,Rgt v:=λv J=>h v ((W v).1 J);unfold oD iW;rw[aI (by simp;omega),Z0,Z0,Zi,a5,Z0,a1,Z0,bB,show((aD l).length:Int)%256=(aD l).length by omega];have a9:=jA Z;refine aW (λi=>(((aD l).length:Int)::((aD l).take i).flatMap a8,(i:Int))) (aD l).length (by simp) (λi hi=>?_) ?_
 ·dsimp only
  unfold kX;have h1:=jA (l:=(aD l).take i) λv J=>Z v (Zj J);have h2:=(ek (Z _ (Z3 hi))).2;simp only[Zk] at h1;rw[if_pos (by simpa using hi),aw hi,Z0,rJ (Z _ (Z3 hi)),Z0,aI (by simp only[Z9];omega),Z0,aP (by omega),mZ hi]
  rfl
 ·dsimp only
  unfold kX;rw[if_neg (by simp),Z6];unfold nE
  have:am (λs:(List Int×Int)=>jj l (aD l) (((aD l).length:Int)::(aD l).flatMap a8) s.1 s.2) ([],0)=some (kr l):=by
   refine aW (λi=>((l.take i).map λv=>(dY (aD l) v:Int),(i:Int))) l.length (by simp) (λi hi=>?_) ?_
   ·dsimp only
    unfold jj;have hm:=(W l[i]).2 (Z3 hi);have hp:=lP hm;rw[if_pos (by simpa using hi),aw hi,Z0,KJ (by omega) hm,Z0,aT,aI (by simp;omega),Z0,aP (by omega),Z1 hi];have:((dY (aD l) l[i]:Nat):Int)%18446744073709551616=(dY (aD l) l[i]:Nat):=by omega
    rw[this,Xm,Yw,V6]
   ·dsimp only
    unfold jj nD;rw[if_neg (by simp),Z6]
    by_cases h0:(aD l).length=0
    ·have a2:aD l=[]:=Z8 h0
     have a4:l=[]:=by
      cases l with
      |nil=>rfl
      |cons a t=>have:=(W a).2 (by simp);rw[a2] at this;cases this
     subst a4;exfalso;exact absurd rfl a3
    have e1:Zt.wrap (Zb.wrap (((aD l).length:Int) - 1))=(((aD l).length - 1:Nat):Int):=by rw[ai (by omega),aT];omega
    have a0:wid ((aD l).length - 1)<=64:=oR (Zz (show(aD l).length - 1<64 by omega) (by decide))
    have a6:(bX (l.map λv=>(dY (aD l) v:Int)) (wid ((aD l).length - 1))).length<=64*64:=by
     unfold bX;rw[eP,Zo];have:=Zw hl a0;omega
    rw[e1,len_eq (by omega),Z0,Cx (AL (λv J=>(W v).2 J) (by omega)) (by simp;omega) a0,Z0,aI (by simp only[Z9];omega)]
    rfl
  rw[this];rfl
theorem CC {w:List Ap}{v:Ap}(J:w.Nodup)(h:v∈w){k:Nat}(W:k<w.length):w[k]=v↔k=dY w v:=by
 constructor
 ·intro e
  rw[←wj h] at e;exact(List.getElem_inj J).1 e
 ·rintro rfl;exact wj h
theorem FF {l:List Ap}(h:∀v∈l,Rgt v)(hl:l.length<=64)(a2:l≠[]):yz l=some (kr l):=by
 obtain⟨h3,h4,h5⟩:=da h;have a0:∀v∈aD l,Rgt v:=λv J=>h v ((h4 v).1 J);unfold yz;rw[Ez h (by omega),Z0,bB,show((aD l).length:Int)%256=(aD l).length by omega];have a5:=jA a0;refine aW (λi=>(((aD l).length:Int)::((aD l).take i).flatMap a8,(i:Int))) (aD l).length (by simp) (λi hi=>?_) ?_
 ·dsimp only
  unfold vQ;have h1:=jA (l:=(aD l).take i) λv J=>a0 v (Zj J);have h2:=(ek (a0 _ (Z3 hi))).2;simp only[Zk] at h1;rw[if_pos (by simpa using hi),aw hi,Z0,wd (a0 _ (Z3 hi)),Z0,aI (by simp only[Z9];omega),Z0,aP (by omega),mZ hi]
  rfl
 ·dsimp only
  unfold vQ;rw[if_neg (by simp),Z6];unfold Au
  have:am (λs:(List Int×Int)=>rU l (aD l) (((aD l).length:Int)::(aD l).flatMap a8) s.1 s.2) ([],0)=some (kr l):=by
   refine aW (λi=>((l.take i).map λv=>(dY (aD l) v:Int),(i:Int))) l.length (by simp) (λi hi=>?_) ?_
   ·dsimp only
    unfold rU;have hm:=(h4 l[i]).2 (Z3 hi);have hp:=lP hm;rw[if_pos (by simpa using hi)];refine aW (λk=>(((l.take i).map λv=>(dY (aD l) v:Int))++if dY (aD l) l[i]<k then [(dY (aD l) l[i]:Int)] else [],(k:Int))) (aD l).length (by simp) (λk Z=>?_) ?_
    ·dsimp only
     unfold vP vO;rw[if_pos (by simpa using Z),aw Z,Z0,aw hi,Z0,aP (by omega)]
     by_cases e:k=dY (aD l) l[i]
     ·have W:=(CC h3.nodup hm Z).2 e
      rw[if_pos (by simpa using W),if_neg (by omega),Zp,aT,aI (by simp;omega),Z0,if_pos (by omega)];have:(k:Int)%18446744073709551616=(dY (aD l) l[i]:Nat):=by omega
      rw[this]
     ·have W: ¬ (aD l)[k]=l[i]:=λh=>e ((CC h3.nodup hm Z).1 h)
      rw[if_neg (by simpa using W)];have e2:(dY (aD l) l[i]<k+1)=(dY (aD l) l[i]<k):=by apply propext;omega
      simp only[e2]
    ·dsimp only
     unfold vP Ar;rw[if_neg (by simp),if_pos hp,aP (by omega),Z1 hi,Xm,Yw,V6];rfl
   ·dsimp only
    unfold rU Aq;rw[if_neg (by simp),Z6]
    have h0:(aD l).length≠0:=λh0=>by
     have a3:aD l=[]:=Z8 h0;cases l with
     |nil=>exact a2 rfl
     |cons a t=>have:=(h4 a).2 (by simp);rw[a3] at this;cases this
    have W:Zt.wrap (Zb.wrap (((aD l).length:Int) - 1))=(((aD l).length - 1:Nat):Int):=by rw[ai (by omega),aT];omega
    have a1:wid ((aD l).length - 1)<=64:=oR (Zz (show(aD l).length - 1<64 by omega) (by decide))
    have a4:(bX (l.map λv=>(dY (aD l) v:Int)) (wid ((aD l).length - 1))).length<=64*64:=by
     unfold bX;rw[eP,Zo];have:=Zw hl a1;omega
    rw[W,zG (by omega),Z0,wP (AL (λv J=>(h4 v).2 J) (by omega)) (by simp;omega) a1,Z0,aI (by simp only[Z9];omega)]
    rfl
  rw[this];rfl
def ia:List Int->Int
 |[]=>0
 |a::r=>r.foldl (λm x=>if x<m then x else m) a
theorem CD (r:List Int):∀a:Int,r.foldl (λm x=>if x<m then x else m) a<=a/\(∀x∈r,r.foldl (λm x=>if x<m then x else m) a<=x)/\(r.foldl (λm x=>if x<m then x else m) a=a\/r.foldl (λm x=>if x<m then x else m) a∈r):=by
 induction r with
 |nil=>intro a;simp
 | cons b r ih=>
  intro a;simp only[Zu];obtain⟨h1,Z,h⟩:=ih (if b<a then b else a);have W:(if b<a then b else a)<=a/\(if b<a then b else a)<=b/\((if b<a then b else a)=a\/(if b<a then b else a)=b):=by split<;>omega
  refine⟨by omega,λx J=>?_,?_⟩
  ·rcases X5.1 J with rfl|J
   ·omega
   ·exact Z x J
  ·rcases h with h|h
   ·rcases W.2.2 with h4|h4
    ·left;omega
    ·right;rw[h,h4];simp
   ·right;simp[h]
theorem BM {l:List Int}{x:Int}(h:x∈l):ia l<=x:=by
 cases l with
 |nil=>cases h
 |cons a r=>
  obtain⟨J,W,_⟩:=CD r a;rcases X5.1 h with rfl|h
  ·exact J
  ·exact W x h
theorem zH {l:List Int}(h:l≠[]):ia l∈l:=by
 cases l with
 |nil=>exact absurd rfl h
 |cons a r=>
  obtain⟨_,_,J⟩:=CD r a;rcases J with J|J
  ·show r.foldl _ a∈_;rw[J];simp
  ·exact List.mem_cons_of_mem _ J
def cm (l:List Int):Nat:=l.foldl (λw x=>max w (wid x.toNat)) 0
theorem uN {l:List Int}{i:Nat}(h:i<l.length):cm (l.take (i+1))=max (cm (l.take i)) (wid l[i].toNat):=i6 h
theorem kI {l:List Int}(h:U64 l):cm l<=64/\∀x∈l,wid x.toNat<=cm l:=by
 have key:∀i,i<=l.length->cm (l.take i)<=64/\∀x∈l.take i,wid x.toNat<=cm (l.take i):=by
  intro i
  induction i with
  |zero=>intro _;simp[cm]
  | succ i ih=>
   intro hi;obtain⟨h1,Z⟩:=ih (by omega);have W:i<l.length:=by omega
   have J:=h l[i] (Z3 W);have hw:wid l[i].toNat<=64:=oR (by rw[show(2:Nat)^64=18446744073709551616 by decide];omega);rw[uN W];refine⟨by omega,λx J=>?_⟩;rw[Z1 W] at J;rcases Zf.1 J with J|J
   ·have:=Z x J;omega
   ·have:x=l[i]:=by simpa using J
    subst this;omega
 have:=key l.length (Zy _);rwa[Z6] at this
def aQ (l:List Int):List Int:=l.map λx=>x - ia l
def mb (l:List Int):List Int:=be8 (ia l%18446744073709551616)++[(cm (aQ l):Int)]++bX (aQ l) (cm (aQ l))
theorem ng {l:List Int}(h:∀x∈l,cC x):U64 (aQ l):=λx Z=>by
 obtain⟨y,J,rfl⟩:=Xc.1 Z;have h1:=BM J;have W:=h y J;have h3:=h (ia l) (zH (List.ne_nil_of_mem J));unfold cC at W h3;omega
theorem EB {x m:Int}(W:cC x)(J:cC m)(h:m<=x):Zt.wrap ((Zt.wrap x) - (Zt.wrap m))=x - m:=by
 rw[aT,aT,aT];unfold cC at*;omega
theorem On {l:List Int}(h:0<l.length)(J:l.length<=1048576):lz l=some (ia l):=by
 cases l with
 |nil=>simp at h
 | cons a r=>
  unfold lz qk;rw[if_neg (by simp;omega),cu,Z0];refine aW (λi=>((r.take i).foldl (λm x=>if x<m then x else m) a,((i+1:Nat):Int))) r.length (by simp) (λi hi=>?_) ?_
  ·dsimp only
   unfold mw;rw[if_pos (by simpa using hi),aw (by simpa using hi),Z0,aP (by simp at J;omega),i6 hi]
   rfl
  ·dsimp only
   unfold mw qj;rw[if_neg (by simp),Z6];rfl
theorem Iv (a b:Nat):(if (a:Int)<(b:Int) then (b:Int) else (a:Int))=((max a b:Nat):Int):=by split<;>omega
theorem AM {l:List Int}(h:∀x∈l,cC x)(Z:0<l.length)(hl:l.length<=64):mS l=some (mb l):=by
 have a3:l≠[]:=λe=>by subst e;simp at Z
 have hm:=h _ (zH a3);have J:=ng h;obtain⟨W,a5⟩:=kI J;have a2:(aQ l).length=l.length:=by simp[aQ]
 unfold mS;rw[On Z (by omega),Z0];refine aW (λi=>((aQ l).take i,((cm ((aQ l).take i):Nat):Int),(i:Int))) l.length (by simp[cm]) (λi hi=>?_) ?_
 ·dsimp only
  unfold pO;have a0:=Z3 hi;have a1:(aQ l)[i]'(by omega)=l[i] - ia l:=by simp[aQ]
  have a4:=J _ (Z3 (show i<(aQ l).length by omega));rw[a1] at a4;have e2:=Ey (n:=(l[i] - ia l).toNat) (by omega);rw[show(((l[i] - ia l).toNat:Nat):Int)=l[i] - ia l by omega] at e2;rw[if_pos (by simpa using hi),aw hi,Z0,EB (h _ a0) hm (BM a0),aI (by simp;omega),Z0,e2,Z0,aP (by omega),Iv,uN (by omega),Z1 (by omega),a1]
 ·dsimp only
  unfold pO tU
  have a6:(bX (aQ l) (cm (aQ l))).length<=64*64:=by
   unfold bX;rw[eP,a2];have:=Zw hl W;omega
  rw[if_neg (by simp),←a2,Z6,aT,ua,Z0,bB,aI (by simp[bA]),Z0,Cx J (by omega) W,Z0,aI (by simp only[Z2,bA,Z7];omega)];have:((cm (aQ l):Nat):Int)%256=(cm (aQ l):Nat):=by omega
  rw[this];rfl
theorem EC {l:List Ap}(h:∀v∈l,cC v.fInt)(W:0<l.length)(hl:l.length<=64):vR l=some (mb (l.map (·.fInt))):=by
 have h':∀x∈l.map (·.fInt),cC x:=λx hx=>by obtain⟨v,hv,rfl⟩:=Xc.1 hx;exact h v hv
 have a3:l.map (·.fInt)≠[]:=λe=>by rw[List.map_eq_nil_iff] at e;subst e;simp at W
 have hm:=h' _ (zH a3);have J:=ng h';obtain⟨Z,a9⟩:=kI J;have a2:(aQ (l.map (·.fInt))).length=l.length:=by simp[aQ]
 unfold vR;have a6:idx l 0=some l[0]:=aw (i:=0) W;rw[a6,Z0]
 have a4:ia (l.map (·.fInt))=l.foldl (λm x=>if x.fInt<m then x.fInt else m) l[0].fInt:=by
  cases l with
  |nil=>simp at W
  |cons a r=>simp[ia,List.foldl_map]
 refine aW (λi=>((l.take i).foldl (λm x=>if x.fInt<m then x.fInt else m) l[0].fInt,(i:Int))) l.length (by simp) (λi hi=>?_) ?_
 ·dsimp only
  unfold uH;rw[if_pos (by simpa using hi),aw hi,Z0,aP (by omega),i6 hi]
 ·dsimp only
  unfold uH yX;rw[if_neg (by simp),Z6,←a4]
  have:am (λs:(List Int×Int×Int)=>q9 l (ia (l.map (·.fInt))) s.1 s.2.1 s.2.2) ([],0,0)=some (mb (l.map (·.fInt))):=by
   refine aW (λi=>((aQ (l.map (·.fInt))).take i,((cm ((aQ (l.map (·.fInt))).take i):Nat):Int),(i:Int))) l.length (by simp[cm]) (λi hi=>?_) ?_
   ·dsimp only
    unfold q9;have a0:=Z3 hi;have a1:(aQ (l.map (·.fInt)))[i]'(by omega)=l[i].fInt - ia (l.map (·.fInt)):=by simp[aQ]
    have a5:=J _ (Z3 (show i<(aQ (l.map (·.fInt))).length by omega));rw[a1] at a5;have e2:=zG (n:=(l[i].fInt - ia (l.map (·.fInt))).toNat) (by omega);rw[show(((l[i].fInt - ia (l.map (·.fInt))).toNat:Nat):Int)=l[i].fInt - ia (l.map (·.fInt)) by omega] at e2;rw[if_pos (by simpa using hi),aw hi,Z0,EB (h _ a0) hm (BM (List.mem_map_of_mem a0)),aI (by simp;omega),Z0,e2,Z0,aP (by omega),Iv,uN (by omega),Z1 (by omega),a1]
   ·dsimp only
    unfold q9 yW
    have b0:(bX (aQ (l.map (·.fInt))) (cm (aQ (l.map (·.fInt))))).length<=64*64:=by
     unfold bX;rw[eP,a2];have:=Zw hl Z;omega
    rw[if_neg (by simp),←a2,Z6,aT,xI,Z0,bB,aI (by simp[bA]),Z0,wP J (by omega) Z,Z0,aI (by simp only[Z2,bA,Z7];omega)];have:((cm (aQ (l.map (·.fInt))):Nat):Int)%256=(cm (aQ (l.map (·.fInt))):Nat):=by omega
    rw[this];rfl
  rw[this];rfl
def nh (l:List Ap):List Int:=l.flatMap a8
def qO (kind:Int)(l:List Ap):List Int:=
 if kind=1 then wh l else if kind=2 then kq (l.map (·.fInt)) else if kind=3 then kr l else if kind=4 then mb (l.map (·.fInt)) else nh l
def gR (l:List Ap):Bool:=l.all λv=>v.fKind==2
def enc (kind:Int)(l:List Ap):List Int×Int:=
 if kind<0\/4<kind then ([],62) else if 64<l.length then ([],61) else if l.all right=false then ([],60) else
 if (kind=2\/kind=4)/\gR l=false then ([],62) else if l=[] then ([],0) else (qO kind l,0)
theorem MU {l:List Ap}(J:l.length<=1048576):oA l=some (if gR l then (l.map (·.fInt),true) else ([],false)):=by
 unfold oA gR;refine Ir (λi=>((l.take i).map (·.fInt),(i:Int))) l (λv=>v.fKind==2) _ _ (by simp) (λi hi h=>?_) (λi hi h=>?_) ?_
 ·dsimp only
  unfold nz;rw[if_pos (by simpa using hi),aw hi,Z0,if_neg (by simpa using h),aI (by simp;omega),Z0,aP (by omega),Z1 hi,Xm,Yw,V6]
 ·dsimp only
  unfold nz;rw[if_pos (by simpa using hi),aw hi,Z0,if_pos (by simpa using h)];rfl
 ·dsimp only
  unfold nz u7;rw[if_neg (by simp),Z6];rfl
theorem FG {l:List Ap}(J:l.length<=1048576):et l fd=some (!l.all right):=by
 unfold et kB;have:=Cw (f:=λs:Int=>eo l fd s) l (λv=> !right v) (λi=>(i:Int)) (-1) (λi hi h=>?_) (λi hi h=>?_) ?_
 ·rw[this,Z0]
  have e:l.any (λv=> !right v)= !l.all right:=by simp[List.any_eq_not_all_not]
  rw[e];cases l.all right<;>simp
 ·unfold eo fd
  rw[if_pos (by simpa using hi),aw hi,Z0,jl,Z0,Z0,h,if_neg (by decide),aP (by omega)]
 ·unfold eo fd
  rw[if_pos (by simpa using hi),aw hi,Z0,jl,Z0,Z0,h,if_pos rfl];rfl
 ·unfold eo mD
  rw[if_neg (by simp)];rfl
theorem sC {l:List Ap}(h:∀v∈l,VOK v)(W:l.all right=true):∀v∈l,Rgt v:=λv J=>Rgt.of (h v J) (Yu.1 W v J)
theorem uh {l:List Ap}(kind:Int)(h:∀v∈l,VOK v)(hl:l.length<=1048576):fu kind l=some (enc kind l):=by
 unfold fu enc
 have hj:∀b,gV kind l b=some (if b=true then ([],62) else if 64<l.length then ([],61) else if l.all right=false then ([],60) else if (kind=2\/kind=4)/\gR l=false then ([],62) else if l=[] then ([],0) else (qO kind l,0)):=by
  intro b;unfold gV;cases b
  ·simp only[Zc,if_false]
   by_cases h1:64<l.length
   ·rw[if_pos (decide_eq_true (by omega)),if_pos h1]
   rw[if_neg (by simp;omega),if_neg h1,FG hl,Z0];cases hr:l.all right
   ·rfl
   rw[if_neg (by decide),if_neg (by decide),MU hl,Z0];have W:=sC h hr
   have a1:∀J:List Int×Bool,(kind=2\/kind=4->J.1=l.map (·.fInt))->eJ kind l J false=some (if l=[] then ([],0) else (qO kind l,0)):=by
    intro J a0;unfold eJ;rw[if_neg (by decide)]
    by_cases h0:l=[]
    ·subst h0;rfl
    have a3:0<l.length:=Xa.2 h0;rw[if_neg (by simpa using h0),if_neg h0];unfold qO
    by_cases k1:kind=1
    ·rw[if_pos (by simpa using k1),BJ W (by omega),if_pos k1];rfl
    rw[if_neg (by simpa using k1),if_neg k1]
    by_cases k2:kind=2
    ·rw[if_pos (by simpa using k2),a0 (.inl k2),AJ (by simpa using a3) (by simp;omega),if_pos k2];rfl
    rw[if_neg (by simpa using k2),if_neg k2]
    by_cases k3:kind=3
    ·rw[if_pos (by simpa using k3),BL W (by omega) h0,if_pos k3];rfl
    rw[if_neg (by simpa using k3),if_neg k3]
    by_cases k4:kind=4
    ·rw[if_pos (by simpa using k4),a0 (.inr k4),AM (λx hx=>by obtain⟨v,Z,rfl⟩:=Xc.1 hx;exact(h v Z).int) (by simpa using a3) (by simp;omega),if_pos k4];rfl
    rw[if_neg (by simpa using k4),if_neg k4];refine aW (λi=>((l.take i).flatMap a8,(i:Int))) l.length (by simp) (λi hi=>?_) ?_
    ·dsimp only
     unfold jp;have h3:=jA (l:=l.take i) λv Z=>W v (Zj Z);have h2:=(ek (W _ (Z3 hi))).2;simp only[Zk] at h3;rw[if_pos (by simpa using hi),aw hi,Z0,rJ (W _ (Z3 hi)),Z0,aI (by omega),Z0,aP (by omega),mZ hi]
    ·dsimp only
     unfold jp lA;rw[if_neg (by simp),Z6];rfl
   have a2:∀J:List Int×Bool,eJ kind l J true=some ([],62):=λJ=>rfl;cases hi:gR l
   ·simp only[Zc,if_false,Yk,if_true,and_true]
    by_cases k2:kind=2
    ·rw[if_pos (by simpa using k2),if_pos (.inl k2),a2]
    by_cases k4:kind=4
    ·have:(kind==4)=true:=by simpa using k4
     rw[if_neg (by simpa using k2),this,if_pos (.inr k4),a2]
    ·have:(kind==4)=false:=by simpa using k4
     rw[if_neg (by simpa using k2),this,if_neg (by omega),a1 _ (by omega)]
   ·simp only[if_true,Yb,Zc,if_false,Bool.true_eq_false,and_false]
    exact a1 _ λ_=>rfl
  ·rfl
 by_cases h0:kind<0
 ·rw[if_pos (by simpa using h0),if_pos (.inl h0),hj];rfl
 rw[if_neg (by simpa using h0),hj]
 by_cases h4:4<kind
 ·rw[if_pos (by simpa using h4),if_pos (show kind<0\/4<kind from .inr h4)]
 ·rw[if_neg (show ¬ (kind<0\/4<kind) by omega),if_neg (by simpa using h4)]
theorem Hh {l:List Ap}(kind:Int)(Z:l.length<=1048576):rS kind l=some (enc kind l).2:=by
 unfold rS enc
 have W:rI kind l=some (if l.all (λv=> !((decide (kind=2)||decide (kind=4))&&v.fKind != 2)) then 0 else 62):=by
  unfold rI;refine vZ l _ _ _ (λi hi h=>?_) (λi hi h=>?_) ?_
  ·unfold oZ lY
   rw[if_pos (by simpa using hi),aw hi,Z0,aP (by omega)]
   by_cases k2:kind=2
   ·subst k2;simp at h;simp[h]
   by_cases k4:kind=4
   ·subst k4;simp at h;simp[h]
   ·simp[k2,k4]
  ·unfold oZ lY
   rw[if_pos (by simpa using hi),aw hi,Z0]
   by_cases k2:kind=2
   ·subst k2;simp at h;simp[h]
   by_cases k4:kind=4
   ·subst k4;simp at h;simp[h]
   ·simp[k2,k4] at h
  ·unfold oZ wJ
   rw[if_neg (by simp)];rfl
 have J:∀b,o4 kind l b=some (if b=true then 62 else if 64<l.length then 61 else if l.all right=false then 60 else if (kind=2\/kind=4)/\gR l=false then 62 else 0):=by
  intro b;unfold o4;cases b
  ·simp only[Zc,if_false]
   by_cases h1:64<l.length
   ·rw[if_pos (decide_eq_true (by omega)),if_pos h1]
   rw[if_neg (by simp;omega),if_neg h1];have:=vZ (f:=λs:Int=>lZ kind l s) l right 60 (if (kind=2\/kind=4)/\gR l=false then 62 else 0) (λi hi h=>?_) (λi hi h=>?_) ?_
   ·rw[this];cases l.all right<;>rfl
   ·unfold lZ
    rw[if_pos (by simpa using hi),aw hi,Z0,qb,Z0,h,if_neg (by decide),aP (by omega)]
   ·unfold lZ
    rw[if_pos (by simpa using hi),aw hi,Z0,qb,Z0,h];rfl
   ·unfold lZ
    rw[if_neg (by simp),W];unfold gR
    by_cases hk:kind=2\/kind=4
    ·have e:(decide (kind=2)||decide (kind=4))=true:=by simpa using hk
     simp only[e,Ya,hk,true_and]
     have e2:(l.all λv=> !(v.fKind != 2))=l.all λv=>v.fKind==2:=by
      congr 1;funext v;cases hv:(v.fKind==2)<;>simp[bne,hv]
     rw[e2];cases l.all λv=>v.fKind==2<;>rfl
    ·have e:(decide (kind=2)||decide (kind=4))=false:=by simpa using hk
     simp[e,hk]
  ·rfl
 by_cases h0:kind<0
 ·rw[if_pos (by simpa using h0),if_pos (.inl h0),J];rfl
 rw[if_neg (by simpa using h0),J]
 by_cases h4:4<kind
 ·rw[if_pos (by simpa using h4),if_pos (show kind<0\/4<kind from .inr h4)]
 ·rw[if_neg (show ¬ (kind<0\/4<kind) by omega),if_neg (by simpa using h4)]
  congr 1
  repeat' split
  all_goals rfl
theorem C0 {l:List Ap}(kind:Int)(h:∀v∈l,VOK v)(hl:l.length<=1048576):tV kind l=some (enc kind l):=by
 unfold tV;rw[Hh kind hl,Z0];unfold sZ
 by_cases he:(enc kind l).2=0
 ·rw [if_neg (by simpa using he)]
  unfold enc at he ⊢;split at he
  ·cases he
  rename_i hk;rw[if_neg hk];split at he
  ·cases he
  rename_i a1;rw[if_neg a1];split at he
  ·cases he
  rename_i W;rw[if_neg W];split at he
  ·cases he
  rename_i hi;rw[if_neg hi];have J:=sC h (by simpa using W)
  by_cases h0:l=[]
  ·subst h0;rfl
  rw[if_neg h0,if_neg (by simpa using h0)];have a0:0<l.length:=Xa.2 h0;unfold qO iC
  by_cases k1:kind=1
  ·rw[if_pos (by simpa using k1),FC _ hl,if_pos k1,Z0]
   obtain⟨h1,h2,_⟩:=kp (l:=l);refine aW (λi=>(((bg l).take i).flatMap λr=>r.fMany::a8 r.fValue,(i:Int))) (bg l).length (by simp) (λi hi=>?_) ?_
   ·dsimp only
    have hm:=h1 _ (Z3 hi);have W:=J _ hm.2.2
    have hb:=pF ((bg l).take i) (λr=>r.fMany::a8 r.fValue) 67 λx hx=>by
     have:=(ek (J _ (h1 x (Zj hx)).2.2)).2;simp;omega
    have a2:=(ek W).2;simp only[Zk] at hb;have hg:((bg l).map mH)[i]'(by simpa using hi)=mH (bg l)[i]:=by simp
    unfold sX;rw[if_pos (by simpa using hi),aw (by simpa using hi),Z0,hg,bB,aI (by simp only[Z7];omega),Z0,Z0];unfold mH;dsimp only;rw[wd W,Z0,aI (by simp only[Z2,Z7];omega),Z0,aP (by omega),mZ hi];have:(bg l)[i].fMany%256=(bg l)[i].fMany:=by omega
    rw[this];simp
   ·dsimp only
    unfold sX iC;rw[if_neg (by simp),Z6];rfl
  rw[if_neg (by simpa using k1),if_neg k1]
  by_cases k2:kind=2
  ·rw[if_pos (by simpa using k2),EA a0 (by omega),if_pos k2];rfl
  rw[if_neg (by simpa using k2),if_neg k2]
  by_cases k3:kind=3
  ·rw[if_pos (by simpa using k3),FF J (by omega) h0,if_pos k3];rfl
  rw[if_neg (by simpa using k3),if_neg k3]
  by_cases k4:kind=4
  ·rw[if_pos (by simpa using k4),EC (λv Z=>(h v Z).int) a0 (by omega),if_pos k4];rfl
  rw[if_neg (by simpa using k4),if_neg k4];refine aW (λi=>((l.take i).flatMap a8,(i:Int))) l.length (by simp) (λi hi=>?_) ?_
  ·dsimp only
   unfold sY;have h3:=jA (l:=l.take i) λv Z=>J v (Zj Z);have h2:=(ek (J _ (Z3 hi))).2;simp only[Zk] at h3;rw[if_pos (by simpa using hi),aw hi,Z0,wd (J _ (Z3 hi)),Z0,aI (by omega),Z0,aP (by omega),mZ hi]
  ·dsimp only
   unfold sY iC;rw[if_neg (by simp),Z6];rfl
 ·rw[if_pos (by simpa using he),if_pos rfl]
  have:(enc kind l).1=[]:=by
   unfold enc at he ⊢
   repeat' split
   all_goals first|rfl|(exfalso;simp_all)
  congr 1;exact W3 this.symm rfl
theorem em {kind:Int}{l:List Ap}{b:List Int}(h:enc kind l=(b,0)):(0<=kind/\kind<=4)/\l.length<=64/\l.all right=true/\((kind=2\/kind=4)->gR l=true)/\((l=[]/\b=[])\/(l≠[]/\b=qO kind l)):=by
 unfold enc at h;split at h
 ·cases h
 rename_i h1;split at h
 ·cases h
 rename_i h2;split at h
 ·cases h
 rename_i h3;split at h
 ·cases h
 rename_i Z;refine⟨by omega,by omega,by simpa using h3,λW=>?_,?_⟩
 ·cases hi:gR l with
  |true=>rfl
  |false=>exact absurd ⟨W,hi⟩ Z
 ·split at h
  ·rename_i J;left;exact⟨J,(Prod.mk.inj h).1.symm⟩
  ·rename_i J;right;exact⟨J,(Prod.mk.inj h).1.symm⟩
def ST (kind:Int)(b:List Int)(many:Nat)(g:List Ap)(ok:Bool):Prop:= ∀l:List Ap,(∀v∈l,Rgt v)->l.length=many->enc kind l=(b,0)->g=l/\ok=true
def kO (kind:Int)(b:List Int)(many:Nat)(x:List Ap×ah):Prop:=(∀v∈x.1,VOK v)/\x.1.length<=1048576/\ST kind b many x.1 x.2.fOk
theorem uO {l:List Ap}{k:Nat}(h:k<l.length):nh (l.drop k)=a8 l[k]++nh (l.drop (k+1)):=by
 unfold nh;rw[Z5 h,Zl]
theorem xP {v:Ap}(h:Rgt v){r:List Int}{ok:Bool}{rest:List Int}(Z:r=a8 v++rest)(W:Byt r)(J:r.length<140737488355328):dD ⟨r,ok⟩=some (v,⟨rest,ok⟩):=by
 rw[Et W J];dsimp only;rw[Z,iE h];dsimp only;rw[Zr]
theorem xQ {r:ah}(J:Byt r.fB)(W:r.fB.length<140737488355328):∃v r',dD r=some (v,r')/\Rgt v/\Byt r'.fB/\r'.fB.length<=r.fB.length/\(r.fOk=false->r'.fOk=false):=by
 rw[Et J W];cases hp:bK r.fB with
 |none=>exact⟨_,_,rfl,.null,J,Zy _,λ_=>rfl⟩
 |some x=>
  obtain⟨v,n⟩:=x;exact⟨_,_,rfl,(gt J hp).1,J.drop _,by simp,λh=>h⟩
theorem FH {b:List Int}{many:Nat}(hb:Byt b)(hl:b.length<140737488355328)(hm:1<=many/\many<=64):∃x,bU ⟨b,true⟩ 0 (many:Int)=some x/\kO 0 b many x:=by
 unfold bU;rw[if_pos (by decide)];refine dR (I:=λs:List Ap×ah=>Byt s.2.fB/\s.2.fB.length<140737488355328/\(∀v∈s.1,Rgt v)/\s.1.length<=many/\∀l:List Ap,(∀v∈l,Rgt v)->l.length=many->b=nh l->s.1=l.take s.1.length/\s.2=⟨nh (l.drop s.1.length),true⟩) (μ:=λs=>many - s.1.length) (Q:=kO 0 b many) ?_ ⟨hb,hl,by simp,by simp,λl _ _ h=>⟨rfl,by rw[h];rfl⟩⟩;rintro ⟨a0,r⟩ ⟨h1,h2,h3,h4,h5⟩;dsimp only at*
 have a1:a0.length=many\/r.fOk=false->kO 0 b many (a0,r):=λh=>⟨λv hv=>(h3 v hv).ok,by dsimp only;omega,λl hr W J=>by
  obtain⟨_,_,_,_,J⟩:=em J
  have a2:b=nh l:=by
   rcases J with⟨e,_⟩|⟨_,e⟩
   ·subst e;simp at W;omega
   ·exact e
  obtain⟨g1,g2⟩:=h5 l hr W a2;subst g2;rcases h with h|h
  ·rw[h,←W,Z6] at g1;exact⟨g1,rfl⟩
  ·cases h⟩
 unfold oI kD ci
 by_cases hlt:a0.length<many
 ·rw [if_pos (decide_eq_true (by omega))]
  cases hok:r.fOk with
  |false=>right;exact⟨_,rfl,a1 (.inr hok)⟩
  | true=>
   left;rw[if_pos rfl];obtain⟨v,r',e1,e2,e3,e4,_⟩:=xQ h1 h2;rw[e1,Z0,aI (by simp;omega),Z0];refine⟨_,rfl,⟨e3,by dsimp only;omega,λx Z=>?_,by simp;omega,λl hr W J=>?_⟩,by simp;omega⟩
   ·rcases Zf.1 Z with Z|Z
    ·exact h3 x Z
    ·have:x=v:=by simpa using Z
     subst this;exact e2
   ·obtain⟨g1,g2⟩:=h5 l hr W J
    subst g2;have hk:a0.length<l.length:=by omega
    have:=xP (hr _ (Z3 hk)) (ok:=true) (uO hk) h1 h2;rw[this] at e1;obtain⟨rfl,rfl⟩:=Prod.mk.inj (Option.some.inj e1);refine⟨?_,by simp⟩;simp only[Z2,Z7];rw[Z1 hk,←g1]
 ·right
  rw[if_neg (by simp;omega),if_neg (by decide)];exact⟨_,rfl,a1 (.inl (by omega))⟩
theorem SU:∀n:_root_.Fin 256,rV 1 ((n.val:Nat):Int)=some (0,((n.val:Nat):Int)):=by decide+kernel
theorem Iw (v:Ap){n:Nat}(hn:n<=255):fg [v] (n:Int)=some (Zd n v):=by
 have hm:rV 1 (n:Int)=some (0,(n:Int)):=SU ⟨n,by omega⟩;have e1:Zt.wrap ((([v]:List Ap).length:Nat):Int)=1:=by rw[aT];rfl
 have e2:Zt.wrap (n:Int)=(n:Int):=by rw[aT];omega
 unfold fg il vT;rw[if_neg (by simp),e1,e2,hm,Z0,Z0];unfold fk ik;dsimp only;rw[if_neg (by simp),if_neg (by simp;omega)];rw[ai (by omega),ue (by omega),Z0];refine mY (I:=λs:Int×List Ap=>∃k:Nat,s.1=(k:Int)/\k<=n/\(0<n->0<k)/\s.2=Zd k v++Zd (n - k) Ap.zero) (μ:=λs=>n - s.1.toNat) ?_ ?_
 ·rintro ⟨_,_⟩ ⟨k,rfl,hk,a0,rfl⟩
  dsimp only;unfold ij ii;have J:(Zd k v++Zd (n - k) Ap.zero).length=n:=by simp;omega
  by_cases hlt:k<n
  ·left
   have a2:vw (Zd k v++Zd (n - k) Ap.zero) (k:Int) ((Zd k v++Zd (n - k) Ap.zero).length:Int)=some (k,n - k):=by
    unfold vw;rw[if_pos (by omega),J];simp
   have W:vw (Zd k v++Zd (n - k) Ap.zero) 0 (k:Int)=some (0,k):=by
    unfold vw;rw[if_pos (by omega)];simp
   have a1:Nat.ble (min k (n - k)) cR=true:=Nat.ble_eq_true_of_le (by unfold cR;omega);rw[if_pos (by rw[J];exact decide_eq_true (by omega)),a2,Z0,W,Z0];dsimp only;rw[s9 a1,Z0]
   have hc:cpv (Zd k v++Zd (n - k) Ap.zero) (k,n - k) (0,k)=some (Zd (k+min k (n - k)) v++Zd (n - (k+min k (n - k))) Ap.zero):=by
    unfold cpv;rw[if_pos (by dsimp only;omega)];dsimp only;unfold spl
    have Z:((Zd k v++Zd (n - k) Ap.zero).drop 0).take (min k (n - k))=Zd (min k (n - k)) v:=by
     rw[X4,List.take_append_of_le_length (by simp;omega)];rw[List.take_replicate];congr 1;omega
    rw[Z,Xe (by simp),Xz,List.drop_append,List.drop_replicate,List.drop_replicate,Xz];have e4:k - (k+min k (n - k))=0:=by omega
    have e5:n - k - (k+min k (n - k) - k)=n - (k+min k (n - k)):=by omega
    rw[e4,e5,←Ze,←List.replicate_append_replicate];simp
   rw[hc,Z0];refine⟨_,rfl,⟨k+min k (n - k),?_,by omega,by omega,rfl⟩,?_⟩
   ·dsimp only;rw[ai (by omega)];omega
   ·dsimp only;rw[ai (by omega)]
    have:=a0 (by omega);omega
  ·right
   have:k=n:=by omega
   subst this;rw[if_neg (by rw[J];simp)];simp
 ·refine⟨min 1 n,by simp,by omega,by omega,?_⟩
  dsimp only;unfold cpy;rcases Nat.eq_zero_or_pos n with h|h
  ·subst h;rfl
  ·have:min 1 n=1:=by omega
   rw[this];have e:n=(n - 1)+1:=by omega
   rw[e,List.replicate_succ];simp
def tk1 (r:ah):List Int×ah:=match r.fB with|[]=>([0],⟨[],false⟩)|c::t=>([c],⟨t,r.fOk⟩)
theorem take_one (r:ah):cU r 1=some (tk1 r):=by
 have:=BE (r:=r) (n:=1) (by omega);rw[show((1:Nat):Int)=1 from rfl] at this;rw[this];obtain⟨b,ok⟩:=r;unfold tk1;cases b with
 |nil=>rfl
 |cons c t=>simp
theorem wk (c:Int)(t:List Int)(ok:Bool):tk1 ⟨c::t,ok⟩=([c],⟨t,ok⟩):=rfl
theorem yF (r:ah)(h:Byt r.fB):∃c r1,tk1 r=([c],r1)/\(0<=c/\c<256)/\Byt r1.fB/\r1.fB.length<=r.fB.length/\(r1.fOk=false\/(r.fB=c::r1.fB/\r1.fOk=r.fOk)):=by
 obtain⟨b,ok⟩:=r;cases b with
 |nil=>exact⟨0,⟨[],false⟩,rfl,by decide,.nil,Zy _,.inl rfl⟩
 |cons c t=>exact⟨c,⟨t,ok⟩,rfl,h.head,h.tail,by simp,.inr ⟨rfl,rfl⟩⟩
def nV (rs:List aS):List Int:=rs.flatMap λr=>r.fMany::a8 r.fValue
theorem ui {rs:List aS}{j:Nat}(h:j<rs.length):fO (rs.take (j+1))=fO (rs.take j)++Zd rs[j].fMany.toNat rs[j].fValue:=by
 unfold fO;rw[Z1 h,Xp,Yq]
theorem tn (rs:List aS)(j:Nat):fO rs=fO (rs.take j)++fO (rs.drop j):=by
 unfold fO;rw[←Xp,Zg]
theorem Hi {b:List Int}{many:Nat}(hb:Byt b)(hl:b.length<140737488355328)(hm:1<=many/\many<=64):∃x,bU ⟨b,true⟩ 1 (many:Int)=some x/\kO 1 b many x:=by
 unfold bU;rw[if_neg (by decide),if_pos (by decide)];refine dR (I:=λs:List Ap×ah=>Byt s.2.fB/\s.2.fB.length<140737488355328/\(∀v∈s.1,Rgt v)/\s.1.length<=many/\∀l:List Ap,(∀v∈l,Rgt v)->l.length=many->b=wh l->∃j,j<=(bg l).length/\s.1=fO ((bg l).take j)/\s.2=⟨nV ((bg l).drop j),true⟩) (μ:=λs=>if s.2.fOk then s.2.fB.length+1 else 0) (Q:=kO 1 b many) ?_ ⟨hb,hl,by simp,by simp,λl _ _ h=>⟨0,by omega,rfl,by rw[h];rfl⟩⟩;rintro ⟨J,r⟩ ⟨h1,h2,h3,h4,h5⟩;dsimp only at*
 have a3:J.length=many\/r.fOk=false->kO 1 b many (J,r):=λh=>⟨λv hv=>(h3 v hv).ok,by dsimp only;omega,λl hr a0 Z=>by
  obtain⟨_,_,_,_,Z⟩:=em Z
  have b4:b=wh l:=by
   rcases Z with⟨e,_⟩|⟨_,e⟩
   ·subst e;simp at a0;omega
   ·exact e
  obtain⟨j,g0,W,g2⟩:=h5 l hr a0 b4;subst g2;rcases h with h|h
  ·refine⟨?_,rfl⟩
   have h6:=tn (bg l) j;rw[kp.2.2,←W] at h6;have h7:=congrArg Y7 h6;simp only[Z2] at h7;have h8:fO ((bg l).drop j)=[]:=Z8 (by omega);rw[h8,Zp] at h6;exact h6.symm
  ·cases h⟩
 unfold oJ kE ci
 by_cases hlt:J.length<many
 ·rw [if_pos (decide_eq_true (by omega))]
  cases hok:r.fOk with
  |false=>right;exact⟨_,rfl,a3 (.inr hok)⟩
  | true=>
   left;rw[if_pos rfl,take_one,Z0];obtain⟨rb,b6⟩:=r;dsimp only at*;subst hok;obtain⟨c,r1,e1,hc,a5,a1,a2⟩:=yF ⟨rb,true⟩ h1;replace a1:r1.fB.length<140737488355328:=by dsimp only at a1;omega
   dsimp only at a2;rw[e1];dsimp only;rw[cu,Z0];obtain⟨v,r',f1,f2,f3,f4,f5⟩:=xQ a5 a1;obtain⟨cn,rfl⟩:=Za hc.1
   have hn:(if (Zb.wrap ((many:Int) - (J.length:Int)))<(Zb.wrap (cn:Int)) then Zb.wrap ((many:Int) - (J.length:Int)) else Zb.wrap (cn:Int))=((min cn (many - J.length):Nat):Int):=by
    rw[ai (by omega),ai (by omega)];split<;>omega
   rw[f1,Z0];dsimp only;rw[hn,Iw v (by omega),Z0,aI (by simp;omega),Z0];refine⟨_,rfl,⟨f3,by dsimp only;omega,λx hx=>?_,by simp;omega,λl hr a0 Z=>?_⟩,?_⟩
   ·rcases Zf.1 hx with hx|hx
    ·exact h3 x hx
    ·have:=(Xu.1 hx).2
     subst this;exact f2
   ·obtain⟨j,g0,W,g2⟩:=h5 l hr a0 Z
    obtain⟨rfl,_⟩:=ah.mk.inj g2;obtain⟨q1,q2,q3⟩:=kp (l:=l)
    have hj:j<(bg l).length:=by
     rcases Xq j (bg l).length with h|h
     ·exact h
     ·rw[Zm h,q3] at W
      rw[W] at hlt;omega
    have hd:nV ((bg l).drop j)=(bg l)[j].fMany::(a8 (bg l)[j].fValue++nV ((bg l).drop (j+1))):=by
     unfold nV;rw[Z5 hj,Zl];rfl
    have b1:=q1 _ (Z3 hj)
    have a9:((cn:Int)::r1.fB=(bg l)[j].fMany::(a8 (bg l)[j].fValue++nV ((bg l).drop (j+1))))/\r1.fOk=true:=by
     rcases a2 with h|⟨h,h'⟩
     ·exfalso
      rw[hd,wk] at e1;rw[←(Prod.mk.inj e1).2] at h;cases h
     ·rw[←hd,←h];exact⟨rfl,h'⟩
    obtain⟨b3,b2⟩:=a9;obtain⟨c0,b0⟩:=List.cons.inj b3;obtain⟨b5,b7⟩:=r1;dsimp only at*;subst b2;have hv:=xP (hr _ b1.2.2) (ok:=true) b0 a5 a1;rw[hv] at f1;obtain⟨rfl,rfl⟩:=Prod.mk.inj (Option.some.inj f1);refine⟨j+1,by omega,?_,by simp⟩;have a6:=ui hj;have a4:=tn (bg l) (j+1);rw[q3,a6,←W] at a4;have:=congrArg Y7 a4;simp only[Z2,Xz] at this;rw[a6,←W];congr 2;omega
   ·dsimp only
    rcases a2 with h|⟨h,h'⟩
    ·rw[if_neg (by rw[f5 h];decide)];simp
    ·have:=congrArg Y7 h
     simp only[Z9] at this;simp only[if_true];split<;>omega
 ·right
  rw[if_neg (by simp;omega),if_neg (by decide)];exact⟨_,rfl,a3 (.inl (by omega))⟩
theorem AN {r:ah}(hb:Byt r.fB):gj r=some (if r.fB.length<8 then (0,⟨[],false⟩) else (bq (r.fB.take 8),⟨r.fB.drop 8,r.fOk⟩)):=by
 have key:∀(t:List Int) (W:ah),Byt t->t.length=8->am (λs:(Int×Int)=>gJ (t,W) s.1 s.2) (0,0)=some (bq t,W):=by
  intro t W Z hl;refine aW (λi=>(bq (t.take i),(i:Int))) 8 (by simp[bq]) (λi hi=>?_) ?_
  ·dsimp only
   unfold gJ;have hi':i<t.length:=by omega
   have a1:=vh (t.take i) (Z.take i);have a2:=Z t[i] (Z3 hi')
   have hp:(256:Int)^(t.take i).length<=256^7:=by
    have:(t.take i).length<=7:=by simp;omega
    have h9:=Xj (show 0<256 by omega) this;have J:=Int.ofNat_le.2 h9;simpa[Xd] using J
   have a0:=yC (x:=bq (t.take i)) (k:=8) (by omega);rw[show((8:Nat):Int)=8 from rfl] at a0
   have e:bq (t.take (i+1))=bq (t.take i)*256+t[i]:=by
    rw[Z1 hi',ri]
   have e1:bq (t.take i)*2^8%18446744073709551616=bq (t.take i)*2^8:=by omega
   have e2:t[i]%18446744073709551616=t[i]:=by omega
   dsimp only;rw[if_pos (decide_eq_true (by omega)),aw hi',Z0,aP (by omega),a0,aT,e,e1,e2,Im 8 (by omega) (by omega) (by omega) (by omega)]
   rfl
  ·unfold gJ n9
   dsimp only;rw[if_neg (by rw[hl];simp),Zm (by omega)];rfl
 unfold gj;have J:=BE (r:=r) (n:=8) (by omega);rw[show((8:Nat):Int)=8 from rfl] at J;rw[J,Z0]
 by_cases h:r.fB.length<8
 ·rw[if_pos h,if_pos h,key _ _ (λc hc=>by rw[Yi hc];decide) (by simp)];rfl
 ·rw[if_neg h,if_neg h,key _ _ (hb.take _) (by simp;omega)]
theorem Ix {r:ah}(hb:Byt r.fB):∃x,fh r=some x/\(Byt x.2.fB/\x.2.fB.length<=r.fB.length):=by
 unfold fh;refine dR (I:=λs:Int×Int×ah=>∃k:Nat,s.2.1=(k:Int)/\k<=76/\Byt s.2.2.fB/\s.2.2.fB.length<=r.fB.length) (μ:=λs=>77 - s.2.1.toNat) (Q:=λx:Int×ah=>Byt x.2.fB/\x.2.fB.length<=r.fB.length) ?_ ⟨0,rfl,by omega,hb,Zy _⟩;rintro ⟨z,_,J⟩ ⟨k,rfl,hk,h,Z⟩;dsimp only at*;unfold kC im oH
 by_cases h70:(k:Int)<70
 ·rw[if_pos (decide_eq_true h70)]
  cases hok:J.fOk with
  |false=>right;exact⟨_,rfl,h,Z⟩
  | true=>
   rw[if_pos rfl,take_one,Z0];obtain⟨c,r2,e1,hc,W,a0,_⟩:=yF J h;rw[e1];dsimp only;rw[cu,Z0,qH,Z0]
   by_cases h128:c<128
   ·right;rw[if_pos (decide_eq_true h128)];exact⟨_,rfl,W,by dsimp only;omega⟩
   ·left;rw[if_neg (by simpa using h128)]
    refine⟨_,rfl,⟨k+7,?_,by omega,W,by dsimp only;omega⟩,?_⟩
    ·dsimp only;rw[ai (by omega)];rfl
    ·dsimp only;rw[ai (by omega)];omega
 ·right;rw[if_neg (by simpa using h70),if_neg (by decide)];exact⟨_,rfl,h,Z⟩
theorem Oo:∀n:_root_.Fin 256,n.val&&&127=n.val%128:=by decide+kernel
theorem se (q:Nat):∃(c:Nat) (t:List Int),eU q=(c:Int)::t/\c<256/\c%128=q%128/\((c<128/\q<128/\t=[])\/(128<=c/\128<=q/\t=eU (q/128))):=by
 by_cases h:q<128
 ·exact⟨q,[],qN h,by omega,rfl,.inl ⟨h,h,rfl⟩⟩
 ·exact⟨q%128+128,_,th h,by omega,by omega,.inr ⟨by omega,by omega,rfl⟩⟩
theorem Iy {z:Nat}(hz:z<18446744073709551616)(rest:List Int):fh ⟨eU z++rest,true⟩=some ((z:Int),⟨rest,true⟩):=by
 unfold fh;have a6:(2:Nat)^64=18446744073709551616:=by decide
 refine mY (I:=λs:Int×Int×ah=>∃i:Nat,i<=9/\s=(((z%2^(7*i):Nat):Int),((7*i:Nat):Int),⟨eU (z/2^(7*i))++rest,true⟩)) (μ:=λs=>77 - s.2.1.toNat) ?_ ⟨0,by omega,by simp[Nat.mod_one]⟩;rintro _ ⟨i,hi,rfl⟩;dsimp only;unfold kC im;obtain⟨c,t,e1,Z,a3,a5⟩:=se (z/2^(7*i))
 have a9:2^(7*i)*(z/2^(7*i)%128)+z%2^(7*i)<=z:=by
  have J:=Nat.div_add_mod z (2^(7*i));have h2:2^(7*i)*(z/2^(7*i)%128)<=2^(7*i)*(z/2^(7*i)):=Nat.mul_le_mul_left _ (Nat.mod_le _ _);omega
 have a4:z%2^(7*(i+1))=2^(7*i)*(z/2^(7*i)%128)+z%2^(7*i):=by
  rw[show 7*(i+1)=7*i+7 by omega,Y8,Nat.mod_mul,show(2:Nat)^7=128 from rfl];omega
 have a0:z/2^(7*(i+1))=z/2^(7*i)/128:=by
  rw[show 7*(i+1)=7*i+7 by omega,Y8,Yl]
 have a1:z%2^(7*i)<2^(7*i):=Nat.mod_lt _ (Yp (by decide))
 have a2:bOr .u64 ((z%2^(7*i):Nat):Int) (dZ .u64 (Zt.wrap (dP .u8 (c:Int) 127)) ((7*i:Nat):Int))=((z%2^(7*(i+1)):Nat):Int):=by
  have J:dP .u8 (c:Int) 127=((c%128:Nat):Int):=by
   have:=Oo ⟨c,Z⟩;simp only at this;rw[show(127:Int)=((127:Nat):Int) from rfl,Oh Z (by omega),this]
  rw[J,a3,aT,yC (by omega)]
  have h2:(((z/2^(7*i)%128:Nat):Int))%18446744073709551616=((z/2^(7*i)%128:Nat):Int):=by
   generalize z/2^(7*i)=q;omega
  have h3:(((z/2^(7*i)%128:Nat):Int))*2^(7*i)=((2^(7*i)*(z/2^(7*i)%128):Nat):Int):=by
   rw[Int.natCast_mul,Xd,Yx];rfl
  rw[h2,h3]
  have h4:((2^(7*i)*(z/2^(7*i)%128):Nat):Int)%18446744073709551616=((2^(7*i)*(z/2^(7*i)%128):Nat):Int):=by
   generalize 2^(7*i)*(z/2^(7*i)%128)=u at*;omega
  rw[h4,Kz (by omega) (by omega),Nat.or_comm,←Y2 a1,a4]
 rw[if_pos (decide_eq_true (by omega)),if_pos rfl,take_one,Z0,e1,X8,wk];dsimp only;rw[cu,Z0,qH,Z0,a2];rcases a5 with⟨g1,W,rfl⟩|⟨g1,W,rfl⟩
 ·right
  rw[if_pos (decide_eq_true (by omega))]
  have:z%2^(7*(i+1))=z:=by
   apply Nat.mod_eq_of_lt;rw[show 7*(i+1)=7*i+7 by omega,Y8,Nat.mul_comm];have:=(Xv (Yp (n:=7*i) (show 0<2 by decide))).1 W;exact this
  rw[this];rfl
 ·left
  rw[if_neg (by simp;omega)];refine⟨_,rfl,⟨i+1,?_,?_⟩,?_⟩
  ·have J:128*2^(7*i)<=z:=(Nat.le_div_iff_mul_le (Yp (by decide))).1 W
   rcases Xq i 9 with h|h
   ·omega
   ·have:i=9:=by omega
    subst this;have:(128:Nat)*2^(7*9)=1180591620717411303424:=by decide
    omega
  ·rw[a0,ai (by omega)]
   congr 2
  ·dsimp only;rw[ai (by omega)];omega
theorem MV {a:Int}(J:cC a):dS .i64 a (-1)= -a - 1/\dS .i64 a 0=a:=by
 unfold dS;rw[dX,dX]
 have W:((Zh 64 a).toNat:Int)=a%18446744073709551616:=by
  rw[Zx];omega
 constructor
 ·show(((Zh 64 a^^^Zh 64 (-1)).toNat:Nat)+9223372036854775808:Int)%18446744073709551616 - 9223372036854775808=_
  have h:Zh 64 (-1)=BitVec.allOnes 64:=by decide
  rw[h,BitVec.xor_allOnes,BitVec.toNat_not];have:=(Zh 64 a).isLt;have e:(2:Nat)^64=18446744073709551616:=by decide
  unfold cC at J;omega
 ·show(((Zh 64 a^^^Zh 64 0).toNat:Nat)+9223372036854775808:Int)%18446744073709551616 - 9223372036854775808=_
  have h:Zh 64 0=0#64:=by decide
  rw[h,BitVec.xor_zero];unfold cC at J;omega
theorem SV {d:Int}(h:cC d):dS .i64 (Zb.wrap (aX .u64 (zig d:Int) 1)) (Zb.wrap (0 - (Zb.wrap (dP .u64 (zig d:Int) 1))))=d:=by
 have W:=ma h;have J:aX .u64 (zig d:Int) 1=((zig d/2:Nat):Int):=by have:=rh (x:=(zig d:Int)) (k:=1) (by omega);simpa using this
 have h2:dP .u64 (zig d:Int) 1=((zig d%2:Nat):Int):=by
  rw[show(1:Int)=((1:Nat):Int) from rfl,LL W (by omega),Nat.and_one_is_mod]
 rw[J,h2,ai (n:=((zig d/2:Nat):Int)) (by omega),ai (n:=((zig d%2:Nat):Int)) (by omega)];have hr:cC ((zig d/2:Nat):Int):=by unfold cC;omega
 obtain⟨g1,Z⟩:=MV hr;unfold zig at*
 by_cases hd:d<0
 ·rw[if_pos hd] at*
  have:(0 - (((-2*d - 1).toNat%2:Nat):Int))= -1:=by omega
  rw[this,show Zb.wrap (-1)= -1 from by decide,g1];omega
 ·rw[if_neg hd] at*
  have:(0 - (((2*d).toNat%2:Nat):Int))=0:=by omega
  rw[this,show Zb.wrap 0=0 from by decide,Z];omega
theorem CE {n m:Int}(h:cC m):Zb.wrap (n+Zb.wrap (m - n))=m:=by
 rw[dX,dX];unfold cC at h;omega
theorem MW {v:Ap}(h:Rgt v)(J:v.fKind=2):v=gI v.fInt:=by
 cases h<;>first|rfl|(simp at J)
theorem lm {l:List Ap}(h:gR l=true)(W:∀v∈l,Rgt v):∀v∈l,v=gI v.fInt/\cC v.fInt:=λv J=>by
 have:=Yu.1 h v J;exact⟨MW (W v J) (by simpa using this),(W v J).ok.int⟩
theorem FJ {b:List Int}{many:Nat}(hb:Byt b)(hl:b.length<140737488355328)(hm:1<=many/\many<=64):∃x,bU ⟨b,true⟩ 2 (many:Int)=some x/\kO 2 b many x:=by
 unfold bU;rw[if_neg (by decide),if_neg (by decide),if_pos (by decide),AN hb,Z0];unfold eI;rw[Z0,aI (by simp),Z0];generalize J:(if ({ fB:=b,fOk:=true }:ah).fB.length<8 then ((0:Int),({ fB:=[],fOk:=false }:ah)) else (bq (({ fB:=b,fOk:=true }:ah).fB.take 8),⟨({ fB:=b,fOk:=true }:ah).fB.drop 8,true⟩))=x0
 have a5:Byt x0.2.fB/\x0.2.fB.length<140737488355328:=by
  rw[←J];dsimp only;split
  ·exact⟨.nil,by simp⟩
  ·exact⟨hb.drop _,by simp;omega⟩
 refine dR (I:=λs:List Ap×Int×ah=>Byt s.2.2.fB/\s.2.2.fB.length<140737488355328/\(∀v∈s.1,VOK v)/\s.1.length<=many/\∀l:List Ap,(∀v∈l,Rgt v)->l.length=many->gR l=true->b=kq (l.map (·.fInt))->∃k,s.1.length=k+1/\s.1=l.take (k+1)/\s.2.1=(l.map (·.fInt)).getD k 0/\s.2.2=⟨((Zv (many - 1)).drop k).flatMap (gK (l.map (·.fInt))),true⟩) (μ:=λs=>many - s.1.length) (Q:=kO 2 b many) ?_ ⟨a5.1,a5.2,λv hv=>?_,by simp;omega,λl hr Z hi W=>?_⟩
 ·rintro ⟨a2,n,r⟩ ⟨h1,h2,h3,h4,h5⟩
  dsimp only at*
  have a4:a2.length=many\/r.fOk=false->kO 2 b many (a2,r):=λh=>⟨h3,by dsimp only;omega,λl hr Z W=>by
   obtain⟨_,_,_,hi,W⟩:=em W
   have b1:b=kq (l.map (·.fInt)):=by
    rcases W with⟨e,_⟩|⟨_,e⟩
    ·subst e;simp at Z;omega
    ·exact e
   obtain⟨k,g1,g2,g3,g4⟩:=h5 l hr Z (hi (.inl rfl)) b1;subst g4;rcases h with h|h
   ·rw[←g1,h,←Z,Z6] at g2;exact⟨g2,rfl⟩
   ·cases h⟩
  unfold oK kF ci
  by_cases hlt:a2.length<many
  ·rw [if_pos (decide_eq_true (by omega))]
   cases hok:r.fOk with
   |false=>right;exact⟨_,rfl,a4 (.inr hok)⟩
   | true=>
    left;rw[if_pos rfl];obtain⟨⟨z,r'⟩,e1,e2,e3⟩:=Ix h1;rw[e1,Z0];unfold eI;rw[Z0,aI (by simp;omega),Z0];dsimp only at e2 e3 ⊢;refine⟨_,rfl,⟨e2,by dsimp only;omega,λx J=>?_,by simp;omega,λl hr Z hi W=>?_⟩,by simp;omega⟩
    ·rcases Zf.1 J with J|J
     ·exact h3 x J
     ·have:x=gI (Zb.wrap (n+(dS .i64 (Zb.wrap (aX .u64 z 1)) (Zb.wrap (0 - (Zb.wrap (dP .u64 z 1))))))):=by simpa using J
      subst this;exact(Rgt.int _ (gQ _)).ok
    ·obtain⟨k,g1,g2,g3,g4⟩:=h5 l hr Z hi W
     have hk:k+1<l.length:=by omega
     have a1:=lm hi hr;have a0:∀i (h:i<l.length),(l.map (·.fInt)).getD i 0=l[i].fInt:=λi h=>by rw[vj (by simpa using h)];simp
     have hd:(Zv (many - 1)).drop k=k::(Zv (many - 1)).drop (k+1):=by
      rw[Z5 (by simp;omega)];simp
     rw[hd,Zl] at g4
     have a9:gK (l.map (·.fInt)) k=eU (zig (Zb.wrap (l[k+1].fInt - l[k].fInt))):=by
      unfold gK;rw[a0 _ hk,a0 _ (by omega)]
     rw[a9] at g4;rw[g4,Iy (ma (gQ _))] at e1;obtain⟨rfl,rfl⟩:=Prod.mk.inj (Option.some.inj e1);rw[SV (gQ _),g3,a0 _ (by omega),CE (a1 _ (Z3 hk)).2];refine⟨k+1,by simp;omega,?_,(a0 _ hk).symm,rfl⟩;dsimp only;rw[Z1 hk,g2];congr 2;exact(a1 _ (Z3 hk)).1.symm
  ·right
   rw[if_neg (by simp;omega),if_neg (by decide)];exact⟨_,rfl,a4 (.inl (by omega))⟩
 ·have:v=gI (Zb.wrap x0.1):=by simpa using hv
  subst this;exact(Rgt.int _ (gQ _)).ok
 ·have h0:0<l.length:=by omega
  have a1:=lm hi hr;have a0:∀i (h:i<l.length),(l.map (·.fInt)).getD i 0=l[i].fInt:=λi h=>by rw[vj (by simpa using h)];simp
  have a6:=(a1 _ (Z3 h0)).2
  have a3:b=be8 (l[0].fInt%18446744073709551616)++(Zv (many - 1)).flatMap (gK (l.map (·.fInt))):=by
   rw[W];unfold kq;rw[a0 0 h0,Zo,Z]
  have b0: ¬ b.length<8:=by rw[a3];simp[bA]
  dsimp only at J;rw[if_neg b0] at J;have h1:b.take 8=be8 (l[0].fInt%18446744073709551616):=by rw[a3];exact Xe (bA _)
  have h2:b.drop 8=(Zv (many - 1)).flatMap (gK (l.map (·.fInt))):=by rw[a3];exact Xw (bA _)
  rw[h1,h2,s8 (by omega) (by omega)] at J;subst J;refine⟨0,rfl,?_,?_,rfl⟩
  ·dsimp only
   rw[Z1 h0,we a6];simp only[List.take_zero,Zi];congr 1;exact(a1 _ (Z3 h0)).1.symm
  ·dsimp only;rw[a0 0 h0,we a6]
theorem CF (r:ah)(many w:Nat):(tf r many w).1.length=many/\(∀x∈(tf r many w).1,∃n:Nat,x=(n:Int)/\n<18446744073709551616):=by
  unfold tf;split
  ·exact⟨by simp,λx J=>⟨0,(Xu.1 J).2,by decide⟩⟩
  split
  ·exact⟨by simp,λx J=>⟨0,(Xu.1 J).2,by decide⟩⟩
  · rename_i h _
    refine⟨by simp,λx J=>?_⟩;obtain⟨i,_,rfl⟩:=Xc.1 J;refine⟨_,rfl,?_⟩;have W:=mt (λk=>dB r.fB (i*w+k)) w;have h2:(2:Nat)^w<=2^64:=Xj (by decide) (by omega);have Z:(2:Nat)^64=18446744073709551616:=by decide
    unfold unp;omega
theorem za {pl:List Int}{w:Nat}(Z:w<=64)(h:∀x∈pl,0<=x/\x<2^w):tf ⟨bX pl w,true⟩ pl.length w=(pl,⟨[],true⟩):=by
  have W:(bX pl w).length=(pl.length*w+7)/8:=eP _ _ _;unfold tf;rw[if_neg (by omega),if_neg (by dsimp only;omega)];dsimp only;congr 1
  · apply List.ext_getElem
    ·simp
    · intro i h1 J
      have:=wg pl w i [] J (h _ (Z3 J));rw[Zp] at this;simp[this]
  ·rw[←W,Xh]
theorem Hj {b:List Int}{many:Nat}(hb:Byt b)(hl:b.length<140737488355328)(hm:1<=many/\many<=64):∃x,bU ⟨b,true⟩ 3 (many:Int)=some x/\kO 3 b many x:=by
  unfold bU;rw[if_neg (by decide),if_neg (by decide),if_neg (by decide),if_pos (by decide),take_one,Z0];obtain⟨c,r1,e1,hc,b5,b7,c2⟩:=yF ⟨b,true⟩ hb;rw[e1];dsimp only at*;rw[cu,Z0];obtain⟨cn,rfl⟩:=Za hc.1
  refine dR (I:=λs:List Ap×Int×ah=>Byt s.2.2.fB/\s.2.2.fB.length<140737488355328/\(∀v∈s.1,Rgt v)/\s.1.length<=cn/\s.2.1=(s.1.length:Int)/\∀l:List Ap,(∀v∈l,Rgt v)->l.length=many->b=kr l->s.1=(aD l).take s.1.length/\cn=(aD l).length/\s.2.2=⟨((aD l).drop s.1.length).flatMap a8++bX (l.map λv=>(dY (aD l) v:Int)) (wid ((aD l).length - 1)),true⟩) (μ:=λs=>cn - s.1.length) (Q:=kO 3 b many) ?_ ⟨b5,by dsimp only;omega,by simp,by simp,rfl,λl h Z J=>?_⟩
  · rintro ⟨W,wn,r⟩ ⟨h1,h2,h3,h4,b2,h5⟩
    dsimp only at*;subst b2;unfold oM
    by_cases hlt:W.length<cn
    · left
      rw[if_pos (decide_eq_true (by omega))];obtain⟨v,r',f1,f2,f3,f4,f5⟩:=xQ h1 h2;rw[f1,Z0,aI (by simp;omega),Z0];refine⟨_,rfl,⟨f3,by dsimp only;omega,λx hx=>?_,by simp;omega,?_,λl h Z J=>?_⟩,by simp;omega⟩
      · rcases Zf.1 hx with hx|hx
        ·exact h3 x hx
        · have:x=v:=by simpa using hx
          subst this;exact f2
      ·dsimp only;rw[bB];simp;omega
      · obtain⟨g1,g2,g3⟩:=h5 l h Z J
        have hk:W.length<(aD l).length:=by omega
        obtain⟨w1,w2,w3⟩:=da h;rw[Z5 hk,Zl,Ze] at g3;subst g3;have hv:=xP (h _ ((w2 _).1 (Z3 hk))) (ok:=true) rfl h1 h2;rw[hv] at f1;obtain⟨rfl,rfl⟩:=Prod.mk.inj (Option.some.inj f1);refine⟨?_,g2,by simp⟩;simp only[Z2,Z7];rw[Z1 hk,←g1]
    · right
      rw[if_neg (by simp;omega)];unfold oL
      have a4:Zt.wrap (Zb.wrap ((if (W.length:Int)<1 then 1 else (W.length:Int)) - 1))=((W.length - 1:Nat):Int):=by
        rw[ai (by split<;>omega),aT];split<;>omega
      have b3:wid (W.length - 1)<=64:=oR (Zz (show W.length - 1<256 by omega) (by decide));rw[a4,len_eq (by omega),Z0,y9 h1 (by omega),Z0];obtain⟨u1,u2⟩:=CF r many (wid (W.length - 1))
      have a2:∀l:List Ap,(∀v∈l,Rgt v)->l.length=many->b=kr l->W=aD l/\tf r many (wid (W.length - 1))=(l.map (λv=>(dY (aD l) v:Int)),⟨[],true⟩):=λl h Z J=>by
        obtain⟨g1,g2,g3⟩:=h5 l h Z J;obtain⟨w1,w2,w3⟩:=da h;have e2:W.length=(aD l).length:=by omega
        rw[e2,Z6] at g1;refine⟨g1,?_⟩;rw[e2,Xh] at g3;simp only[Yv,Zi] at g3;rw[g3,e2,←Z]
        have:=za (pl:=l.map λv=>(dY (aD l) v:Int)) (w:=wid ((aD l).length - 1)) (by rw[←e2];exact b3) (λx hx=>by
          obtain⟨v,hv,rfl⟩:=Xc.1 hx;have hp:=lP ((w2 v).2 hv);have c0:=xK ((aD l).length - 1);refine⟨by omega,?_⟩;have:((dY (aD l) v:Nat):Int)<((2^wid ((aD l).length - 1):Nat):Int):=Yy.2 (by omega)
          rwa[Xd] at this)
        rw[Zo] at this;exact this
      generalize tf r many (wid (W.length - 1))=U at*;obtain⟨pl,r2⟩:=U;dsimp only at*
      have a6:  ∃x,am (λs:(List Ap×Int)=>kG W (pl,r2) s.1 s.2) ([],0)=some x/\kO 3 b many x:=by
        refine dR (I:=λs:List Ap×Int=>(∀v∈s.1,Rgt v)/\s.1.length<=many/\s.2=(s.1.length:Int)/\∀l:List Ap,(∀v∈l,Rgt v)->l.length=many->b=kr l->s.1=l.take s.1.length) (μ:=λs=>many - s.1.length) (Q:=kO 3 b many) ?_ ⟨by simp,by simp,rfl,λl _ _ _=>by simp⟩;rintro ⟨a0,an⟩ ⟨k1,k2,b4,k3⟩;dsimp only at*;subst b4;unfold kG ci;dsimp only
        by_cases hlt2:a0.length<many
        · have hi:a0.length<pl.length:=by omega
          obtain⟨n,a3,c1⟩:=u2 _ (Z3 hi);have e3:Zt.wrap (W.length:Int)=(W.length:Int):=by rw[aT];omega
          rw[if_pos (decide_eq_true (by omega)),aw hi,Z0,e3,a3]
          by_cases hge:W.length<=n
          · right
            rw[if_pos (decide_eq_true (by omega))];refine⟨_,rfl,by simp,by simp,λl h Z J=>?_⟩;exfalso;obtain⟨_,_,_,_,J⟩:=em J
            have a1:b=kr l:=by
              rcases J with⟨e,_⟩|⟨_,e⟩
              ·subst e;simp at Z;omega
              ·exact e
            obtain⟨g1,g2⟩:=a2 l h Z a1;obtain⟨rfl,_⟩:=Prod.mk.inj g2;have hp:=lP (((da h).2.1 _).2 (Z3 (show a0.length<l.length by omega)));simp only[Y5] at a3;rw[g1] at hge;omega
          · left
            rw[if_neg (by simp;omega),aw (by omega),Z0,aI (by simp;omega),Z0];refine⟨_,rfl,⟨λx hx=>?_,by simp;omega,?_,λl h Z J=>?_⟩,by simp;omega⟩
            · rcases Zf.1 hx with hx|hx
              ·exact k1 x hx
              · have:x=W[n]:=by simpa using hx
                subst this;exact h3 _ (Z3 _)
            ·dsimp only;rw[aP (by omega)];simp
            · have q:=k3 l h Z J
              obtain⟨g1,g2⟩:=a2 l h Z J;obtain⟨rfl,_⟩:=Prod.mk.inj g2;have hk:a0.length<l.length:=by omega
              have a9:=((da h).2.1 _).2 (Z3 hk);simp only[Y5] at a3;have b6:n=dY (aD l) l[a0.length]:=by omega
              subst g1;subst b6;dsimp only;simp only[Z2,Z7];rw[Z1 hk,←q,wj a9]
        · right
          rw[if_neg (by simp;omega)];refine⟨_,rfl,λv hv=>(k1 v hv).ok,by dsimp only;omega,λl h Z J=>?_⟩;obtain⟨_,_,_,_,J⟩:=em J
          have a1:b=kr l:=by
            rcases J with⟨e,_⟩|⟨_,e⟩
            ·subst e;simp at Z;omega
            ·exact e
          have q:=k3 l h Z a1;obtain⟨g1,g2⟩:=a2 l h Z a1;obtain⟨_,rfl⟩:=Prod.mk.inj g2;have:a0.length=l.length:=by omega
          rw[this,Z6] at q;exact⟨q,rfl⟩
      obtain⟨x,b1,b0⟩:=a6;rw[b1];exact⟨x,rfl,b0⟩
  · obtain⟨w1,w2,w3⟩:=da h
    have a5:b=(((aD l).length:Nat):Int)::((aD l).flatMap a8++bX (l.map λv=>(dY (aD l) v:Int)) (wid ((aD l).length - 1))):=J;subst a5;rw[wk] at e1;obtain⟨e2,e3⟩:=Prod.mk.inj e1;refine⟨by simp,?_,?_⟩
    ·have:=(List.cons.inj e2).1;omega
    ·rw[←e3];rfl
theorem Hk {b:List Int}{many:Nat}{kind:Int}(hk:kind≠0/\kind≠1/\kind≠2/\kind≠3)(hb:Byt b)(hm:1<=many/\many<=64):∃x,bU ⟨b,true⟩ kind (many:Int)=some x/\kO kind b many x:=by
  unfold bU;rw[if_neg (by simpa using hk.1),if_neg (by simpa using hk.2.1),if_neg (by simpa using hk.2.2.1),if_neg (by simpa using hk.2.2.2),AN hb,Z0];dsimp only;generalize h:(if b.length<8 then ((0:Int),({ fB:=[],fOk:=false }:ah)) else (bq (b.take 8),⟨b.drop 8,true⟩))=x0
  have a6:Byt x0.2.fB:=by
    rw[←h];split
    ·exact .nil
    ·exact hb.drop _
  rw[take_one,Z0];obtain⟨c,r1,e1,hc,b1,b4,b5⟩:=yF x0.2 a6;rw[e1];dsimp only;obtain⟨cn,rfl⟩:=Za hc.1;rw[cu,Z0,ai (by omega),y9 b1 (by omega),Z0];obtain⟨u1,u2⟩:=CF r1 many cn
  have a3:∀l:List Ap,(∀v∈l,Rgt v)->l.length=many->gR l=true->b=mb (l.map (·.fInt))->x0.1=ia (l.map (·.fInt))%18446744073709551616/\tf r1 many cn=(aQ (l.map (·.fInt)),⟨[],true⟩):=λl hr Z hi W=>by
    have a1:=lm hi hr;have h':∀x∈l.map (·.fInt),cC x:=λx h=>by obtain⟨v,hv,rfl⟩:=Xc.1 h;exact(a1 v hv).2
    have hu:=ng h';obtain⟨hw,a9⟩:=kI hu
    have a2:b=be8 (ia (l.map (·.fInt))%18446744073709551616)++((cm (aQ (l.map (·.fInt))):Nat):Int)::bX (aQ (l.map (·.fInt))) (cm (aQ (l.map (·.fInt)))):=by
      rw[W];unfold mb;simp
    have h8: ¬ b.length<8:=by rw[a2];simp[bA]
    rw[if_neg h8] at h;have h1:b.take 8=be8 (ia (l.map (·.fInt))%18446744073709551616):=by rw[a2];exact Xe (bA _)
    have h2:b.drop 8=((cm (aQ (l.map (·.fInt))):Nat):Int)::bX (aQ (l.map (·.fInt))) (cm (aQ (l.map (·.fInt)))):=by rw[a2];exact Xw (bA _)
    rw[h1,h2,s8 (by omega) (by omega)] at h;subst h;dsimp only at e1;rw[wk] at e1;obtain⟨e3,e4⟩:=Prod.mk.inj e1;have e5:cn=cm (aQ (l.map (·.fInt))):=by have:=(List.cons.inj e3).1;omega
    subst e4;refine⟨rfl,?_⟩
    have:=za (pl:=aQ (l.map (·.fInt))) (w:=cm (aQ (l.map (·.fInt)))) hw (λx h=>by
      have h3:=hu x h;have h4:=xK x.toNat;have h5:=a9 x h;have h6:(2:Nat)^wid x.toNat<=2^cm (aQ (l.map (·.fInt))):=Xj (by decide) h5;refine⟨h3.1,?_⟩;have:((x.toNat:Nat):Int)<((2^cm (aQ (l.map (·.fInt))):Nat):Int):=Yy.2 (by omega);rw[Xd] at this;have e:((x.toNat:Nat):Int)=x:=by omega
      rw[e] at this
      exact this)
    have a5:(aQ (l.map (·.fInt))).length=many:=by simp[aQ,Z]
    rw[a5] at this;rw[e5];exact this
  generalize tf r1 many cn=U at*;obtain⟨pl,r2⟩:=U;obtain⟨n0,rn⟩:=x0;dsimp only at*;refine dR (I:=λs:List Ap×Int=>(∀v∈s.1,Rgt v)/\s.1.length<=many/\s.2=(s.1.length:Int)/\∀l:List Ap,(∀v∈l,Rgt v)->l.length=many->gR l=true->b=mb (l.map (·.fInt))->s.1=l.take s.1.length) (μ:=λs=>many - s.1.length) (Q:=kO kind b many) ?_ ⟨by simp,by simp,rfl,λl _ _ _ _=>by simp⟩;rintro ⟨J,an⟩ ⟨k1,k2,b0,k3⟩;dsimp only at*;subst b0;unfold oN ci;dsimp only
  by_cases hlt2:J.length<many
  · have hi:J.length<pl.length:=by omega
    left;unfold eI;rw[if_pos (decide_eq_true (by omega)),aw hi,Z0,Z0,aI (by simp;omega),Z0];refine⟨_,rfl,⟨λx h=>?_,by simp;omega,?_,λl hr Z a0 W=>?_⟩,by simp;omega⟩
    · rcases Zf.1 h with h|h
      ·exact k1 x h
      · have:x=gI (Zb.wrap (Zt.wrap (n0+pl[J.length]))):=by simpa using h
        subst this;exact .int _ (gQ _)
    ·dsimp only;rw[aP (by omega)];simp
    · have q:=k3 l hr Z a0 W
      obtain⟨g1,g2⟩:=a3 l hr Z a0 W;obtain⟨rfl,_⟩:=Prod.mk.inj g2;have a1:=lm a0 hr;have hk:J.length<l.length:=by omega
      have h1:=a1 _ (Z3 hk);dsimp only;simp only[Z2,Z7];rw[Z1 hk,←q];congr 1
      have e9:Zb.wrap (Zt.wrap (n0+(aQ (l.map (·.fInt)))[J.length]))=l[J.length].fInt:=by
        have:(aQ (l.map (·.fInt)))[J.length]=l[J.length].fInt - ia (l.map (·.fInt)):=by simp[aQ]
        rw[this,g1,aT,dX];have:=h1.2;unfold cC at this;omega
      rw[e9];congr 1;exact h1.1.symm
  · right
    rw[if_neg (by simp;omega)];refine⟨_,rfl,λv hv=>(k1 v hv).ok,by dsimp only;omega,λl hr Z W=>?_⟩;obtain⟨b3,_,_,a0,W⟩:=em W;have b2:kind=4:=by omega
    subst b2
    have a4:b=mb (l.map (·.fInt)):=by
      rcases W with⟨e,_⟩|⟨_,e⟩
      ·subst e;simp at Z;omega
      ·exact e
    have q:=k3 l hr Z (a0 (.inr rfl)) a4;obtain⟨g1,g2⟩:=a3 l hr Z (a0 (.inr rfl)) a4;obtain⟨_,rfl⟩:=Prod.mk.inj g2;have:J.length=l.length:=by omega
    rw[this,Z6] at q;exact⟨q,rfl⟩
theorem CG {b:List Int}{many:Nat}(kind:Int)(J:Byt b)(W:b.length<140737488355328)(h:1<=many/\many<=64):∃x,bU ⟨b,true⟩ kind (many:Int)=some x/\kO kind b many x:=by
  by_cases h0:kind=0
  ·subst h0;exact FH J W h
  by_cases h1:kind=1
  ·subst h1;exact Hi J W h
  by_cases h2:kind=2
  ·subst h2;exact FJ J W h
  by_cases h3:kind=3
  ·subst h3;exact Hj J W h
  ·exact Hk ⟨h0,h1,h2,h3⟩ J h
def iF (kind:Int)(b:List Int)(many:Nat)(g:List Ap):Prop:=(∀v∈g,VOK v)/\g.length<=1048576/\∀l:List Ap,(∀v∈l,Rgt v)->l.length=many->enc kind l=(b,0)->g=l
theorem qc {kind:Int}{l:List Ap}{b:List Int}{many:Nat}(h:enc kind l=(b,0))(J:l.length=many)(W:1<=many):b=qO kind l:=by
 obtain⟨_,_,_,_,h⟩:=em h;rcases h with⟨e,_⟩|⟨_,e⟩
 ·subst e;simp at J;omega
 ·exact e
theorem ED {b:List Int}{many:Nat}(hb:Byt b)(hl:b.length<=1048576)(hm:1<=many/\many<=64):∃g,vV b (many:Int)=some g/\iF 0 b many g:=by
 unfold vV;refine dR (I:=λs:List Ap×Int×Int=>∃a0:Nat,s.2.1=(a0:Int)/\a0<=b.length/\s.2.2=(s.1.length:Int)/\(∀v∈s.1,Rgt v)/\s.1.length<=many/\∀l:List Ap,(∀v∈l,Rgt v)->l.length=many->b=nh l->s.1=l.take s.1.length/\b.drop a0=nh (l.drop s.1.length)) (μ:=λs=>many - s.1.length) (Q:=iF 0 b many) ?_ ⟨0,rfl,by omega,rfl,by simp,by simp,λl _ _ h=>⟨rfl,h⟩⟩;rintro ⟨a1,x,y⟩ ⟨a0,W,h1,hy,h3,h4,h5⟩;dsimp only at*;subst W;subst hy;unfold y5 yZ
 by_cases hlt:a1.length<many
 ·rw [if_pos (decide_eq_true (by omega)),bZ h1,Z0,pu (hb.drop _),Z0]
  cases hp:bK (b.drop a0) with
  |none=>
   right;dsimp only;rw[if_pos (by decide)];refine⟨_,rfl,by simp,by simp,λl Z J he=>?_⟩;exfalso;obtain⟨g1,g2⟩:=h5 l Z J (qc he J hm.1);have hk:a1.length<l.length:=by omega
   rw[uO hk] at g2;rw[g2,iE (Z _ (Z3 hk))] at hp;cases hp
  | some p=>
   obtain⟨v,n⟩:=p;have hn:=kH (hb.drop _) hp;simp only[Zq] at hn;left;dsimp only;rw[if_neg (by simp;omega),aI (by simp;omega),Z0,aP (by omega),ai (by omega)];refine⟨_,rfl,⟨a0+n,by dsimp only;omega,by omega,by simp,λx W=>?_,by simp;omega,λl Z J he=>?_⟩,by simp;omega⟩
   ·rcases Zf.1 W with W|W
    ·exact h3 x W
    ·have:x=v:=by simpa using W
     subst this;exact(gt (hb.drop _) hp).1
   ·obtain⟨g1,g2⟩:=h5 l Z J he
    have hk:a1.length<l.length:=by omega
    rw[uO hk] at g2;rw[g2,iE (Z _ (Z3 hk))] at hp;obtain⟨rfl,rfl⟩:=Prod.mk.inj (Option.some.inj hp);dsimp only;simp only[Z2,Z7];refine⟨?_,?_⟩
    ·rw[Z1 hk,←g1]
    ·rw[←Xb,g2,Zr]
 ·right
  rw[if_neg (by simp;omega)];refine⟨_,rfl,λv hv=>(h3 v hv).ok,by omega,λl Z J he=>?_⟩;obtain⟨g1,g2⟩:=h5 l Z J (qc he J hm.1);have:a1.length=l.length:=by omega
  rw[this,Z6] at g1;exact g1
theorem FK {b:List Int}{many:Nat}(hb:Byt b)(hl:b.length<=1048576)(hm:1<=many/\many<=64):∃g,yA b (many:Int)=some g/\iF 1 b many g:=by
 unfold yA;refine dR (I:=λs:List Ap×Int=>∃J:Nat,s.2=(J:Int)/\J<=b.length/\(∀v∈s.1,Rgt v)/\s.1.length<=many+255/\∀l:List Ap,(∀v∈l,Rgt v)->l.length=many->b=wh l->∃j,j<=(bg l).length/\s.1=fO ((bg l).take j)/\b.drop J=nV ((bg l).drop j)) (μ:=λs=>b.length - s.2.toNat) (Q:=iF 1 b many) ?_ ⟨0,rfl,by omega,by simp,by simp,λl _ _ h=>⟨0,by omega,rfl,h⟩⟩;rintro ⟨a1,x⟩ ⟨J,hx,h1,h3,h4,h5⟩;dsimp only at*;subst hx
 have a3:(J=b.length\/many<=a1.length)->iF 1 b many a1:=λh=>⟨λv hv=>(h3 v hv).ok,by omega,λl hr a0 he=>by
  obtain⟨j,g0,Z,W⟩:=h5 l hr a0 (qc he a0 hm.1);obtain⟨q1,q2,q3⟩:=kp (l:=l);have a2:=tn (bg l) j;rw[q3,←Z] at a2
  have:fO ((bg l).drop j)=[]:=by
   rcases h with h|h
   ·rw[h,Xh] at W
    cases hd:(bg l).drop j with
    |nil=>rfl
    |cons a t=>rw[hd] at W;simp[nV] at W
   ·have:=congrArg Y7 a2
    simp only[Z2] at this;exact Z8 (by omega)
  rw[this,Zp] at a2
  exact a2.symm⟩
 unfold AB vW Az
 by_cases hlt:J<b.length
 ·rw [if_pos (decide_eq_true (by omega))]
  by_cases hlt2:a1.length<many
  ·have hc:=hb b[J] (Z3 hlt)
   rw[if_pos (decide_eq_true (by omega)),aP (by omega),bZ (by omega),Z0,pu (hb.drop _),Z0];cases hp:bK (b.drop (J+1)) with
   | none=>
    right;dsimp only;rw[if_pos (by decide)];refine⟨_,rfl,by simp,by simp,λl hr a0 he=>?_⟩;exfalso;obtain⟨j,g0,Z,W⟩:=h5 l hr a0 (qc he a0 hm.1);obtain⟨q1,q2,q3⟩:=kp (l:=l)
    have hj:j<(bg l).length:=by
     rcases Xq j (bg l).length with h|h
     ·exact h
     ·rw[Zm h,q3] at Z
      rw[Z] at hlt2;omega
    have hd:nV ((bg l).drop j)=(bg l)[j].fMany::(a8 (bg l)[j].fValue++nV ((bg l).drop (j+1))):=by
     unfold nV;rw[Z5 hj,Zl];rfl
    rw[hd,Z5 hlt] at W;rw[(List.cons.inj W).2,iE (hr _ (q1 _ (Z3 hj)).2.2)] at hp;cases hp
   | some p=>
    obtain⟨v,n⟩:=p;have hn:=kH (hb.drop _) hp;have hv:=(gt (hb.drop _) hp).1;simp only[Zq] at hn;left;dsimp only;rw[if_neg (by simp;omega)];obtain⟨cn,a4⟩:=Za hc.1
    have a5:am (λs:(List Ap×Int)=>rX b (J:Int) (v,(n:Int)) s.1 s.2) (a1,0)=some (.inl (a1++Zd cn v,((J+1+n:Nat):Int))):=by
     refine aW (λi=>(a1++Zd i v,(i:Int))) cn (by simp) (λi hi=>?_) ?_
     ·dsimp only
      unfold rX;rw[aw hlt,Z0,a4,ai (by omega),if_pos (decide_eq_true (by omega)),aI (by simp;omega),Z0,aP (by omega),Ze,List.replicate_succ']
     ·dsimp only
      unfold rX AA;rw[aw hlt,Z0,a4,ai (by omega),if_neg (by simp),aP (by omega),ai (by omega)]
      rfl
    rw[a5];refine⟨_,rfl,⟨J+1+n,rfl,by omega,λx hx=>?_,by simp;omega,λl hr a0 he=>?_⟩,by dsimp only;omega⟩
    ·rcases Zf.1 hx with hx|hx
     ·exact h3 x hx
     ·have:=(Xu.1 hx).2
      subst this;exact hv
    ·obtain⟨j,g0,Z,W⟩:=h5 l hr a0 he
     obtain⟨q1,q2,q3⟩:=kp (l:=l)
     have hj:j<(bg l).length:=by
      rcases Xq j (bg l).length with h|h
      ·exact h
      ·rw[Zm h,q3] at Z
       rw[Z] at hlt2;omega
     have hd:nV ((bg l).drop j)=(bg l)[j].fMany::(a8 (bg l)[j].fValue++nV ((bg l).drop (j+1))):=by
      unfold nV;rw[Z5 hj,Zl];rfl
     rw[hd,Z5 hlt] at W;obtain⟨g3,g4⟩:=List.cons.inj W;rw[g4,iE (hr _ (q1 _ (Z3 hj)).2.2)] at hp;obtain⟨rfl,rfl⟩:=Prod.mk.inj (Option.some.inj hp);refine⟨j+1,by omega,?_,?_⟩
     ·dsimp only
      rw[ui hj,←Z];congr 2;omega
     ·rw[←Xb,g4,Zr]
  ·right
   have:decide ((a1.length:Int)<(many:Int))=false:=by simp;omega
   rw[this,if_neg (by decide)];exact⟨_,rfl,a3 (.inr (by omega))⟩
 ·right
  rw[if_neg (by simp;omega),if_neg (by decide)];exact⟨_,rfl,a3 (.inl (by omega))⟩
def sg (h:List Int)(many k:Nat):List Int:=((Zv (many - 1)).drop k).flatMap (gK h)
theorem AO (J:List Int){many k:Nat}(h:k+1<many):sg J many k=gK J k++sg J many (k+1):=by
 unfold sg;rw[Z5 (by simp;omega),Zl];simp
theorem CH (J:List Int){many k:Nat}(h:many<=k+1):sg J many k=[]:=by
 unfold sg;rw[Zn (by simp;omega)];rfl
theorem C1 {b:List Int}{many:Nat}(hb:Byt b)(hl:b.length<=1048576)(hm:1<=many/\many<=64):∃g,tX b (many:Int)=some g/\iF 2 b many g:=by
 unfold tX;have e0:(2:Nat)^64=18446744073709551616:=by decide
 by_cases h8:b.length<8
 ·rw[if_pos (decide_eq_true (by omega))]
  refine⟨_,rfl,by simp,by simp,λl hr a0 J=>?_⟩;exfalso;have c5:b=kq (l.map (·.fInt)):=qc J a0 hm.1;rw[c5] at h8;simp[kq,bA] at h8;omega
 have b0:=cP (xs:=b) (lo:=0) (hi:=8) (by omega) (by omega);rw[show((0:Nat):Int)=0 from rfl,show((8:Nat):Int)=8 from rfl,X4] at b0;rw[if_neg (by simp;omega),b0,Z0,mr _ (hb.take 8) (by simp;omega),Z0]
 refine dR (I:=λs:Int×List Ap×Int×Int×Int=>∃pos m:Nat,s.2.2.2.2=(pos:Int)/\8<=pos/\pos<=b.length/\s.2.2.2.1=((7*m:Nat):Int)/\m<=pos/\(0<=s.2.2.1/\s.2.2.1<18446744073709551616)/\(∀v∈s.2.1,VOK v)/\s.2.1.length<=many/\∀l:List Ap,(∀v∈l,Rgt v)->l.length=many->gR l=true->b=kq (l.map (·.fInt))->∃k,s.2.1.length=k+1/\s.2.1=l.take (k+1)/\s.1=(l.map (·.fInt)).getD k 0/\((many<=k+1/\b.drop pos=[])\/(k+1<many/\m<=9/\∃z:Nat,z<18446744073709551616/\gK (l.map (·.fInt)) k=eU z/\z=zig (Zb.wrap ((l.map (·.fInt)).getD (k+1) 0 - (l.map (·.fInt)).getD k 0))/\s.2.2.1=((z%2^(7*m):Nat):Int)/\b.drop pos=eU (z/2^(7*m))++sg (l.map (·.fInt)) many (k+1)))) (μ:=λs=>b.length - s.2.2.2.2.toNat) (Q:=iF 2 b many) ?_ ⟨8,0,rfl,by omega,by omega,rfl,by omega,by simp,λv hv=>?_,by simp;omega,λl hr a0 hi J=>?_⟩
 ·rintro ⟨n,a1,z,s,x⟩ ⟨pos,m,hx,d2,c7,hs,e5,hz,h3,h4,h5⟩
  dsimp only at*;subst hx;subst hs
  have a9:(pos=b.length\/a1.length=many)->iF 2 b many a1:=λh=>⟨h3,by omega,λl hr a0 J=>by
   have hi:=(em J).2.2.2.1 (.inl rfl);obtain⟨k,g1,g2,g3,W⟩:=h5 l hr a0 hi (qc J a0 hm.1)
   have hk:l.length<=k+1:=by
    rcases W with⟨W,_⟩|⟨W,_,z',_,_,_,_,g5⟩
    ·omega
    ·rcases h with h|h
     ·rw[h,Xh] at g5
      obtain⟨c,t,e,_⟩:=se (z'/2^(7*m));rw[e] at g5;cases g5
     ·omega
   rw[Zm hk] at g2
   exact g2⟩
  unfold xD s5 xC
  by_cases hlt:pos<b.length
  ·rw [if_pos (decide_eq_true (by omega))]
   by_cases hlt2:a1.length<many
   ·left
    have hc:=hb b[pos] (Z3 hlt);obtain⟨cn,c0⟩:=Za hc.1;rw[if_pos (decide_eq_true (by omega)),aw hlt,Z0,qH,Z0,Z0,c0];have b7:∀y:Int,0<=Zt.wrap y/\Zt.wrap y<18446744073709551616:=λy=>by rw[aT];omega
    have b1:∀z':Nat,z'<18446744073709551616->m<=9->z=((z'%2^(7*m):Nat):Int)->cn%128=(z'/2^(7*m))%128->Zt.wrap (z+(dZ .u64 (Zt.wrap ((cn:Int).tmod 128)) ((7*m:Nat):Int)))=((z'%2^(7*(m+1)):Nat):Int):=by
     intro z' d0 e6 e1 e2
     have d1:2^(7*m)*(z'/2^(7*m)%128)+z'%2^(7*m)<=z':=by
      have h1:=Nat.div_add_mod z' (2^(7*m));have h2:2^(7*m)*(z'/2^(7*m)%128)<=2^(7*m)*(z'/2^(7*m)):=Nat.mul_le_mul_left _ (Nat.mod_le _ _);omega
     have b6:z'%2^(7*(m+1))=2^(7*m)*(z'/2^(7*m)%128)+z'%2^(7*m):=by
      rw[show 7*(m+1)=7*m+7 by omega,Y8,Nat.mod_mul,show(2:Nat)^7=128 from rfl];omega
     rw[X7 (Int.natCast_nonneg _),show((cn:Int)%128)=((cn%128:Nat):Int) by omega,e2]
     have h2:Zt.wrap (((z'/2^(7*m)%128:Nat):Int))=((z'/2^(7*m)%128:Nat):Int):=by
      rw[aT];generalize z'/2^(7*m)=q;omega
     have h3:(((z'/2^(7*m)%128:Nat):Int))*2^(7*m)=((2^(7*m)*(z'/2^(7*m)%128):Nat):Int):=by
      rw[Int.natCast_mul,Xd,Yx];rfl
     rw[h2,yC (by omega),h3,e1,aT,b6];generalize 2^(7*m)*(z'/2^(7*m)%128)=u at*;generalize z'%2^(7*m)=w at*;omega
    generalize hZ:Zt.wrap (z+(dZ .u64 (Zt.wrap ((cn:Int).tmod 128)) ((7*m:Nat):Int)))=Z at*;have a6:0<=Z/\Z<18446744073709551616:=by rw[←hZ];exact b7 _
    by_cases h128:128<=cn
    ·rw [if_pos (decide_eq_true (by omega))]
     unfold pV;refine⟨_,rfl,⟨pos+1,m+1,?_,by omega,by omega,?_,by omega,a6,h3,h4,λl hr a0 hi J=>?_⟩,?_⟩
     ·dsimp only;rw[aP (by omega)]
     ·dsimp only;rw[ai (by omega)];omega
     ·obtain⟨k,g1,g2,g3,W⟩:=h5 l hr a0 hi J
      refine⟨k,g1,g2,g3,?_⟩;rcases W with⟨W,g5⟩|⟨W,g5,z',g6,g7,g8,g9,a5⟩
      ·exfalso
       have:=List.drop_eq_nil_iff.1 g5;omega
      ·right
       obtain⟨c,t,e,c1,c2,c3⟩:=se (z'/2^(7*m));rw[e,X8,Z5 hlt] at a5;obtain⟨e3,e4⟩:=List.cons.inj a5;have ec:cn=c:=by omega
       subst ec;have hS:=b1 z' g6 g5 g9 c2;rcases c3 with⟨c4,_⟩|⟨_,c4,rfl⟩
       ·omega
       ·have b3:z'/2^(7*(m+1))=z'/2^(7*m)/128:=by
         rw[show 7*(m+1)=7*m+7 by omega,Y8,Yl]
        refine⟨W,?_,z',g6,g7,g8,hS,by rw[b3];exact e4⟩;have h1:128*2^(7*m)<=z':=(Nat.le_div_iff_mul_le (Yp (by decide))).1 c4;rcases Xq m 9 with h|h
        ·omega
        ·have:m=9:=by omega
         subst this;have:(128:Nat)*2^(7*9)=1180591620717411303424:=by decide
         omega
     ·dsimp only;rw[aP (by omega)];omega
    ·rw [if_neg (by simp;omega)]
     have hv:(if (Z.tmod 2==0)=true then la a1 (pos:Int) (Zb.wrap (n+(Zb.wrap (Zt.wrap (Z.tdiv 2))))) else la a1 (pos:Int) (Zb.wrap ((Zb.wrap (n - (Zb.wrap (Zt.wrap (Z.tdiv 2))))) - 1)))=la a1 (pos:Int) (Zb.wrap (n+(if Z%2=0 then Z/2 else - (Z/2) - 1))):=by
      rw[X7 a6.1,Xg a6.1,aT]
      by_cases J:Z%2=0
      ·rw[if_pos (by simpa using J),if_pos J]
       congr 1;rw[dX,dX,dX];omega
      ·rw[if_neg (by simpa using J),if_neg J]
       congr 1;rw[dX,dX,dX,dX];omega
     rw[hv];unfold la pV;rw[aI (by simp;omega),Z0];refine⟨_,rfl,⟨pos+1,0,?_,by omega,by omega,rfl,by omega,by simp,λv hv=>?_,by simp;omega,λl hr a0 hi J=>?_⟩,?_⟩
     ·dsimp only;rw[aP (by omega)]
     ·rcases Zf.1 hv with hv|hv
      ·exact h3 v hv
      ·have:v=gI (Zb.wrap (n+(if Z%2=0 then Z/2 else - (Z/2) - 1))):=by simpa using hv
       subst this;exact(Rgt.int _ (gQ _)).ok
     ·obtain⟨k,g1,g2,g3,W⟩:=h5 l hr a0 hi J
      rcases W with⟨W,g5⟩|⟨W,g5,z',g6,g7,g8,g9,a5⟩
      ·exfalso
       have:=List.drop_eq_nil_iff.1 g5;omega
      ·obtain⟨c,t,e,c1,c2,c3⟩:=se (z'/2^(7*m))
       rw[e,X8,Z5 hlt] at a5;obtain⟨e3,e4⟩:=List.cons.inj a5;have ec:cn=c:=by omega
       subst ec;have hS:=b1 z' g6 g5 g9 c2;rcases c3 with⟨_,c4,rfl⟩|⟨c4,_⟩
       ·have c6:z'%2^(7*(m+1))=z':=by
         apply Nat.mod_eq_of_lt;rw[show 7*(m+1)=7*m+7 by omega,Y8,Nat.mul_comm];exact(Xv (Yp (n:=7*m) (show 0<2 by decide))).1 c4
        rw[c6] at hS;have a4:=lm hi hr;have a3:∀i (h:i<l.length),(l.map (·.fInt)).getD i 0=l[i].fInt:=λi h=>by rw[vj (by simpa using h)];simp
        have a2:k+1<l.length:=by omega
        have b5:Zb.wrap (n+(if Z%2=0 then Z/2 else - (Z/2) - 1))=l[k+1].fInt:=by
         have hw:=gQ ((l.map (·.fInt)).getD (k+1) 0 - (l.map (·.fInt)).getD k 0)
         have hu:(if Z%2=0 then Z/2 else - (Z/2) - 1)=Zb.wrap ((l.map (·.fInt)).getD (k+1) 0 - (l.map (·.fInt)).getD k 0):=by
          rw[hS,g8];generalize Zb.wrap ((l.map (·.fInt)).getD (k+1) 0 - (l.map (·.fInt)).getD k 0)=d at*;unfold zig;unfold cC at hw
          by_cases hd:d<0
          ·rw[if_pos hd,if_neg (by omega)];omega
          ·rw[if_neg hd,if_pos (by omega)];omega
         rw[hu,g3,CE (by rw[a3 _ a2];exact(a4 _ (Z3 a2)).2),a3 _ a2]
        rw[b5];refine⟨k+1,by simp;omega,?_,(a3 _ a2).symm,?_⟩
        ·dsimp only
         rw[Z1 a2,←g2];congr 2;exact(a4 _ (Z3 a2)).1.symm
        ·rw[Zi] at e4
         rcases Xq (k+1+1) many with h|h
         ·right
          refine⟨h,by omega,_,ma (gQ _),rfl,rfl,by simp[Nat.mod_one],?_⟩;rw[e4,AO _ h];simp[gK]
         ·left
          exact⟨h,by rw[e4,CH _ h]⟩
       ·omega
     ·dsimp only;rw[aP (by omega)];omega
   ·right
    have:decide ((a1.length:Int)<(many:Int))=false:=by simp;omega
    rw[this,if_neg (by decide)];exact⟨_,rfl,a9 (.inr (by omega))⟩
  ·right
   rw[if_neg (by simp;omega),if_neg (by decide)];exact⟨_,rfl,a9 (.inl (by omega))⟩
 ·have:v=gI (Zb.wrap (bq (b.take 8))):=by simpa using hv
  subst this;exact(Rgt.int _ (gQ _)).ok
 ·have h0:0<l.length:=by omega
  have a4:=lm hi hr;have a3:∀i (h:i<l.length),(l.map (·.fInt)).getD i 0=l[i].fInt:=λi h=>by rw[vj (by simpa using h)];simp
  have b4:=(a4 _ (Z3 h0)).2
  have b2:b=be8 (l[0].fInt%18446744073709551616)++sg (l.map (·.fInt)) many 0:=by
   rw[J];unfold kq sg;rw[a3 0 h0,Zo,a0,X4]
  have h1:b.take 8=be8 (l[0].fInt%18446744073709551616):=by rw[b2];exact Xe (bA _)
  have h2:b.drop 8=sg (l.map (·.fInt)) many 0:=by rw[b2];exact Xw (bA _)
  rw[h1,h2,s8 (by omega) (by omega),we b4];refine⟨0,rfl,?_,(a3 0 h0).symm,?_⟩
  ·dsimp only
   rw[Z1 h0];simp only[List.take_zero,Zi];congr 1;exact(a4 _ (Z3 h0)).1.symm
  ·rcases Xq 1 many with h|h
   ·right
    refine⟨by omega,by omega,_,ma (gQ _),rfl,rfl,by simp[Nat.mod_one],?_⟩;rw[AO _ (by omega)];simp[gK]
   ·left
    exact⟨by omega,CH _ (by omega)⟩
theorem EE {b:List Int}{many:Nat}(hb:Byt b)(hl:b.length<=1048576)(hm:1<=many/\many<=64):∃g,vX b (many:Int)=some g/\iF 3 b many g:=by
  have a2:(∀l:List Ap,(∀v∈l,Rgt v)->l.length=many->b=kr l->False)->iF 3 b many []:=λh=>⟨by simp,by simp,λl J Z he=>(h l J Z (qc he Z hm.1)).elim⟩
  unfold vX;cases hbc:b with
  | nil=>
    rw[if_pos (by decide)];refine⟨_,rfl,?_⟩;rw[←hbc];refine a2 λl J Z he=>?_;rw[hbc] at he;cases he
  | cons c t=>
    rw[←hbc,if_neg (by rw[hbc];simp;omega)];have hc:=hb c (by rw[hbc];simp);obtain⟨cn,rfl⟩:=Za hc.1;have h0:idx b 0=some (cn:Int):=by rw[hbc,cu]
    have b7:1<=b.length:=by rw[hbc];simp
    refine dR (I:=λs:List Ap×Int×Int=>∃a1:Nat,s.2.1=(a1:Int)/\a1<=b.length/\s.2.2=(s.1.length:Int)/\(∀v∈s.1,Rgt v)/\s.1.length<=cn/\∀l:List Ap,(∀v∈l,Rgt v)->l.length=many->b=kr l->s.1=(aD l).take s.1.length/\cn=(aD l).length/\b.drop a1=((aD l).drop s.1.length).flatMap a8++bX (l.map λv=>(dY (aD l) v:Int)) (wid ((aD l).length - 1))) (μ:=λs=>cn - s.1.length) (Q:=iF 3 b many) ?_ ⟨1,rfl,b7,rfl,by simp,by simp,λl J Z he=>?_⟩
    · rintro ⟨W, x, y⟩ ⟨a1,hx,h1,hy,h3,h4,h5⟩
      dsimp only at*;subst hx;subst hy;unfold y8;rw[h0,Z0,ai (by omega)]
      by_cases hlt:W.length<cn
      · rw[if_pos (decide_eq_true (by omega)),bZ h1,Z0,pu (hb.drop _),Z0]
        cases hp:bK (b.drop a1) with
        | none=>
          right;dsimp only;rw[if_pos (by decide)];refine⟨_,rfl,a2 λl J Z he=>?_⟩;obtain⟨g1,g2,g3⟩:=h5 l J Z he;have hk:W.length<(aD l).length:=by omega
          rw[Z5 hk,Zl,Ze] at g3;rw[g3,iE (J _ (((da J).2.1 _).1 (Z3 hk)))] at hp;cases hp
        | some p=>
          obtain⟨v,n⟩:=p;have hn:=kH (hb.drop _) hp;simp only[Zq] at hn;left;dsimp only;rw[if_neg (by simp;omega),aI (by simp;omega),Z0,aP (by omega),ai (by omega)];refine⟨_,rfl,⟨a1+n,by dsimp only;omega,by omega,by simp,λx hx=>?_,by simp;omega,λl J Z he=>?_⟩,by simp;omega⟩
          · rcases Zf.1 hx with hx|hx
            ·exact h3 x hx
            · have:x=v:=by simpa using hx
              subst this;exact(gt (hb.drop _) hp).1
          · obtain⟨g1,g2,g3⟩:=h5 l J Z he
            have hk:W.length<(aD l).length:=by omega
            rw[Z5 hk,Zl,Ze] at g3;rw[g3,iE (J _ (((da J).2.1 _).1 (Z3 hk)))] at hp;obtain⟨rfl,rfl⟩:=Prod.mk.inj (Option.some.inj hp);dsimp only;simp only[Z2,Z7];refine⟨?_,g2,?_⟩
            ·rw[Z1 hk,←g1]
            ·rw[←Xb,g3,Zr]
      · right
        rw[if_neg (by simp;omega)];unfold y7;have c2:W.length=cn:=by omega
        by_cases hW0:W.length=0
        · rw[if_pos (by simpa using hW0)]
          refine⟨_,rfl,a2 λl J Z he=>?_⟩;obtain⟨g1,g2,g3⟩:=h5 l J Z he;have b0:aD l=[]:=Z8 (by omega);cases l with
          |nil=>simp at Z;omega
          |cons a r=>have:=((da J).2.1 a).2 (by simp);rw[b0] at this;cases this
        have a6:Zt.wrap (Zb.wrap ((W.length:Int) - 1))=((W.length - 1:Nat):Int):=by
          rw[ai (by omega),aT];omega
        have b4:wid (W.length - 1)<=8:=oR (Zz (show W.length - 1<256 by omega) (by decide));have c3:many*wid (W.length - 1)<=64*8:=Zw hm.2 b4;rw[if_neg (by simpa using hW0),a6,zG (by omega),Z0,Dq (by omega) (by omega),ai (by omega)]
        have a5:∀l:List Ap,(∀v∈l,Rgt v)->l.length=many->b=kr l->W=aD l/\b.drop a1=bX (l.map λv=>(dY (aD l) v:Int)) (wid (W.length - 1)):=λl J Z he=>by
          obtain⟨g1,g2,g3⟩:=h5 l J Z he;have e2:W.length=(aD l).length:=by omega
          rw[e2,Z6] at g1;rw[e2,Xh] at g3;simp only[Yv,Zi] at g3;exact⟨g1,by rw[e2];exact g3⟩
        by_cases hsz:b.length=a1+(many*wid (W.length - 1)+7)/8
        · rw[if_neg (by simp;omega)]
          have a9:  ∃g,am (λs:(List Ap×Int)=>uL b (many:Int) W (a1:Int) ((wid (W.length - 1):Nat):Int) s.1 s.2) ([],0)=some g/\iF 3 b many g:=by
            refine dR (I:=λs:List Ap×Int=>(∀v∈s.1,Rgt v)/\s.1.length<=many/\s.2=(s.1.length:Int)/\∀l:List Ap,(∀v∈l,Rgt v)->l.length=many->b=kr l->s.1=l.take s.1.length) (μ:=λs=>many - s.1.length) (Q:=iF 3 b many) ?_ ⟨by simp,by simp,rfl,λl _ _ _=>by simp⟩;rintro ⟨a0,an⟩ ⟨k1,k2,b6,k3⟩;dsimp only at*;subst b6;unfold uL y6
            by_cases hlt2:a0.length<many
            · have c0:(a0.length+1)*wid (W.length - 1)<=8*(b.drop a1).length:=by
                have:(a0.length+1)*wid (W.length - 1)<=many*wid (W.length - 1):=Nat.mul_le_mul_right _ hlt2;simp only[Zq];omega
              have e3:Zt.wrap (W.length:Int)=(W.length:Int):=by rw[aT];omega
              rw[if_pos (decide_eq_true (by omega)),bZ h1,Z0,uf (hb.drop _) (by omega) (by omega) c0,Z0,e3]
              have a4:∀l:List Ap,(∀v∈l,Rgt v)->l.length=many->b=kr l->∃h:a0.length<l.length,unp (b.drop a1) (wid (W.length - 1)) a0.length=dY (aD l) l[a0.length]/\W=aD l:=λl J Z he=>by
                obtain⟨g1,g2⟩:=a5 l J Z he;have hk:a0.length<l.length:=by omega
                refine⟨hk,?_,g1⟩;have hp:=lP (((da J).2.1 _).2 (Z3 hk));have b5:=xK (W.length - 1)
                have:=wg (l.map λv=>(dY (aD l) v:Int)) (wid (W.length - 1)) a0.length [] (by simpa using hk) (by
                  simp only[Y5];refine⟨by omega,?_⟩;have:((dY (aD l) l[a0.length]:Nat):Int)<((2^wid (W.length - 1):Nat):Int):=Yy.2 (by rw[g1] at b5 ⊢;omega)
                  rwa[Xd] at this)
                rw[Zp,←g2] at this;simp only[Y5] at this;omega
              by_cases hge:W.length<=unp (b.drop a1) (wid (W.length - 1)) a0.length
              · right
                rw[if_pos (decide_eq_true (by omega))];refine⟨_,rfl,a2 λl J Z he=>?_⟩;obtain⟨hk,g1,g2⟩:=a4 l J Z he;have hp:=lP (((da J).2.1 _).2 (Z3 hk));rw[g1,g2] at hge;omega
              · left
                rw[if_neg (by simp;omega),aw (by omega),Z0,aI (by simp;omega),Z0];refine⟨_,rfl,⟨λx hx=>?_,by simp;omega,?_,λl J Z he=>?_⟩,by simp;omega⟩
                · rcases Zf.1 hx with hx|hx
                  ·exact k1 x hx
                  · have:x=W[unp (b.drop a1) (wid (W.length - 1)) a0.length]:=by simpa using hx
                    subst this;exact h3 _ (Z3 _)
                ·dsimp only;rw[aP (by omega)];simp
                · have q:=k3 l J Z he
                  obtain⟨hk,g1,g2⟩:=a4 l J Z he;have b1:=((da J).2.1 _).2 (Z3 hk)
                  have b3:W[unp (b.drop a1) (wid (W.length - 1)) a0.length]'(by omega)=l[a0.length]:=by
                    have:=wj b1;simp only[g1];subst g2;exact this
                  dsimp only;simp only[Z2,Z7];rw[Z1 hk,←q,b3]
            · right
              rw[if_neg (by simp;omega)];refine⟨_,rfl,λv hv=>(k1 v hv).ok,by omega,λl J Z he=>?_⟩;have q:=k3 l J Z (qc he Z hm.1);have:a0.length=l.length:=by omega
              rw[this,Z6] at q;exact q
          obtain⟨g,b2,c1⟩:=a9;rw[b2];exact⟨g,rfl,c1⟩
        · rw[if_pos (by simp;omega)]
          refine⟨_,rfl,a2 λl J Z he=>?_⟩;obtain⟨g1,g2⟩:=a5 l J Z he;have:=congrArg Y7 g2;simp only[Zq,bX,eP,Zo,Z] at this;omega
    · have a3:b=(((aD l).length:Nat):Int)::((aD l).flatMap a8++bX (l.map λv=>(dY (aD l) v:Int)) (wid ((aD l).length - 1))):=he
      refine⟨by simp,?_,?_⟩
      ·have:=(List.cons.inj (hbc.symm.trans a3)).1;omega
      ·rw[a3];simp
theorem C2 {b:List Int}{many:Nat}{kind:Int}(hk:kind≠0/\kind≠1/\kind≠2/\kind≠3)(hb:Byt b)(hl:b.length<=1048576)(hm:1<=many/\many<=64):∃g,tY b (many:Int)=some g/\iF kind b many g:=by
  have a2:∀l:List Ap,(∀v∈l,Rgt v)->l.length=many->enc kind l=(b,0)->gR l=true/\b=be8 (ia (l.map (·.fInt))%18446744073709551616)++((cm (aQ (l.map (·.fInt))):Nat):Int)::bX (aQ (l.map (·.fInt))) (cm (aQ (l.map (·.fInt)))):=λl Z W J=>by
    have c4:=(em J).1;have c2:kind=4:=by omega
    subst c2;refine⟨(em J).2.2.2.1 (.inr rfl),?_⟩;have:b=mb (l.map (·.fInt)):=qc J W hm.1;rw[this];unfold mb;simp
  have a4:(∀l:List Ap,(∀v∈l,Rgt v)->l.length=many->gR l=true->b=be8 (ia (l.map (·.fInt))%18446744073709551616)++((cm (aQ (l.map (·.fInt))):Nat):Int)::bX (aQ (l.map (·.fInt))) (cm (aQ (l.map (·.fInt))))->False)->iF kind b many []:=λh=>⟨by simp,by simp,λl Z W J=>(h l Z W (a2 l Z W J).1 (a2 l Z W J).2).elim⟩
  have b4:∀l:List Ap,(∀v∈l,Rgt v)->gR l=true->U64 (aQ (l.map (·.fInt)))/\cm (aQ (l.map (·.fInt)))<=64/\∀x∈aQ (l.map (·.fInt)),wid x.toNat<=cm (aQ (l.map (·.fInt))):=λl Z hi=>by
    have a1:=lm hi Z;have h':∀x∈l.map (·.fInt),cC x:=λx hx=>by obtain⟨v,hv,rfl⟩:=Xc.1 hx;exact(a1 v hv).2
    have hu:=ng h';exact⟨hu,kI hu⟩
  have a9:∀l:List Ap,l.length=many->(aQ (l.map (·.fInt))).length=many:=λl W=>by simp[aQ,W]
  unfold tY;have jt:mW b (many:Int) true=some []:=rfl
  by_cases h9:b.length<9
  · rw[if_pos (decide_eq_true (by omega)),jt]
    refine⟨_,rfl,a4 λl Z W hi J=>?_⟩;rw[J] at h9;simp[bA] at h9;omega
  have a5:8<b.length:=by omega
  have hc:=hb b[8] (Z3 a5);obtain⟨cn,b1⟩:=Za hc.1
  have i8:idx b 8=some (cn:Int):=by
    have:=aw (xs:=b) (i:=8) a5;rw[show((8:Nat):Int)=8 from rfl,b1] at this;exact this
  have a3:∀l:List Ap,b=be8 (ia (l.map (·.fInt))%18446744073709551616)++((cm (aQ (l.map (·.fInt))):Nat):Int)::bX (aQ (l.map (·.fInt))) (cm (aQ (l.map (·.fInt))))->cn=cm (aQ (l.map (·.fInt)))/\b.take 8=be8 (ia (l.map (·.fInt))%18446744073709551616)/\b.drop 9=bX (aQ (l.map (·.fInt))) (cm (aQ (l.map (·.fInt)))):=λl J=>by
    have e1:b.take 8=be8 (ia (l.map (·.fInt))%18446744073709551616):=by rw[J];exact Xe (bA _)
    have e2:b.drop 8=((cm (aQ (l.map (·.fInt))):Nat):Int)::bX (aQ (l.map (·.fInt))) (cm (aQ (l.map (·.fInt)))):=by rw[J];exact Xw (bA _)
    rw[Z5 a5,b1] at e2;obtain⟨e3,e4⟩:=List.cons.inj e2;exact⟨by omega,e1,e4⟩
  rw[if_neg (by simp;omega),i8,Z0]
  by_cases h64:64<cn
  · rw[if_pos (decide_eq_true (by omega)),jt]
    refine⟨_,rfl,a4 λl Z W hi J=>?_⟩;have:=(b4 l Z hi).2.1;have:=(a3 l J).1;omega
  have c6:many*cn<=64*64:=Zw hm.2 (by omega);rw[if_neg (by simp;omega),Z0,ai (n:=(cn:Int)) (by omega),Dq (by omega) (by omega),ai (by omega)]
  by_cases hsz:b.length=9+(many*cn+7)/8
  · have e:((b.length:Int) != 9+(((many*cn+7)/8:Nat):Int))=false:=by simp;omega
    have b0:=cP (xs:=b) (lo:=0) (hi:=8) (by omega) (by omega);rw[show((0:Nat):Int)=0 from rfl,show((8:Nat):Int)=8 from rfl,X4] at b0;have b3:=bZ (xs:=b) (k:=9) (by omega);rw[show((9:Nat):Int)=9 from rfl] at b3;rw[e];unfold mW;rw[if_neg (by decide),b0,Z0,mr _ (hb.take 8) (by simp;omega),Z0];refine dR (I:=λs:List Ap×Int=>(∀v∈s.1,Rgt v)/\s.1.length<=many/\s.2=(s.1.length:Int)/\∀l:List Ap,(∀v∈l,Rgt v)->l.length=many->enc kind l=(b,0)->s.1=l.take s.1.length) (μ:=λs=>many - s.1.length) (Q:=iF kind b many) ?_ ⟨by simp,by simp,rfl,λl _ _ _=>by simp⟩;rintro ⟨a0,an⟩ ⟨k1,k2,b7,k3⟩
    dsimp only at*;subst b7;unfold xF xE
    by_cases hlt2:a0.length<many
    · have c3:(a0.length+1)*cn<=8*(b.drop 9).length:=by
        have:(a0.length+1)*cn<=many*cn:=Nat.mul_le_mul_right _ hlt2;simp only[Zq];omega
      left;rw[if_pos (decide_eq_true (by omega)),b3,Z0,i8,Z0,ai (n:=(cn:Int)) (by omega),uf (hb.drop _) (by omega) (by omega) c3,Z0,aI (by simp;omega),Z0];refine⟨_,rfl,⟨λx hx=>?_,by simp;omega,?_,λl Z W J=>?_⟩,by simp;omega⟩
      · rcases Zf.1 hx with hx|hx
        ·exact k1 x hx
        · have:x=gI (Zb.wrap (Zt.wrap (bq (b.take 8)+((unp (b.drop 9) cn a0.length:Nat):Int)))):=by simpa using hx
          subst this;exact .int _ (gQ _)
      ·dsimp only;rw[aP (by omega)];simp
      · have q:=k3 l Z W J
        obtain⟨hi,b6⟩:=a2 l Z W J;obtain⟨g1,g2,g3⟩:=a3 l b6;obtain⟨hu,c5,c0⟩:=b4 l Z hi;have a1:=lm hi Z;have b2:a0.length<l.length:=by omega
        have h1:=a1 _ (Z3 b2);have b5:a0.length<(aQ (l.map (·.fInt))).length:=by rw[a9 l W];omega
        have a6:=wg (aQ (l.map (·.fInt))) cn a0.length [] b5 (by
          have hx:=Z3 b5;have h3:=hu _ hx;have h4:=xK ((aQ (l.map (·.fInt)))[a0.length]).toNat;have h5:=c0 _ hx;have h6:(2:Nat)^wid ((aQ (l.map (·.fInt)))[a0.length]).toNat<=2^cn:=Xj (by decide) (by omega);refine⟨h3.1,?_⟩;have:((((aQ (l.map (·.fInt)))[a0.length]).toNat:Nat):Int)<((2^cn:Nat):Int):=Yy.2 (by omega);rw[Xd] at this;have e:((((aQ (l.map (·.fInt)))[a0.length]).toNat:Nat):Int)=(aQ (l.map (·.fInt)))[a0.length]:=by omega
          rw[e] at this
          exact this)
        rw[Zp,g1,←g3,←g1] at a6;have c1:(aQ (l.map (·.fInt)))[a0.length]=l[a0.length].fInt - ia (l.map (·.fInt)):=by simp[aQ]
        dsimp only;simp only[Z2,Z7];rw[Z1 b2,←q];congr 1
        have e9:Zb.wrap (Zt.wrap (bq (b.take 8)+((unp (b.drop 9) cn a0.length:Nat):Int)))=l[a0.length].fInt:=by
          rw[a6,c1,g2,s8 (by omega) (by omega),aT,dX];have:=h1.2;unfold cC at this;omega
        rw[e9];congr 1;exact h1.1.symm
    · right
      rw[if_neg (by simp;omega)];refine⟨_,rfl,λv hv=>(k1 v hv).ok,by omega,λl Z W J=>?_⟩;have q:=k3 l Z W J;have:a0.length=l.length:=by omega
      rw[this,Z6] at q;exact q
  · have e:((b.length:Int) != 9+(((many*cn+7)/8:Nat):Int))=true:=by simp;omega
    rw[e,jt];refine⟨_,rfl,a4 λl Z W hi J=>?_⟩;obtain⟨g1,_,g3⟩:=a3 l J;have:=congrArg Y7 g3;simp only[Zq,bX,eP,a9 l W] at this;rw[←g1] at this;omega
open Classical in
noncomputable def dec (kind:Int) (b:List Int) (many:Int):List Ap×Int:=
  if kind<0\/4<kind then ([],62) else if many<0\/64<many then ([],61) else
  if h:∃l:List Ap,(∀v∈l,Rgt v)/\(l.length:Int)=many/\enc kind l=(b,0) then (h.choose,0) else ([],60)
theorem EF {a b:List Int}(W:a.length<=4611686018427387903):gw a b=some (decide (a=b)):=by
  unfold gw
  by_cases h:a.length=b.length
  · rw[if_neg (by simp;omega)]
    have:=vZ (f:=λs:Int=>gh a b s) (a.zip b) (λp=>p.1==p.2) false true (λi hi J=>?_) (λi hi J=>?_) ?_
    · rw[this]
      have e:(a.zip b).all (λp=>p.1==p.2)=decide (a=b):=by
        clear this W
        induction a generalizing b with
        | nil=>cases b with
          |nil=>rfl
          |cons _ _=>simp at h
        | cons x a ih=>cases b with
          |nil=>simp at h
          | cons y b=>
            rw[List.zip_cons_cons,V7,ih (by simpa using h)]
            by_cases e:x=y
            ·simp[e]
            ·simp[e]
      rw[e];cases decide (a=b)<;>rfl
    · simp only[List.length_zip] at hi
      simp only[List.getElem_zip,beq_iff_eq] at J;unfold gh;rw[if_pos (decide_eq_true (by omega)),aw (by omega),Z0,aw (by omega),Z0,if_neg (by simpa using J),aP (by omega)]
    · simp only[List.length_zip] at hi
      simp only[List.getElem_zip,beq_eq_false_iff_ne] at J;unfold gh;rw[if_pos (decide_eq_true (by omega)),aw (by omega),Z0,aw (by omega),Z0,if_pos (by simpa using J)];rfl
    · unfold gh pU
      rw[if_neg (by simp;omega)];rfl
  · rw[if_pos (by simp;omega)]
    have:a≠b:=λe=>h (by rw[e]);simp[this]
theorem C3 {kind:Int}{l:List Ap}:(enc kind l).2=0->l.all right=true/\l.length<=64:=λh=>by
  have:enc kind l=((enc kind l).1,0):=W3 rfl h;obtain⟨_,J,W,_⟩:=em this;exact⟨W,J⟩
theorem sh (l:List Int)(w:Nat):(bX l w).length=(l.length*w+7)/8:=eP _ _ _
theorem KK {kind:Int}{l:List Ap}(h:∀v∈l,Rgt v)(hl:l.length<=64):(qO kind l).length<=100000:=by
  obtain⟨w1,w2,w3⟩:=da h;unfold qO;split
  · obtain⟨Z,h2,_⟩:=kp (l:=l)
    have:=pF (bg l) (λr=>r.fMany::a8 r.fValue) 67 λx W=>by
      have:=(ek (h _ (Z x W).2.2)).2;simp;omega
    unfold wh;omega
  split
  · have:=pF (Zv ((l.map (·.fInt)).length - 1)) (gK (l.map (·.fInt))) 10 λx _=>mu (ma (gQ _))
    unfold kq;simp only[Z2,bA,Xy,Zo] at*;omega
  split
  · have Z:=jA (l:=aD l) λv J=>h v ((w2 v).1 J)
    have a0:wid ((aD l).length - 1)<=64:=oR (Zz (show(aD l).length - 1<64 by omega) (by decide));have:=Zw hl a0;unfold kr;simp only[Z9,Z2,sh,Zo];omega
  split
  · by_cases hi:∀x∈l.map (·.fInt),cC x
    · have hu:=ng hi
      have:=Zw hl (kI hu).1;have a1:(aQ (l.map (·.fInt))).length=l.length:=by simp[aQ]
      unfold mb;simp only[Z2,bA,Z7,sh,a1];omega
    · exfalso
      apply hi;intro x W;obtain⟨v,J,rfl⟩:=Xc.1 W;exact(h v J).ok.int
  · have:=jA h
    unfold nh;omega
theorem Gi (kind:Int){l:List Ap}(h:∀v∈l,VOK v):(enc kind l).1.length<=100000:=by
  unfold enc
  repeat' split
  all_goals first|exact Nat.zero_le _|skip
  rename_i W J _ _;exact KK (sC h (by simpa using J)) (by omega)
theorem AP {kind:Int}{b:List Int}{many:Nat}{g:List Ap}{ok:Bool}(hk:0<=kind/\kind<=4)(hm:many<=64)(hg:∀v∈g,VOK v)(hx:∀l:List Ap,(∀v∈l,Rgt v)->l.length=many->enc kind l=(b,0)->g=l/\ok=true):
    (if (!ok)=true\/(enc kind g).2≠0\/g.length≠many\/(enc kind g).1≠b then ([],60) else (g,0))=dec kind b (many:Int):=by
  unfold dec;rw[if_neg (show ¬ (kind<0\/4<kind) by omega),if_neg (show ¬ ((many:Int)<0\/64<(many:Int)) by omega)]
  by_cases h:∃l:List Ap,(∀v∈l,Rgt v)/\(l.length:Int)=(many:Int)/\enc kind l=(b,0)
  · rw[dif_pos h]
    obtain⟨c1,c2,J⟩:=h.choose_spec;obtain⟨e1,e2⟩:=hx _ c1 (by omega) J;rw[←e1] at c2 J;rw[if_neg,e1];rintro (h1|h1|h1|h1)
    ·rw[e2] at h1;cases h1
    ·rw[J] at h1;exact h1 rfl
    ·omega
    ·rw[J] at h1;exact h1 rfl
  · rw[dif_neg h,if_pos]
    apply Classical.byContradiction;intro W;apply h;have Z:(enc kind g).2=0:=Classical.byContradiction λh=>W (.inr (.inl h));have n3:g.length=many:=Classical.byContradiction λh=>W (.inr (.inr (.inl h)));have n4:(enc kind g).1=b:=Classical.byContradiction λh=>W (.inr (.inr (.inr h)));exact⟨g,sC hg (C3 Z).1,by omega,W3 n4 Z⟩
theorem qd {kind many:Int}{b:List Int}(h:kind<0\/4<kind):dec kind b many=([],62):=by unfold dec;rw[if_pos h]
theorem qe {kind many:Int}{b:List Int}(J: ¬ (kind<0\/4<kind))(h:many<0\/64<many):dec kind b many=([],61):=by unfold dec;rw[if_neg J,if_pos h]
theorem Iz {b:List Int}(kind many:Int)(hb:Byt b)(hl:b.length<=1048576):l5 kind b many=some (dec kind b many):=by
  have W:lG kind b many true=some ([],62):=rfl;have a1:lF kind b many true=some ([],61):=rfl;unfold l5
  by_cases h0:kind<0
  ·rw[if_pos (by simpa using h0),W,qd (.inl h0)]
  by_cases h4:4<kind
  ·rw[if_neg (by simpa using h0),decide_eq_true h4,W,qd (.inr h4)]
  have hk: ¬ (kind<0\/4<kind):=by omega
  rw[if_neg (by simpa using h0),decide_eq_false h4];unfold lG;rw[if_neg (by decide)]
  by_cases m0:many<0
  ·rw[if_pos (by simpa using m0),a1,qe hk (.inl m0)]
  by_cases m64:64<many
  ·rw[if_neg (by simpa using m0),decide_eq_true m64,a1,qe hk (.inr m64)]
  rw[if_neg (by simpa using m0),decide_eq_false m64];unfold lF;rw[if_neg (by decide)];obtain⟨n,rfl⟩:=Za (show 0<=many by omega);have J:∀g x,jr g x=some (if x=true then ([],60) else (g,0)):=λg x=>by cases x<;>rfl
  have key:∀(g:List Ap) (r:ah),(∀v∈g,VOK v)->g.length<=1048576->lE kind b (n:Int) g r=some (if (!r.fOk)=true\/(enc kind g).2≠0\/g.length≠n\/(enc kind g).1≠b then ([],60) else (g,0)):=by
    intro g r Z a5;unfold lE;rw[uh kind Z a5,Z0]
    by_cases e1:(!r.fOk)=true
    ·rw[if_pos e1,J,if_pos rfl,if_pos (.inl e1)]
    by_cases e2:(enc kind g).2=0
    · by_cases e3:g.length=n
      · rw[if_neg e1,if_neg (by simpa using e2),if_neg (by simpa using by omega),EF (by have:=Gi kind Z;omega),Z0,J]
        by_cases e4:(enc kind g).1=b
        · rw[if_neg (by simpa using e4),if_neg]
          rintro (h|h|h|h)
          ·exact e1 h
          ·exact h e2
          ·exact h e3
          ·exact h e4
        ·rw[if_pos (by simpa using e4),if_pos (.inr (.inr (.inr e4)))]
      ·rw[if_neg e1,if_neg (by simpa using e2),if_pos (by simp;omega),J,if_pos rfl,if_pos (.inr (.inr (.inl e3)))]
    ·rw[if_neg e1,if_pos (by simpa using e2),J,if_pos rfl,if_pos (.inr (.inl e2))]
  by_cases n0:n=0
  · subst n0
    rw[if_neg (by decide),key _ _ (by simp) (by simp),AP (by omega) (by omega) (by simp) λl _ h2 _=>⟨(Z8 h2).symm,rfl⟩]
  · obtain⟨x,a3,a0,a2,a4⟩:=CG (b:=b) (many:=n) kind hb (by omega) (by omega)
    rw[if_pos (by simp;omega),a3,Z0,key _ _ a0 a2,AP (by omega) (by omega) a0 a4]
theorem C4 {b:List Int}(kind many:Int)(J:Byt b)(hl:b.length<=1048576):tZ kind b many=some (dec kind b many):=by
  have a0:pY kind b many true=some ([],62):=rfl;have a1:pX kind b many true=some ([],61):=rfl;unfold tZ
  by_cases h0:kind<0
  ·rw[if_pos (by simpa using h0),a0,qd (.inl h0)]
  by_cases h4:4<kind
  ·rw[if_neg (by simpa using h0),decide_eq_true h4,a0,qd (.inr h4)]
  have hk: ¬ (kind<0\/4<kind):=by omega
  rw[if_neg (by simpa using h0),decide_eq_false h4];unfold pY;rw[if_neg (by decide)]
  by_cases m0:many<0
  ·rw[if_pos (by simpa using m0),a1,qe hk (.inl m0)]
  by_cases m64:64<many
  ·rw[if_neg (by simpa using m0),decide_eq_true m64,a1,qe hk (.inr m64)]
  rw[if_neg (by simpa using m0),decide_eq_false m64];unfold pX;rw[if_neg (by decide)];obtain⟨n,rfl⟩:=Za (show 0<=many by omega);have j4:∀g x,pW g x=some (if x=true then ([],60) else (g,0)):=λg x=>by cases x<;>rfl
  have key:∀(g:List Ap),(∀v∈g,VOK v)->g.length<=1048576->gk kind b (n:Int) g=some (if (!true)=true\/(enc kind g).2≠0\/g.length≠n\/(enc kind g).1≠b then ([],60) else (g,0)):=by
    intro g hg a2;unfold gk;rw[C0 kind hg a2,Z0]
    by_cases e2:(enc kind g).2=0
    · by_cases e3:g.length=n
      · rw[if_neg (by simpa using e2),if_neg (by simpa using by omega),j4]
        by_cases e4:(enc kind g).1=b
        · rw[if_neg (by simpa using e4),if_neg]
          rintro (h|h|h|h)
          ·cases h
          ·exact h e2
          ·exact h e3
          ·exact h e4
        ·rw[if_pos (by simpa using e4),if_pos (.inr (.inr (.inr e4)))]
      ·rw[if_neg (by simpa using e2),if_pos (by simp;omega),j4,if_pos rfl,if_pos (.inr (.inr (.inl e3)))]
    ·rw[if_pos (by simpa using e2),j4,if_pos rfl,if_pos (.inr (.inl e2))]
  by_cases n0:n=0
  · subst n0
    rw[if_neg (by decide),key _ (by simp) (by simp),AP (by omega) (by omega) (by simp) λl _ h2 _=>⟨(Z8 h2).symm,rfl⟩]
  · rw[if_pos (by simp;omega)]
    have W:∀{o:Option (List Ap)},(∃g,o=some g/\iF kind b n g)->(o.bind λr=>gk kind b (n:Int) r)=some (dec kind b (n:Int)):=by
      rintro o ⟨g,rfl,g1,g2,g3⟩;rw[Z0,key _ g1 g2,AP (by omega) (by omega) g1 λl h1 h2 h3=>⟨g3 l h1 h2 h3,rfl⟩]
    have Z:1<=n/\n<=64:=by omega
    by_cases k0:kind=0
    ·subst k0;rw[if_pos (by decide)];exact W (ED J hl Z)
    by_cases k1:kind=1
    ·subst k1;rw[if_neg (by decide),if_pos (by decide)];exact W (FK J hl Z)
    by_cases k2:kind=2
    ·subst k2;rw[if_neg (by decide),if_neg (by decide),if_pos (by decide)];exact W (C1 J hl Z)
    by_cases k3:kind=3
    ·subst k3;rw[if_neg (by decide),if_neg (by decide),if_neg (by decide),if_pos (by decide)];exact W (EE J hl Z)
    · rw[if_neg (by simpa using k0),if_neg (by simpa using k1),if_neg (by simpa using k2),if_neg (by simpa using k3)]
      exact W (C2 ⟨k0,k1,k2,k3⟩ J hl Z)
theorem KL {kind:Int}{l:List Ap}(h:∀v∈l,Rgt v)(hl:l.length<=64):Byt (qO kind l):=by
 obtain⟨w1,w2,w3⟩:=da h
 have Z:∀{O:Type} (xs:List O) (f:O->List Int),(∀x∈xs,Byt (f x))->Byt (xs.flatMap f):=λxs f hf c hc=>by
  obtain⟨x,J,hc⟩:=List.mem_flatMap.1 hc;exact hf x J c hc
 unfold qO;split
 ·obtain⟨h1,h2,_⟩:=kp (l:=l)
  exact Z _ _ λx J=> .cons (by have:=h1 x J;omega) (td (h _ (h1 x J).2.2))
 split
 ·exact Byt.app (xJ _) (Z _ _ λx _=>Iu _)
 split
 ·exact .cons (by omega) (.app (Z _ _ λv W=>td (h v ((w2 v).1 W))) (AF _ _))
 split
 ·have hi:∀x∈l.map (·.fInt),cC x:=λx J=>by
   obtain⟨v,W,rfl⟩:=Xc.1 J;exact(h v W).ok.int
  have:=(kI (ng hi)).1;exact .app (.app (xJ _) (.cons (by omega) .nil)) (AF _ _)
 ·exact Z _ _ λv W=>td (h v W)
theorem BN (kind:Int){l:List Ap}(h:∀v∈l,VOK v):Byt (enc kind l).1:=by
 unfold enc
 repeat' split
 all_goals first|exact .nil|skip
 rename_i W J _ _;exact KL (sC h (by simpa using J)) (by omega)
theorem yG {kind:Int}{l:List Ap}{b:List Int}(h:∀v∈l,VOK v)(J:enc kind l=(b,0)):∀v∈l,Rgt v:=sC h (em J).2.2.1
theorem MX {kind:Int}{l J:List Ap}{b:List Int}(h:∀v∈l,Rgt v)(h':∀v∈J,Rgt v)(hl:J.length=l.length)(W:enc kind l=(b,0))(a0:enc kind J=(b,0)):J=l:=by
 by_cases h0:l.length=0
 ·rw[Z8 h0,Z8 (hl.trans h0)]
 have hb:Byt b:=by have:=BN kind λv Z=>(h v Z).ok;rw[W] at this;exact this
 have a1:b.length<=100000:=by have:=Gi kind λv Z=>(h v Z).ok;rw[W] at this;exact this
 obtain⟨x,_,_,_,hx⟩:=CG (b:=b) (many:=l.length) kind hb (by omega) ⟨by omega,(em W).2.1⟩;rw[←(hx l h rfl W).1,←(hx J h' hl a0).1]
theorem MY {kind:Int}{l:List Ap}{b:List Int}(h:∀v∈l,VOK v)(J:enc kind l=(b,0)):dec kind b (l.length:Int)=(l,0):=by
 have W:=yG h J;obtain⟨k1,k2,_⟩:=em J;unfold dec;rw[if_neg (show ¬ (kind<0\/4<kind) by omega),if_neg (show ¬ ((l.length:Int)<0\/64<(l.length:Int)) by omega)];have Z:∃l':List Ap,(∀v∈l',Rgt v)/\(l'.length:Int)=(l.length:Int)/\enc kind l'=(b,0):=⟨l,W,rfl,J⟩
 rw[dif_pos Z];obtain⟨c1,c2,c3⟩:=Z.choose_spec;rw[MX W c1 (by omega) J c3]
theorem xR (kind:Int)(b:List Int)(many:Int):(∃l:List Ap,dec kind b many=(l,0)/\(∀v∈l,Rgt v)/\(l.length:Int)=many/\enc kind l=(b,0))\/(∃e,dec kind b many=([],e)/\e≠0):=by
 unfold dec;split
 ·right;exact⟨62,rfl,by decide⟩
 split
 ·right;exact⟨61,rfl,by decide⟩
 split
 ·rename_i h
  left;exact⟨_,rfl,h.choose_spec⟩
 ·right;exact⟨60,rfl,by decide⟩
def Dr (l:List Ap)(s:Int×Int)(k:Nat):Int×Int:=if (enc (k:Int) l).2=0/\(s.2<0\/((enc (k:Int) l).1.length:Int)<s.2) then ((k:Int),((enc (k:Int) l).1.length:Int)) else s
def kt (l:List Ap)(n:Nat):Int×Int:=(Zv n).foldl (Dr l) (0,-1)
def EG (l:List Ap):Int:=(kt l 5).1
theorem AQ (l:List Ap)(n:Nat):kt l (n+1)=Dr l (kt l n) n:=by simp[kt,V5]
theorem Hl (l:List Ap)(n:Nat):((kt l n).2<0/\(kt l n).1=0/\∀k:Nat,k<n->(enc (k:Int) l).2≠0)\/(0<=(kt l n).2/\(∃k:Nat,k<n/\(kt l n).1=(k:Int))/\(enc (kt l n).1 l).2=0/\(kt l n).2=((enc (kt l n).1 l).1.length:Int)/\∀k:Nat,k<n->(enc (k:Int) l).2=0->(kt l n).2<=((enc (k:Int) l).1.length:Int)):=by
 induction n with
 |zero=>left;exact⟨show((-1:Int))<0 by decide,rfl,λk Z=>by omega⟩
 | succ n ih=>
  rw[AQ];generalize kt l n=s at*;unfold Dr
  by_cases h:(enc (n:Int) l).2=0/\(s.2<0\/((enc (n:Int) l).1.length:Int)<s.2)
  ·rw[if_pos h]
   right;refine⟨by dsimp only;omega,⟨n,by omega,rfl⟩,h.1,rfl,λk Z J=>?_⟩;dsimp only;rcases ih with⟨W,_,i2⟩|⟨W,_,_,i4,i5⟩
   ·by_cases e:k=n
    ·subst e;omega
    ·exact absurd J (i2 k (by omega))
   ·by_cases e:k=n
    ·subst e;omega
    ·have:=i5 k (by omega) J
     omega
  ·rw[if_neg h]
   rcases ih with⟨W,i0,i2⟩|⟨W,⟨k0,a1,a0⟩,i3,i4,i5⟩
   ·left
    refine⟨W,i0,λk Z J=>?_⟩
    by_cases e:k=n
    ·subst e;exact h ⟨J,.inl W⟩
    ·exact i2 k (by omega) J
   ·right
    refine⟨W,⟨k0,by omega,a0⟩,i3,i4,λk Z J=>?_⟩
    by_cases e:k=n
    ·subst e
     rcases Int.lt_or_le ((enc (k:Int) l).1.length:Int) s.2 with h2|h2
     ·exact absurd ⟨J,.inr h2⟩ h
     ·exact h2
    ·exact i5 k (by omega) J
theorem MZ {l:List Ap}(h:∀v∈l,VOK v)(J:l.length<=1048576):q8 l=some (EG l):=by
 unfold q8;refine aW (λi=>((kt l i).1,(kt l i).2,(i:Int))) 5 rfl (λi hi=>?_) ?_
 ·dsimp only
  rw[AQ];generalize kt l i=s;unfold vb nF qt Dr;rw[if_pos (decide_eq_true (by omega)),uh _ h J,Z0,aP (by omega)]
  by_cases e:(enc (i:Int) l).2=0
  ·rw[if_pos (by simpa using e)]
   by_cases e2:s.2<0
   ·rw[if_pos (decide_eq_true e2),if_pos rfl,if_pos ⟨e,.inl e2⟩]
   ·rw[if_neg (by simpa using e2)]
    by_cases e3:((enc (i:Int) l).1.length:Int)<s.2
    ·rw[if_pos (decide_eq_true e3),if_pos ⟨e,.inr e3⟩]
    ·rw[if_neg (by simpa using e3),if_neg (λh=>by rcases h.2 with h|h<;>contradiction)]
  ·rw[if_neg (by simpa using e),if_neg (by decide),if_neg (λh=>e h.1)]
 ·rfl
theorem M0 {l:List Ap}:(enc 0 l).2≠0->∀k:Int,0<=k/\k<=4->(enc k l).2≠0:=by
 intro h k Z;unfold enc at*;rw[if_neg (show ¬ ((0:Int)<0\/4<(0:Int)) by omega)] at h;rw[if_neg (show ¬ (k<0\/4<k) by omega)];split
 ·decide
 split
 ·decide
 rename_i J W;rw[if_neg J,if_neg W,if_neg (λh=>by omega)] at h;exfalso;apply h;split<;>rfl
theorem VJ {l:List Ap}:(enc (EG l) l).2=(enc 0 l).2/\(enc (EG l) l).1.length<=(enc 0 l).1.length:=by
 unfold EG;rcases Hl l 5 with⟨_,h,_⟩|⟨_,⟨k,Z,W⟩,h,q2,q3⟩
 ·rw[h];exact⟨rfl,Zy _⟩
 ·have e:(enc 0 l).2=0:=Classical.byContradiction λJ=>M0 J (kt l 5).1 (by omega) h
  have:=q3 0 (by omega) e;rw[show((0:Nat):Int)=0 from rfl] at this;exact⟨by rw[h,e],by omega⟩
def U32 (x:Int):Prop:=0<=x/\x<4294967296
theorem EH (x:Int):U32 (Y4.wrap x):=by rw[jU];unfold U32;omega
theorem BO (x y:Int):U32 (dS .u32 x y):=EH _
theorem SW (x:Int):∃n:Nat,dP .u32 x 15=(n:Int)/\n<16:=by
 unfold dP;rw[jU,BitVec.toNat_and];have h:(Zh Y4.bits 15).toNat=15:=by decide
 rw[h];have:(Zh Y4.bits x).toNat&&&15<=15:=Nat.and_le_right;exact⟨_,by rw[Yh (by omega) (by omega)],by omega⟩
theorem Oq {t:List Int}(h:t.length=16)(W:∀x∈t,U32 x)(x:Int):∃(j:Nat) (y:Int),ix t (dP .u32 x 15)=some j/\t[j]? =some y/\U32 y:=by
 obtain⟨n,Z,h2⟩:=SW x;have J:n<t.length:=by omega
 exact⟨n,t[n],by rw[Z];exact nU J,Z4 J,W _ (Z3 J)⟩
theorem IA {b t:List Int}(hl:b.length<4611686018427387904)(h:t.length=16)(J:∀x∈t,U32 x):∃n,mT b t=some n/\U32 n:=by
 unfold mT;refine dR (λs=>U32 s.1/\∃i:Nat,s.2=(i:Int)/\i<=b.length) (λs=>((b.length:Int) - s.2).toNat) U32 ?_ ⟨⟨by decide,by decide⟩,0,rfl,by omega⟩;rintro ⟨x,i'⟩ ⟨hx,i,hi,hi'⟩;dsimp only at hi;subst hi;dsimp only;unfold pP
 by_cases hlt:i<b.length
 ·left
  rw[if_pos (by simpa using hlt),aw hlt,Z0];obtain⟨j,y,W,Z,h3⟩:=Oq h J (dS .u32 x (Y4.wrap b[i]));rw[W,Z0,Z,Z0];obtain⟨j',z,k1,k2,k3⟩:=Oq h J (dS .u32 y (aX .u32 (dS .u32 x (Y4.wrap b[i])) 4));rw[k1,Z0,k2,Z0,aP (by omega)];exact⟨_,rfl,⟨BO _ _,i+1,rfl,by omega⟩,by dsimp only;omega⟩
 ·right
  rw[if_neg (by simpa using hlt)];exact⟨_,rfl,BO _ _⟩
theorem Ot {b:List Int}(hl:b.length<4611686018427387904):∃n,iB b=some n/\U32 n:=by
 unfold iB;refine dR (λs=>(∃i:Nat,s.1=(i:Int)/\i<=16)/\s.2.length=16/\∀x∈s.2,U32 x) (λs=>(16 - s.1).toNat) U32 ?_ ⟨⟨0,rfl,by omega⟩,by simp,λx J=>by rw[Yi J];exact⟨by decide,by decide⟩⟩;rintro ⟨i',t⟩ ⟨⟨i,hi,hi'⟩,ht,hu⟩;dsimp only at hi ht hu;subst hi;dsimp only;unfold pQ
 by_cases hlt:i<16
 ·left
  rw[if_pos (by simpa using by omega)]
  have:∃r,am (λs:(Int×Int)=>mU (i:Int) t s.1 s.2) (Y4.wrap (i:Int),0)=some r/\∃v,U32 v/\r= .inl (((i+1:Nat):Int),t.set i v):=by
   refine dR (λs=>U32 s.1/\∃i:Nat,s.2=(i:Int)/\i<=4) (λs=>(4 - s.2).toNat) _ ?_ ⟨EH _,0,rfl,by omega⟩;rintro ⟨x,q'⟩ ⟨J,q,hq,a0⟩;dsimp only at hq;subst hq;dsimp only;unfold mU
   by_cases hql:q<4
   ·left
    rw[if_pos (by simpa using by omega),aP (by omega)];exact⟨_,rfl,⟨BO _ _,q+1,rfl,by omega⟩,by dsimp only;omega⟩
   ·right
    rw[if_neg (by simpa using by omega)];unfold sP sO;have Z:i<t.length:=by omega
    rw[nU Z,Z0,Z4 Z,Z0,aP (by omega)];exact⟨_,rfl,x,J,rfl⟩
  obtain⟨r,W,v,hv,rfl⟩:=this;refine⟨_,W,⟨⟨i+1,rfl,by omega⟩,by simpa using ht,λx J=>?_⟩,by dsimp only;omega⟩;rcases List.mem_or_eq_of_mem_set J with h|h
  ·exact hu x h
  ·rw[h];exact hv
 ·right
  rw[if_neg (by simpa using by omega)];obtain⟨n,W,h2⟩:=IA hl ht hu;exact⟨n,by rw[W];rfl,h2⟩
noncomputable def fD (b:List Int):Int:=(iB b).getD 0
theorem tp {b:List Int}(h:b.length<4611686018427387904):iB b=some (fD b)/\U32 (fD b):=by
 obtain⟨n,J,W⟩:=Ot h;unfold fD;rw[J];exact⟨rfl,W⟩
def be4 (n:Int):List Int:=[n/2^24%256,n/2^16%256,n/2^8%256,n%256]
theorem yH (n:Int):Byt (be4 n):=by
 unfold be4;exact .cons (by omega) (.cons (by omega) (.cons (by omega) (.cons (by omega) .nil)))
theorem eV (n:Int):(be4 n).length=4:=rfl
theorem AR {x:Int}{k:Nat}(h:k<=32):aX .u32 x (k:Int)=x/2^k:=by
 unfold aX;rw[Xf _ (V8 (Int.pow_pos (by decide)))];congr 2;simp[IntKind.bits];omega
theorem Hm {x:Int}{k:Nat}(h:k<=64):aX .i64 x (k:Int)=x/2^k:=by
 unfold aX;rw[Xf _ (V8 (Int.pow_pos (by decide)))];congr 2;simp[IntKind.bits];omega
noncomputable def pg (b:List Int):List Int:=b++be4 (fD b)
theorem CI {b:List Int}(W:b.length<=1000000000000):kY b=some (pg b):=by
 unfold kY;rw[(tp (b:=b) (by omega)).1,Z0,bB,bB,bB,bB];have J:=AR (x:=fD b) (k:=24) (by omega);have e2:=AR (x:=fD b) (k:=16) (by omega);have h:=AR (x:=fD b) (k:=8) (by omega);rw[show((24:Nat):Int)=24 from rfl] at J;rw[show((16:Nat):Int)=16 from rfl] at e2;rw[show((8:Nat):Int)=8 from rfl] at h;rw[J,e2,h,aI (by simp;omega),Z0]
 rfl
theorem IB {v:Ap}(h:Rgt v):rv v=some (a8 v):=by
 unfold rv;rw[vi (l:=[v]) (λx J=>by rw[Xi.1 J];exact h) (by simp),Z0];simp only[wc,Z7,Zl,Yv,Zp];rw[uc,Z0]
def ot:List Ap->Ap
 |[]=>it
 |v::l=>l.foldl (λm x=>if ltV x m then x else m) v
def ou:List Ap->Ap
 |[]=>it
 |v::l=>l.foldl (λm x=>if ltV m x then x else m) v
theorem wm (a b:Ap):0<lj a b↔ltV b a=true:=by
 unfold lj;split
 ·rename_i h;simp[tg h]
 ·split
  ·rename_i h;simp[h]
  ·rename_i h;simp at h;simp[h]
theorem xS {f:Ap->Ap->Ap}(J:∀m x,f m x=m\/f m x=x):∀(l:List Ap) (v:Ap),l.foldl f v∈v::l
 |[],v=>by simp
 | x::l,v=>by
  have:=xS J l (f v x);rw[Zu];rcases J v x with h|h
  ·rw[h] at this ⊢
   rcases X5.1 this with h'|h'
   ·rw[h'];simp
   ·simp[h']
  ·rw[h] at this ⊢
   simp[this]
theorem zI {l:List Ap}(h:l≠[]):ot l∈l:=by
 cases l with
 |nil=>exact absurd rfl h
 |cons v l=>exact xS (λm x=>by split<;>simp) l v
theorem zJ {l:List Ap}(h:l≠[]):ou l∈l:=by
 cases l with
 |nil=>exact absurd rfl h
 |cons v l=>exact xS (λm x=>by split<;>simp) l v
theorem Hn {l:List Ap}(h:l≠[])(J:l.length<=1048576):ge l cD=some (ot l):=by
 cases l with
 |nil=>exact absurd rfl h
 |cons v r=>
 unfold ge;rw[if_neg (by simp;omega)];unfold n5;rw[cu,Z0];refine aW (λi=>(((i+1:Nat):Int),(r.take i).foldl (λm x=>if ltV x m then x else m) v)) r.length (by simp) (λi hi=>?_) ?_
 ·dsimp only
  unfold jO;have hi':i+1<(v::r).length:=by simp;omega
  simp only[Z9] at J;rw[if_pos (by simpa using by omega),aw hi',Z0,eQ,Z0];rw[i6 hi];unfold jN;have e:(v::r)[i+1]=r[i]:=rfl;rw[e,aP (by omega)]
  by_cases hc:ltV r[i] ((r.take i).foldl (λm x=>if ltV x m then x else m) v)=true
  ·rw[if_pos (decide_eq_true ((lO _ _).2 hc)),Z0,if_pos hc]
  ·rw[if_neg (by simpa using λh=>hc ((lO _ _).1 h)),if_neg hc]
 ·unfold jO nZ
  dsimp only;rw[if_neg (by simp),Z6]
  rfl
theorem Ho {l:List Ap}(h:l≠[])(J:l.length<=1048576):gg l cD=some (ou l):=by
 cases l with
 |nil=>exact absurd rfl h
 |cons v r=>
 unfold gg;rw[if_neg (by simp;omega)];unfold n8;rw[cu,Z0];refine aW (λi=>(((i+1:Nat):Int),(r.take i).foldl (λm x=>if ltV m x then x else m) v)) r.length (by simp) (λi hi=>?_) ?_
 ·dsimp only
  unfold jQ;have hi':i+1<(v::r).length:=by simp;omega
  simp only[Z9] at J;rw[if_pos (by simpa using by omega),aw hi',Z0,eQ,Z0];rw[i6 hi];unfold jP;have e:(v::r)[i+1]=r[i]:=rfl;rw[e,aP (by omega)]
  by_cases hc:ltV ((r.take i).foldl (λm x=>if ltV m x then x else m) v) r[i]=true
  ·rw[if_pos (decide_eq_true ((wm _ _).2 hc)),Z0,if_pos hc]
  ·rw[if_neg (by simpa using λh=>hc ((wm _ _).1 h)),if_neg hc]
 ·unfold jQ n7
  dsimp only;rw[if_neg (by simp),Z6]
  rfl
def fz (l:List Ap):Nat:=(l.filter λv=>v.fKind==0).length
def Hp (kind:Int)(l:List Ap):bv:=⟨kind,(l.length:Int),ot l,ou l,(fz l:Int),0⟩
theorem wo (i:bv):∀(l:List Ap) (n:Nat),n+l.length<=1048576->fP (λ(s:bv) (x:Ap)=>fw s x) { i with fNulls:=(n:Int) } l=some ({ i with fNulls:=((n+fz l:Nat):Int) },true)
 |[],n,_=>by simp[fP,fz]
 | v::l,n,h=>by
  simp only[Z9] at h;simp only[fP]
  by_cases hv:(v.fKind==0)=true
  ·have e:fw { i with fNulls:=(n:Int) } v=some ({ i with fNulls:=((n+1:Nat):Int) },true):=by
    unfold fw;rw[if_pos hv,aP (by omega)]
   rw[e,Z0,if_pos rfl,wo i l (n+1) (by omega)];simp only[fz,List.filter_cons,hv,if_true,Z9];congr 4;omega
  ·have e:fw { i with fNulls:=(n:Int) } v=some ({ i with fNulls:=(n:Int) },true):=by
    unfold fw;rw[if_neg hv]
   rw[e,Z0,if_pos rfl,wo i l n (by omega)];simp only[fz,List.filter_cons,hv,Zc,if_false]
theorem wq (l:List Ap):fz l<=l.length:=List.length_filter_le _ _
theorem Gj {l:List Ap}(kind:Int)(h:l≠[])(J:l.length<=1048576):lB kind l=some (Hp kind l):=by
 unfold lB jH;rw[Hn h J,Z0,Ho h J,Z0,Z0];rw[show(⟨kind,(l.length:Int),ot l,ou l,0,0⟩:bv)={ (⟨kind,(l.length:Int),ot l,ou l,0,0⟩:bv) with fNulls:=((0:Nat):Int) } from rfl,wo _ l 0 (by omega),Z0,if_pos rfl,Nat.zero_add]
 rfl
theorem IC {kind:Int}{l:List Ap}(h:∀v∈l,Rgt v)(hl:l.length<=64):(qO kind l).length<=60000:=by
 obtain⟨w1,w2,w3⟩:=da h;unfold qO;split
 ·obtain⟨Z,h2,_⟩:=kp (l:=l)
  have:=pF (bg l) (λr=>r.fMany::a8 r.fValue) 67 λx W=>by
   have:=(ek (h _ (Z x W).2.2)).2;simp;omega
  unfold wh;omega
 split
 ·have:=pF (Zv ((l.map (·.fInt)).length - 1)) (gK (l.map (·.fInt))) 10 λx _=>mu (ma (gQ _))
  unfold kq;simp only[Z2,bA,Xy,Zo] at*;omega
 split
 ·have Z:=jA (l:=aD l) λv J=>h v ((w2 v).1 J)
  have a0:wid ((aD l).length - 1)<=64:=oR (Zz (show(aD l).length - 1<64 by omega) (by decide));have:=Zw hl a0;unfold kr;simp only[Z9,Z2,sh,Zo];omega
 split
 ·by_cases hi:∀x∈l.map (·.fInt),cC x
  ·have hu:=ng hi
   have:=Zw hl (kI hu).1;have a1:(aQ (l.map (·.fInt))).length=l.length:=by simp[aQ]
   unfold mb;simp only[Z2,bA,Z7,sh,a1];omega
  ·exfalso
   apply hi;intro x W;obtain⟨v,J,rfl⟩:=Xc.1 W;exact(h v J).ok.int
 ·have:=jA h
  unfold nh;omega
theorem zK {kind:Int}{l:List Ap}{b:List Int}(h:∀v∈l,VOK v)(J:enc kind l=(b,0)):b.length<=60000:=by
 obtain⟨_,W,_,_,Z⟩:=em J;rcases Z with⟨_,rfl⟩|⟨_,rfl⟩
 ·simp
 ·exact IC (yG h J) W
def be2 (n:Nat):List Int:=[((n/256:Nat):Int),((n%256:Nat):Int)]
def cN (k m z:Int)(v w:Ap)(d:List Int):List Int:=k::m::z::(a8 v++(a8 w++(be2 d.length++d)))
def mc (kind:Int)(l:List Ap):Int:=if kind= -1 then EG l else kind
def nW (k:Int)(l:List Ap):List Int:=cN k (l.length:Int) (fz l:Int) (ot l) (ou l) (enc k l).1
noncomputable def wr (kind:Int) (l:List Ap):List Int×Int:=
 if l=[] then ([],70) else if (enc (mc kind l) l).2≠0 then ([],(enc (mc kind l) l).2) else (pg (nW (mc kind l) l),0)
theorem ID {k m z:Int}{v w:Ap}{d:List Int}(Z:0<=k/\k<=4)(hm:1<=m/\m<=64)(hz:0<=z/\z<=m)(W:Rgt v)(h:Rgt w)(J:Byt d)(hl:d.length<65536):Byt (cN k m z v w d):=by
 unfold cN be2;refine .cons (by omega) (.cons (by omega) (.cons (by omega) (.app (td W) (.app (td h) (.app (.cons (by omega) (.cons (by omega) .nil)) J)))))
theorem ni {k m z:Int}{v w:Ap}{d:List Int}:(cN k m z v w d).length=5+(a8 v).length+(a8 w).length+d.length:=by
 unfold cN be2;simp;omega
theorem KM {l:List Ap}(kind:Int)(h:∀v∈l,VOK v)(Z:l.length<=1048576):oE kind l=some (wr kind l):=by
 have key:∀k,l≠[]->nG l k=some (if (enc k l).2≠0 then ([],(enc k l).2) else (pg (nW k l),0)):=by
  intro k J;unfold nG;rw[uh k h Z,Z0]
  by_cases he:(enc k l).2=0
  ·have a0:enc k l=((enc k l).1,0):=W3 rfl he
   obtain⟨W,b2,_⟩:=em a0;have hR:=yG h a0;have a6:=hR _ (zI J);have a9:=hR _ (zJ J);have b0:=zK h a0;have b1:=BN k h;have hn:=wq l;have h0:0<l.length:=Xa.2 J;have l1:=(ek a6).2;have l2:=(ek a9).2;rw[if_neg (by simpa using he),if_neg (by simpa using he),Gj k J Z,Z0];have e8:=Hm (x:=((enc k l).1.length:Int)) (k:=8) (by omega);rw[show((8:Nat):Int)=8 from rfl] at e8;simp only[Hp];rw[IB a6,Z0,aI (by simp;omega),Z0,IB a9,Z0,aI (by simp;omega),Z0,aI (by simp;omega),Z0,aI (by simp;omega),Z0]
   have e:([W4.wrap k,W4.wrap (l.length:Int),W4.wrap (fz l:Int)]++a8 (ot l)++a8 (ou l)++[W4.wrap (aX .i64 ((enc k l).1.length:Int) 8),W4.wrap ((enc k l).1.length:Int)]++(enc k l).1)=nW k l:=by
    unfold nW cN be2;rw[bB,bB,bB,bB,bB,e8];have a1:k%256=k:=by omega
    have a2:(l.length:Int)%256=(l.length:Int):=by omega
    have a3:(fz l:Int)%256=(fz l:Int):=by omega
    have a4:((enc k l).1.length:Int)/2^8%256=(((enc k l).1.length/256:Nat):Int):=by omega
    have a5:((enc k l).1.length:Int)%256=(((enc k l).1.length%256:Nat):Int):=by omega
    rw[a1,a2,a3,a4,a5];simp
   have s2:(nW k l).length<=1000000000000:=by unfold nW;rw[ni];omega
   rw[e,CI s2,Z0]
  ·rw[if_pos (by simpa using he),if_pos he]
 unfold oE wr
 by_cases J:l=[]
 ·subst J;rfl
 ·have h0:0<l.length:=Xa.2 J
  rw[if_neg (by simp;omega),if_neg J];unfold mc
  by_cases W:kind= -1
  ·rw[if_pos (by simpa using W),if_pos W,MZ h Z,Z0,key _ J]
  ·rw[if_neg (by simpa using W),if_neg W,key _ J]
theorem zL {b:List Int}(W:Byt b)(hl:b.length<140737488355328):mn b=some (match bK b with|some (v,n)=>(v,b.drop n,true)|none=>(it,[],false)):=by
 unfold mn
 have step:∀k,1<=k->k<=b.length->k<=66->nJ b (k:Int)=match bK (b.take k) with|some (v,n)=>(if n=k then some (.inr (v,b.drop k,true)) else some (.inl ((k+1:Nat):Int)))|none=>some (.inl ((k+1:Nat):Int)):=by
  intro k J Z h3;have hs:=cP (xs:=b) (lo:=0) (hi:=k) (by omega) Z;rw[show((0:Nat):Int)=0 from rfl] at hs;unfold nJ nI;rw[if_pos (by simpa using by omega),if_pos (by simp;omega),hs,Z0,aI (by simp;omega),Z0,X4,Yz,ud (W.take _),Z0,bZ Z,aP (by omega)];have a0:(b.take k).length=k:=by simp;omega
  cases hp:bK (b.take k) with
  |none=>rfl
  |some x=>
   obtain⟨v,n⟩:=x;simp only[a0]
   by_cases e:n=k
   ·rw[if_pos e,if_pos e];rfl
   ·rw[if_neg e,if_neg e];rfl
 cases hp:bK b with
 | some x=>
  obtain⟨v,n⟩:=x;have hn:=kH W hp;refine aW (λi=>((i+1:Nat):Int)) (n - 1) rfl (λi hi=>?_) ?_
  ·rw[step (i+1) (by omega) (by omega) (by omega)]
   cases hq:bK (b.take (i+1)) with
   |none=>rfl
   |some y=>
    obtain⟨v',n'⟩:=y;obtain⟨J,Z⟩:=sc W hq;rw[hp] at J;simp only[Option.some.injEq,Prod.mk.injEq] at J;omega
  ·have e:n - 1+1=n:=by omega
   rw[e,step n (by omega) (by omega) (by omega),wO W hp (Zy _)];simp
 | none=>
  refine aW (λi=>((i+1:Nat):Int)) (min b.length 66) rfl (λi hi=>?_) ?_
  ·rw[step (i+1) (by omega) (by omega) (by omega)]
   cases hq:bK (b.take (i+1)) with
   |none=>rfl
   |some y=>
    obtain⟨v',n'⟩:=y;obtain⟨J,Z⟩:=sc W hq;rw[hp] at J;cases J
  ·have e0:nI b ((min b.length 66+1:Nat):Int) false=some (.inr (it,[],false)):=rfl
   unfold nJ;split
   ·have:decide (((min b.length 66+1:Nat):Int)<=66)=false:=by
     rename_i h;simp at h ⊢;omega
    rw[this,e0]
   ·exact e0
theorem orI {a b:Nat}(J:a<65536)(W:b<65536):bOr .i64 (a:Int) (b:Int)=((a|||b:Nat):Int):=by
 unfold bOr
 have h:(Zh Zb.bits (a:Int)).toNat=a:=by
  show(Zh 64 (a:Int)).toNat=a;rw[Zx];omega
 have Z:(Zh Zb.bits (b:Int)).toNat=b:=by
  show(Zh 64 (b:Int)).toNat=b;rw[Zx];omega
 rw[BitVec.toNat_or,h,Z];have:a|||b<2^16:=Nat.or_lt_two_pow (by simpa using J) (by simpa using W)
 have e:(2:Nat)^16=65536:=by decide
 rw[ai (by omega)]
theorem IE {x y:Int}(J:0<=x/\x<256)(h:0<=y/\y<256):bOr .i64 (dZ .i64 (Zb.wrap x) 8) (Zb.wrap y)=((x.toNat*256+y.toNat:Nat):Int):=by
 rw[te J,te h];obtain⟨a,rfl⟩:=Za J.1;obtain⟨b,rfl⟩:=Za h.1
 have e:dZ .i64 (a:Int) 8=((2^8*a:Nat):Int):=by
  unfold dZ;have:(2:Int)^(min (8:Int).toNat Zb.bits)=256:=by decide
  rw[this,ai (by omega)];omega
 rw[e,orI (by omega) (by omega),←Y2 (by omega)];simp only[Yg];omega
structure Blk (b:List Int)(k m z:Int)(v w:Ap)(d r:List Int):Prop where
 eq:b=cN k m z v w d++r
 hk:0<=k/\k<=4
 hm:1<=m/\m<=64
 hz:0<=z/\z<=m
 hv:Rgt v
 hw:Rgt w
 hd:d.length<65536
 hr:4<=r.length
def Ds (k m z:Int)(v w:Ap)(d:List Int):bv:=⟨k,m,v,w,z,((cN k m z v w d).length+4:Nat)⟩
theorem Blk.parts {b:List Int}{k m z k' m' z':Int}{v w:Ap}{d r:List Int}(h:Blk (k::m::z::b) k' m' z' v w d r):k=k'/\m=m'/\z=z'/\bK b=some (v,(a8 v).length)/\bK (b.drop (a8 v).length)=some (w,(a8 w).length)/\(b.drop (a8 v).length).drop (a8 w).length=be2 d.length++(d++r):=by
 have:=h.eq;unfold cN at this;simp only[X8,List.cons.injEq,Ze] at this;obtain⟨Z,h2,W,J⟩:=this;refine⟨Z,h2,W,?_,?_,?_⟩
 ·rw[J,iE h.hv]
 ·rw[J,Zr,iE h.hw]
 ·rw[J,Zr,Zr]
theorem Blk.one {b:List Int}{k m z k' m' z':Int}{v w v' w':Ap}{d r Z r':List Int}(h:Blk b k m z v w d r)(h':Blk b k' m' z' v' w' Z r'):k=k'/\m=m'/\z=z'/\v=v'/\w=w'/\d=Z/\r=r':=by
 have e:=h.eq;unfold cN at e;simp only[X8] at e;rw[e] at h h';obtain⟨a1,a2,a3,a4,a5,a6⟩:=h.parts;obtain⟨b1,b2,b3,W,b5,J⟩:=h'.parts;rw[a4] at W;simp only[Option.some.injEq,Prod.mk.injEq] at W;obtain⟨rfl,_⟩:=W;rw[a5] at b5;simp only[Option.some.injEq,Prod.mk.injEq] at b5;obtain⟨rfl,_⟩:=b5;rw[a6] at J;unfold be2 at J;simp only[X8,Zi,List.cons.injEq] at J;have a0:d.length=Z.length:=by omega
 obtain⟨c1,c2⟩:=List.append_inj J.2.2 a0;exact⟨b1,b2,b3,rfl,rfl,c1,c2⟩
abbrev AS:bv:=⟨0,0,Ap.zero,Ap.zero,0,0⟩
theorem BP {b:List Int}(hb:Byt b)(hl:b.length<=1000000000000):
  (∃k m z v w d r,Blk b k m z v w d r/\iY b=some (Ds k m z v w d,d,true))\/(iY b=some (AS,[],false)/\∀k m z v w d r,¬ Blk b k m z v w d r):=by
 have eU:∀{b:List Int},b.length<3->∀k m z v w d r,¬ Blk b k m z v w d r:=by
  intro b hs k m z v w d r h;have:=h.eq;rw[this] at hs;simp[ni] at hs;omega
 have c7:∀b,gE b true=some (AS,[],false):=λb=>rfl
 match b,hb,hl with
 |[],_,_=>exact .inr ⟨rfl,eU (by simp)⟩
 |[_],_,_=>exact .inr ⟨rfl,eU (by simp)⟩
 |[_,_],_,_=>exact .inr ⟨rfl,eU (by simp)⟩
 | k ::m::z::t,hb,hl=>
  have b0:=hb.head;have b1:=hb.tail.head;have b2:=hb.tail.tail.head;have Z:Byt t:=hb.tail.tail.tail;simp only[Z9] at hl;have i0:idx (k::m::z::t) 0=some k:=cu _ _;have i1:idx (k::m::z::t) 1=some m:=ll _ _ _;have i2:idx (k::m::z::t) 2=some z:=aw (xs:=k::m::z::t) (i:=2) (by simp);have e3:sub (k::m::z::t) 3 ((k::m::z::t).length:Int)=some t:=bZ (xs:=k::m::z::t) (k:=3) (by simp)
  have b5:iY (k::m::z::t)=if 4<k\/m=0\/64<m\/m<z then some (AS,[],false) else gE (k::m::z::t) false:=by
   unfold iY;rw[if_neg (by simp;omega),i0,Z0,i1,Z0,Z0,i2,Z0,Z0]
   by_cases c1:4<k
   ·rw[if_pos (by simpa using c1),if_pos (.inl c1)];rfl
   rw[if_neg (by simpa using c1)]
   by_cases c2:m=0
   ·rw[if_pos (by simpa using c2),if_pos (.inr (.inl c2))];rfl
   rw[if_neg (by simpa using c2)]
   by_cases c3:64<m
   ·rw[if_pos (by simpa using c3),if_pos (.inr (.inr (.inl c3)))];rfl
   rw[if_neg (by simpa using c3)]
   by_cases c4:m<z
   ·rw[if_pos (.inr (.inr (.inr c4))),decide_eq_true c4];rfl
   rw[if_neg (by omega),decide_eq_false c4]
  rw[b5]
  by_cases c:4<k\/m=0\/64<m\/m<z
  ·rw[if_pos c]
   refine .inr ⟨rfl,λk' m' z' v w d r h=>?_⟩;obtain⟨rfl,rfl,rfl,_⟩:=h.parts;have:=h.hk;have:=h.hm;have:=h.hz;omega
  rw[if_neg c];unfold gE;rw[if_neg (by decide),i0,Z0,i1,Z0,i2,Z0,e3,Z0,zL Z (by omega),Z0];cases hp:bK t with
  |none=>
   have hf:∃x,mn ([]:List Int)=some x:=⟨_,zL (b:=[]) .nil (by simp)⟩
   obtain⟨x,hx⟩:=hf;simp only;rw[hx,Z0];refine .inr ⟨rfl,λk' m' z' v w d r h=>?_⟩;have:=h.parts.2.2.2.1;rw[hp] at this;cases this
  | some q=>
   obtain⟨v,n1⟩:=q;have d0:=kH Z hp;simp only;rw[zL (Z.drop _) (by simp;omega),Z0];cases hp2:bK (t.drop n1) with
   |none=>
    refine .inr ⟨rfl,λk' m' z' v' w d r h=>?_⟩;obtain⟨_,_,_,h1,h2,_⟩:=h.parts;rw[hp] at h1;simp only[Option.some.injEq,Prod.mk.injEq] at h1;rw[←h1.2,hp2] at h2;cases h2
   | some q2=>
    obtain⟨w,n2⟩:=q2;have d1:=kH (Z.drop _) hp2;simp only[Yb,Zc,if_false];obtain⟨b3,t1,a9,b6⟩:=gt Z hp;obtain⟨c0,t2,a5,b4⟩:=gt (Z.drop _) hp2;have a1:(t.drop n1).drop n2=t2:=by rw[a5,b4,Zr]
    have a4:Byt t2:=by rw[←a1];exact(Z.drop _).drop _
    have b7:t.drop n1=t1:=by rw[a9,b6,Zr]
    have a2:t=a8 v++(a8 w++t2):=by rw[a9,←a5,b7]
    have a0:t2.length<2->∀k' m' z' v' w' d r,¬ Blk (k::m::z::t) k' m' z' v' w' d r:=by
     intro h2 k' m' z' v' w' d r h;obtain⟨_,_,_,p1,W,J⟩:=h.parts;rw[hp] at p1;simp only[Option.some.injEq,Prod.mk.injEq] at p1;rw[←p1.2,hp2] at W;simp only[Option.some.injEq,Prod.mk.injEq] at W;rw[←p1.2,←W.2,a1] at J;rw[J] at h2;simp[be2] at h2;omega
    unfold o5;simp only[a1]
    match t2,a2,a1,a4,a0,a5 with
    |[],_,_,_,a0,_=>exact .inr ⟨by rw[if_pos (by decide)],a0 (by simp)⟩
    |[_],_,_,_,a0,_=>exact .inr ⟨by rw[if_pos (by simp)],a0 (by simp)⟩
    | x::y::rest,a2,a1,a4,a0,a5=>
     have bx:=a4.head;have by_:=a4.tail.head;obtain⟨n,hn⟩:∃n,n=x.toNat*256+y.toNat:=⟨_,rfl⟩
     have e2:sub (x::y::rest) 2 ((x::y::rest).length:Int)=some rest:=bZ (xs:=x::y::rest) (k:=2) (by simp);have c5:rest.length<=t.length:=by rw[a2];simp;omega
     rw[if_neg (by simp;omega),cu,Z0,ll,Z0,e2,Z0,IE bx by_,←hn,ai (by omega)];have c6:n<65536:=by omega
     by_cases hrl:rest.length<n+4
     ·rw[if_pos (by simpa using by omega)]
      refine .inr ⟨rfl,λk' m' z' v' w' d r h=>?_⟩;obtain⟨_,_,_,p1,W,J⟩:=h.parts;rw[hp] at p1;simp only[Option.some.injEq,Prod.mk.injEq] at p1;rw[←p1.2,hp2] at W;simp only[Option.some.injEq,Prod.mk.injEq] at W;rw[←p1.2,←W.2,a1] at J;unfold be2 at J;simp only[X8,Zi,List.cons.injEq] at J;have h4:=h.hr;have h5:rest.length=d.length+r.length:=by rw[J.2.2];simp
      omega
     ·have e4:=cP (xs:=rest) (lo:=0) (hi:=n) (by omega) (by omega)
      rw[show((0:Nat):Int)=0 from rfl,X4] at e4;rw[if_neg (by simpa using by omega),e4,Z0];have a6:(rest.take n).length=n:=by simp;omega
      have hB:Blk (k::m::z::t) k m z v w (rest.take n) (rest.drop n):=by
       refine⟨?_,by omega,by omega,by omega,b3,c0,by omega,by simp;omega⟩;rw[a2];unfold cN be2;rw[a6];have q1:((n/256:Nat):Int)=x:=by omega
       have q2:((n%256:Nat):Int)=y:=by omega
       rw[q1,q2];simp
      refine .inl ⟨k,m,z,v,w,rest.take n,rest.drop n,hB,?_⟩
      have a3:(k::m::z::t).length=3+(a8 v).length+(a8 w).length+2+rest.length:=by
       rw[a2];simp;omega
      rw[a3];unfold Ds;rw[ni,a6,ai (show -9223372036854775808<=k/\_ by omega),ai (show -9223372036854775808<=m/\_ by omega),ai (show -9223372036854775808<=z/\_ by omega)]
      have q3:Zb.wrap (((3+(a8 v).length+(a8 w).length+2+rest.length:Nat):Int) - (rest.length:Int))=((5+(a8 v).length+(a8 w).length:Nat):Int):=by
       rw[ai (by simp only[Z9] at a3;omega)];omega
      have q4:Zb.wrap (((5+(a8 v).length+(a8 w).length:Nat):Int)+(n:Int))=((5+(a8 v).length+(a8 w).length+n:Nat):Int):=by
       rw[ai (by simp only[Z9] at a3;omega)];omega
      have q5:Zb.wrap (((5+(a8 v).length+(a8 w).length+n:Nat):Int)+4)=((5+(a8 v).length+(a8 w).length+n+4:Nat):Int):=by
       rw[ai (by simp only[Z9] at a3;omega)];omega
      rw[q3,q4,q5]
theorem KN {b:List Int}(W:Byt b)(hl:b.length<=1000000000000){k m z:Int}{v w:Ap}{d r:List Int}(h:Blk b k m z v w d r):iY b=some (Ds k m z v w d,d,true):=by
 rcases BP W hl with⟨k',m',z',v',w',d',r',Z,J⟩|⟨_,J⟩
 ·obtain⟨rfl,rfl,rfl,rfl,rfl,rfl,_⟩:=h.one Z
  exact J
 ·exact absurd h (J _ _ _ _ _ _ _)
noncomputable def uj (k m z:Int) (v w:Ap) (d r:List Int):List Ap×Int×Int:=
 if r.take 4=be4 (fD (cN k m z v w d)) then
  if (dec k d m).2≠0 then ([],0,70)
  else if (fz (dec k d m).1:Int)=z/\ot (dec k d m).1=v/\ou (dec k d m).1=w then ((dec k d m).1,((cN k m z v w d).length+4:Nat),0) else ([],0,70)
 else ([],0,71)
theorem EJ {b:List Int}(hb:Byt b)(hl:b.length<=1000000000000){k m z:Int}{v w:Ap}{d r:List Int}(h:Blk b k m z v w d r):io b=some (uj k m z v w d r):=by
 unfold io;rw[KN hb hl h,Z0];have Z:=h.eq;have hr:=h.hr;have hd:=h.hd;have a4:Byt (cN k m z v w d):=by rw[Z] at hb;exact hb.left
 have a6:Byt d:=by
  have:=a4;unfold cN at this;exact this.tail.tail.tail.right.right.right
 have a9:b.length=(cN k m z v w d).length+r.length:=by rw[Z,Z2]
 obtain⟨n,J⟩:∃n,n=(cN k m z v w d).length:=⟨_,rfl⟩
 have t1:b.take n=cN k m z v w d:=by rw[Z,J,List.take_left]
 have t2:b.take (n+4)=cN k m z v w d++r.take 4:=by
  rw[Z,J,List.take_append,Zm (Nat.le_add_right _ _),Yj]
 have s1:=cP (xs:=b) (lo:=0) (hi:=n) (by omega) (by omega);have s2:=cP (xs:=b) (lo:=0) (hi:=n+4) (by omega) (by omega);rw[show((0:Nat):Int)=0 from rfl,X4] at s1 s2;have hw:Zb.wrap (((n+4:Nat):Int) - 4)=(n:Int):=by rw[ai (by omega)];omega
 unfold Ds;simp only[←J,Yb,Zc,if_false];rw[hw,s1,Z0];unfold kM;rw[t1,aI (by simp;omega),Z0,Zi,Z0,CI (by omega),Z0,s2,Z0,t2,EF (by unfold pg;simp[eV];omega),Z0];unfold uj pg
 by_cases c1:r.take 4=be4 (fD (cN k m z v w d))
 ·rw[if_pos c1,c1,decide_eq_true rfl]
  simp only[Yb,Zc,if_false];rw[Iz _ _ a6 (by omega),Z0]
  by_cases c2:(dec k d m).2=0
  ·rw[if_neg (by simpa using c2),if_neg (by simpa using c2)]
   rcases xR k d m with⟨l,e,g1,W,g3⟩|⟨e,g1,W⟩
   ·rw[e]
    simp only;have hm:=h.hm;have a0:l≠[]:=λe=>by rw[e] at W;simp at W;omega
    rw[Gj k a0 (by omega),Z0];simp only[Hp]
    by_cases a1:(fz l:Int)=z<;>by_cases a2:ot l=v<;>by_cases a3:ou l=w<;>simp[jT,a1,a2,a3,J]
   ·rw[g1] at c2;exact absurd c2 W
  ·rw[if_pos (by simpa using c2),if_pos c2]
 ·have a5: ¬ (cN k m z v w d++be4 (fD (cN k m z v w d))=cN k m z v w d++r.take 4):=λh=>c1 (List.append_cancel_left h).symm
  rw[if_neg c1,decide_eq_false a5]
  rfl
theorem FL (k m z:Int)(v w:Ap)(d r:List Int):(∃e,uj k m z v w d r=([],0,e)/\e≠0)\/ ∃g:List Ap,uj k m z v w d r=(g,(((cN k m z v w d).length+4:Nat):Int),0)/\r.take 4=be4 (fD (cN k m z v w d))/\(∀v∈g,Rgt v)/\(g.length:Int)=m/\enc k g=(d,0)/\(fz g:Int)=z/\ot g=v/\ou g=w:=by
 unfold uj
 by_cases c1:r.take 4=be4 (fD (cN k m z v w d))
 ·rw[if_pos c1]
  rcases xR k d m with⟨g,e,h,J,W⟩|⟨e,h,J⟩
  ·rw[e]
   simp only[ne_eq,not_true_eq_false,if_false]
   by_cases c3:(fz g:Int)=z/\ot g=v/\ou g=w
   ·rw[if_pos c3];exact .inr ⟨g,rfl,c1,h,J,W,c3⟩
   ·rw[if_neg c3];exact .inl ⟨70,rfl,by decide⟩
  ·rw[h,if_pos J];exact .inl ⟨70,rfl,by decide⟩
 ·rw[if_neg c1];exact .inl ⟨71,rfl,by decide⟩
theorem M1 {b:List Int}(W:Byt b)(Z:b.length<=1000000000000)(h:∀k m z v w d r,¬ Blk b k m z v w d r):io b=some ([],0,70)/\Av b=some (AS,70):=by
 rcases BP W Z with⟨k',m',z',v',w',d',r',J,h2⟩|⟨J,_⟩
 ·exact absurd J (h _ _ _ _ _ _ _)
 ·unfold io Av
  rw[J,Z0,Z0];exact⟨rfl,rfl⟩
theorem EK {l:List Ap}{kind:Int}(h:∀v∈l,VOK v)(J:(wr kind l).2=0):∃k,l≠[]/\(∀v∈l,Rgt v)/\enc k l=((enc k l).1,0)/\k=mc kind l/\wr kind l=(pg (nW k l),0)/\∀t,Blk (pg (nW k l)++t) k (l.length:Int) (fz l:Int) (ot l) (ou l) (enc k l).1 (be4 (fD (nW k l))++t):=by
 unfold wr at J
 by_cases hne:l=[]
 ·rw[if_pos hne] at J;cases J
 rw[if_neg hne] at J
 by_cases he:(enc (mc kind l) l).2=0
 ·have W:enc (mc kind l) l=((enc (mc kind l) l).1,0):=W3 rfl he
  obtain⟨hk,a1,_⟩:=em W;have Z:=yG h W;have hn:=wq l;have h0:0<l.length:=Xa.2 hne;have a0:=zK h W;refine⟨mc kind l,hne,Z,W,rfl,by unfold wr;rw[if_neg hne,if_neg (by simpa using he)],λt=>⟨by unfold pg nW;simp,hk,by omega,by omega,Z _ (zI hne),Z _ (zJ hne),by omega,by simp[eV]⟩⟩
 ·rw[if_pos (by simpa using he)] at J;exact absurd J he
theorem IF {l:List Ap}{kind:Int}(h:∀v∈l,VOK v)(J:(wr kind l).2=0):Byt (wr kind l).1/\(wr kind l).1.length<=100000:=by
 obtain⟨k,W,hR,he,_,J,hB⟩:=EK h J;obtain⟨hk,a2,_⟩:=em he;have hn:=wq l;have h0:0<l.length:=Xa.2 W;have a1:=zK h he;have Z:=hR _ (zI W);have a0:=hR _ (zJ W);have l1:=(ek Z).2;have l2:=(ek a0).2;rw[J];unfold pg;refine⟨.app (ID hk ⟨by omega,by omega⟩ ⟨by omega,by omega⟩ Z a0 (BN k h) (by omega)) (yH _),?_⟩;simp only[Z2,eV];unfold nW;rw[ni];omega
theorem M2 {l:List Ap}{kind:Int}(h:∀v∈l,VOK v)(J:(wr kind l).2=0){t:List Int}(ht:Byt t)(hl:t.length<=900000000000):io ((wr kind l).1++t)=some (l,((wr kind l).1.length:Int),0):=by
 obtain⟨W,Z⟩:=IF h J;obtain⟨k,a0,hR,he,_,J,hB⟩:=EK h J;rw[J] at W Z ⊢;simp only at W Z ⊢;rw[EJ (W.app ht) (by simp only[Z2];omega) (hB t)];have hd:=MY h he;unfold uj;rw[hd,if_pos (by rw[Xe (eV _)];rfl),if_neg (by simp),if_pos ⟨rfl,rfl,rfl⟩];have:(pg (nW k l)).length=(nW k l).length+4:=by unfold pg;simp[eV]
 rw[this];rfl
open Option renaming bind_some→Z0,getD_some→Xs,bind_assoc→Ye
open List renaming take_succ_eq_append_getElem→Z1,length_append→Z2,getElem_mem→Z3,getElem?_eq_getElem→Z4,drop_eq_getElem_cons→Z5,take_length→Z6,length_singleton→Z7,eq_nil_of_length_eq_zero→Z8,length_cons→Z9,replicate→Zd,append_assoc→Ze,mem_append→Zf,take_append_drop→Zg,nil_append→Zi,mem_of_mem_take→Zj,length_take→Zk,flatMap_cons→Zl,take_of_length_le→Zm,drop_of_length_le→Zn,length_map→Zo,append_nil→Zp,length_drop→Zq,drop_left→Zr,pairwise_cons→Zs,foldl_cons→Zu,range→Zv,pairwise_append→X3,drop_zero→X4,mem_cons→X5,cons_append→X8,getD_eq_getElem?_getD→X9,length_pos_iff→Xa,drop_drop→Xb,mem_map→Xc,take_left'→Xe,drop_length→Xh,mem_singleton→Xi,mem_of_getLast?→Xk,pairwise_iff_getElem→Xl,map_append→Xm,getElem?_eq_some_iff→Xn,flatMap_append→Xp,getElem?_drop→Xt,mem_replicate→Xu,drop_left'→Xw,foldl_append→Xx,length_range→Xy,length_replicate→Xz,dropLast_concat_getLast→Y1,getElem_map→Y5,length→Y7,getElem?_append_right→Y9,getLast?_eq_none_iff→Yc,getLast?_eq_getElem?→Yd,getElem?_append_left→Yf,eq_of_mem_replicate→Yi,foldl_nil→Ym,take_add_one→Yo,flatMap_singleton→Yq,length_eq_one_iff→Yr,all_eq_true→Yu,flatMap_nil→Yv,map_cons→Yw,singleton_append→Yz,getElem?_eq_none→V0,range_succ→V5,map_nil→V6,all_cons→V7
open Nat renaming mul_le_mul→Zw,le_refl→Zy,lt_of_lt_of_le→Zz,strongRecOn→X6,pow_le_pow_right→Xj,lt_or_ge→Xq,testBit_xor→Xr,div_lt_iff_lt_mul→Xv,eq_of_testBit_eq→Y0,two_pow_add_eq_or_of_lt→Y2,mod_two_eq_zero_or_one→Y6,pow_add→Y8,add_sub_cancel_left→Yj,div_div_eq_div_mul→Yl,testBit_succ→Yn,pow_pos→Yp,xor_comm→V9
open Bool renaming false_eq_true→Zc,eq_false_or_eq_true→Xo,or_eq_false_iff→Y3,true_and→Ya,not_true→Yb,not_false→Yk,and_eq_true→Ys,not_eq_true→Yt,and_eq_false_iff→V3,or_eq_true→V4
open Int renaming eq_ofNat_of_zero_le→Za,tmod_eq_emod_of_nonneg→X7,natCast_pow→Xd,fdiv_eq_ediv_of_nonneg→Xf,tdiv_eq_ediv_of_nonneg→Xg,toNat_natCast→Yg,emod_eq_of_lt→Yh,mul_comm→Yx,ofNat_lt→Yy,le_of_lt→V8
open BitVec renaming ofInt→Zh,toNat_ofInt→Zx
open Prod renaming ext→W3
open IntKind renaming i64→Zb,u64→Zt,u32→Y4,u8→W4
theorem IG {b:List Int}(hb:Byt b)(hl:b.length<=1000000000000){k m z:Int}{v w:Ap}{d r:List Int}(h:Blk b k m z v w d r):
  qy b=some (⟨k,m,v,w,z,(((cN k m z v w d).length+4:Nat):Int)⟩,((5+(a8 v).length+(a8 w).length:Nat):Int),0):=by
 obtain⟨t,ht⟩:∃t,b=k::m::z::t:=⟨_,by rw[h.eq];unfold cN;simp only[X8];rfl⟩
 subst ht;obtain⟨_,_,_,p1,p2,Z⟩:=h.parts;obtain⟨J,a1⟩:∃J,J=(a8 v).length:=⟨_,rfl⟩
 obtain⟨W,a0⟩:∃W,W=(a8 w).length:=⟨_,rfl⟩
 rw[←a1] at p1 p2 Z;rw[←a0] at p2 Z;have hk:=h.hk;have hm:=h.hm;have hz:=h.hz;have hd:=h.hd;have hr:=h.hr;have b1:=ek h.hv;have b2:=ek h.hw;have bt:Byt t:=hb.tail.tail.tail;simp only[Z9] at hl
 have a4:t.length=J+W+2+d.length+r.length:=by
  have:=congrArg Y7 h.eq;simp only[Z2,ni,Z9] at this;omega
 have i0:idx (k::m::z::t) 0=some k:=cu _ _;have i1:idx (k::m::z::t) 1=some m:=ll _ _ _;have i2:idx (k::m::z::t) 2=some z:=aw (xs:=k::m::z::t) (i:=2) (by simp);have e3:sub (k::m::z::t) 3 ((k::m::z::t).length:Int)=some t:=bZ (xs:=k::m::z::t) (k:=3) (by simp)
 have e4:sub (k::m::z::t) ((3+J:Nat):Int) ((k::m::z::t).length:Int)=some (t.drop J):=by
  rw[bZ (by simp;omega),Nat.add_comm];rfl
 have w1:Zb.wrap (3+(J:Int))=((3+J:Nat):Int):=by rw[ai (by omega)];omega
 have w2:Zb.wrap (((3+J:Nat):Int)+(W:Int))=((3+J+W:Nat):Int):=by rw[ai (by omega)];omega
 have w3:Zb.wrap (((3+J+W:Nat):Int)+2)=((3+J+W+2:Nat):Int):=by rw[ai (by omega)];omega
 have e5:sub (k::m::z::t) ((3+J+W:Nat):Int) ((3+J+W+2:Nat):Int)=some (be2 d.length):=by
  rw[cP (by omega) (by simp;omega),List.drop_take,show 3+J+W+2 - (3+J+W)=2 by omega]
  have:(k::m::z::t).drop (3+J+W)=(t.drop J).drop W:=by
   rw[Xb,show 3+J+W=(J+W)+3 by omega];rfl
  rw[this,Z]
  rfl
 have a2:Byt (be2 d.length):= .cons (by omega) (.cons (by omega) .nil)
 have a3:bq (be2 d.length)=(d.length:Int):=by
  unfold be2 bq;simp only[Zu,Ym];omega
 have w4:Zb.wrap (d.length:Int)=(d.length:Int):=by rw[ai (by omega)]
 have w5:Zb.wrap (((3+J+W+2:Nat):Int)+(d.length:Int))=((3+J+W+2+d.length:Nat):Int):=by rw[ai (by omega)];omega
 have w6:Zb.wrap (((3+J+W+2+d.length:Nat):Int)+4)=((3+J+W+2+d.length+4:Nat):Int):=by rw[ai (by omega)];omega
 unfold qy;rw[if_neg (by simp;omega),i0,Z0,if_neg (by simpa using by omega),i1,Z0,if_neg (by simpa using by omega),Z0,if_neg (by simpa using by omega),i2,Z0,Z0,decide_eq_false (by omega)];unfold j9;rw[if_neg (by decide),i0,Z0,i1,Z0,i2,Z0,e3,Z0,pu bt,p1,Z0];simp only;rw[if_neg (by simp;omega),w1,e4,Z0,pu (bt.drop _),p2,Z0];simp only;rw[if_neg (by simp;omega),w2,w3,decide_eq_false (by simp;omega)];unfold rW;simp only
 rw[if_neg (by decide),w1,w2,w3,e5,Z0,mr _ a2 (by unfold be2;simp),a3,Z0,w4,w5,w6,if_neg (by simp;omega),ai (show -9223372036854775808<=k/\_ by omega),ai (show -9223372036854775808<=m/\_ by omega),ai (show -9223372036854775808<=z/\_ by omega),ni,←a1,←a0];have q1:3+J+W+2+d.length+4=5+J+W+d.length+4:=by omega
 have q2:3+J+W+2=5+J+W:=by omega
 rw[q1,q2]
end Go.Proofs.YthbonoagbeilkaaGreat.Hay
/- The checksum, bit by bit and by half bytes (plain numbers). -/
namespace Go.Proofs.YthbonoagbeilkaaGreat.Hay
open Option renaming bind_some→Z0,getD_some→Xs,bind_assoc→Ye
open List renaming take_succ_eq_append_getElem→Z1,length_append→Z2,getElem_mem→Z3,getElem?_eq_getElem→Z4,drop_eq_getElem_cons→Z5,take_length→Z6,length_singleton→Z7,eq_nil_of_length_eq_zero→Z8,length_cons→Z9,replicate→Zd,append_assoc→Ze,mem_append→Zf,take_append_drop→Zg,nil_append→Zi,mem_of_mem_take→Zj,length_take→Zk,flatMap_cons→Zl,take_of_length_le→Zm,drop_of_length_le→Zn,length_map→Zo,append_nil→Zp,length_drop→Zq,drop_left→Zr,pairwise_cons→Zs,foldl_cons→Zu,range→Zv,pairwise_append→X3,drop_zero→X4,mem_cons→X5,cons_append→X8,getD_eq_getElem?_getD→X9,length_pos_iff→Xa,drop_drop→Xb,mem_map→Xc,take_left'→Xe,drop_length→Xh,mem_singleton→Xi,mem_of_getLast?→Xk,pairwise_iff_getElem→Xl,map_append→Xm,getElem?_eq_some_iff→Xn,flatMap_append→Xp,getElem?_drop→Xt,mem_replicate→Xu,drop_left'→Xw,foldl_append→Xx,length_range→Xy,length_replicate→Xz,dropLast_concat_getLast→Y1,getElem_map→Y5,length→Y7,getElem?_append_right→Y9,getLast?_eq_none_iff→Yc,getLast?_eq_getElem?→Yd,getElem?_append_left→Yf,eq_of_mem_replicate→Yi,foldl_nil→Ym,take_add_one→Yo,flatMap_singleton→Yq,length_eq_one_iff→Yr,all_eq_true→Yu,flatMap_nil→Yv,map_cons→Yw,singleton_append→Yz,getElem?_eq_none→V0,range_succ→V5,map_nil→V6,all_cons→V7
open Nat renaming mul_le_mul→Zw,le_refl→Zy,lt_of_lt_of_le→Zz,strongRecOn→X6,pow_le_pow_right→Xj,lt_or_ge→Xq,testBit_xor→Xr,div_lt_iff_lt_mul→Xv,eq_of_testBit_eq→Y0,two_pow_add_eq_or_of_lt→Y2,mod_two_eq_zero_or_one→Y6,pow_add→Y8,add_sub_cancel_left→Yj,div_div_eq_div_mul→Yl,testBit_succ→Yn,pow_pos→Yp,xor_comm→V9
open Bool renaming false_eq_true→Zc,eq_false_or_eq_true→Xo,or_eq_false_iff→Y3,true_and→Ya,not_true→Yb,not_false→Yk,and_eq_true→Ys,not_eq_true→Yt,and_eq_false_iff→V3,or_eq_true→V4
open Int renaming eq_ofNat_of_zero_le→Za,tmod_eq_emod_of_nonneg→X7,natCast_pow→Xd,fdiv_eq_ediv_of_nonneg→Xf,tdiv_eq_ediv_of_nonneg→Xg,toNat_natCast→Yg,emod_eq_of_lt→Yh,mul_comm→Yx,ofNat_lt→Yy,le_of_lt→V8
open BitVec renaming ofInt→Zh,toNat_ofInt→Zx
open Prod renaming ext→W3
open IntKind renaming i64→Zb,u64→Zt,u32→Y4,u8→W4
def AT:Nat:=3988292384
def gL (x:Nat):Nat:=(x/2)^^^(if x.testBit 0 then AT else 0)
theorem KO (a b:Nat):(a^^^b)/2=a/2^^^b/2:=by
 apply Y0;intro i;rw[Xr,←Yn,←Yn,←Yn,Xr]
theorem uk (a b:Nat):gL (a^^^b)=gL a^^^gL b:=by
 unfold gL;rw[KO,Xr];apply Y0;intro i;cases a.testBit 0<;>cases b.testBit 0<;>simp[Xr]<;>cases (a/2).testBit i<;>cases (b/2).testBit i<;>simp
theorem si (x:Nat):gL (2*x)=x:=by
 unfold gL;simp
def gS (x:Nat):Nat:=gL (gL (gL (gL x)))
theorem xT (x:Nat):gS x=gS (x%16)^^^(x/16):=by
 have h:x=(2*(2*(2*(2*(x/16)))))^^^(x%16):=by
  have e2:2*(2*(2*(2*(x/16))))=2^4*(x/2^4):=by
   have e:(2:Nat)^4=16:=rfl;rw[e];omega
  rw[e2,show x%16=x%2^4 from rfl];apply Y0;intro i;rw[Xr,Nat.testBit_two_pow_mul,Nat.testBit_div_two_pow,Nat.testBit_mod_two_pow]
  by_cases hi:i<4
  ·have: ¬ 4<=i:=by omega
   simp[hi,this]
  ·have W:4<=i:=by omega
   have J:i - 4+4=i:=by omega
   simp[hi,W,J]
 conv=>lhs;rw[h]
 unfold gS;rw[uk,uk,uk,uk,si,si,si,si,V9]
def xU (x:Nat):Nat:=gS (gS x)
theorem LM {a b:Nat}(W:a<4294967296)(Z:b<4294967296):dP .u32 (a:Int) (b:Int)=((a&&&b:Nat):Int):=by
 unfold dP;rw[jU]
 have h:(Zh Y4.bits (a:Int)).toNat=a:=by
  show(Zh 32 (a:Int)).toNat=a;rw[Zx];omega
 have J:(Zh Y4.bits (b:Int)).toNat=b:=by
  show(Zh 32 (b:Int)).toNat=b;rw[Zx];omega
 rw[BitVec.toNat_and,h,J];have:a&&&b<=a:=Nat.and_le_left;omega
theorem ul {a b:Nat}(J:a<4294967296)(W:b<4294967296):dS .u32 (a:Int) (b:Int)=((a^^^b:Nat):Int):=by
 unfold dS;rw[jU]
 have h:(Zh Y4.bits (a:Int)).toNat=a:=by
  show(Zh 32 (a:Int)).toNat=a;rw[Zx];omega
 have Z:(Zh Y4.bits (b:Int)).toNat=b:=by
  show(Zh 32 (b:Int)).toNat=b;rw[Zx];omega
 rw[BitVec.toNat_xor,h,Z];have:a^^^b<2^32:=Nat.xor_lt_two_pow (by simpa using J) (by simpa using W);have e:(2:Nat)^32=4294967296:=by decide
 omega
theorem AU {a b:Nat}(J:a<4294967296)(h:b<4294967296):a^^^b<4294967296:=by
 have:a^^^b<2^32:=Nat.xor_lt_two_pow (by simpa using J) (by simpa using h);simpa using this
theorem qP {x:Nat}(h:x<4294967296):gL x<4294967296:=by
 unfold gL;exact AU (by omega) (by split<;>decide)
theorem pG {x:Nat}(h:x<4294967296):gS x<4294967296:=qP (qP (qP (qP h)))
theorem KP (x:Nat):x&&&1=(x.testBit 0).toNat:=by
 rw[Nat.and_one_is_mod,Nat.testBit_zero];rcases Y6 x with h|h<;>simp[h]
theorem FM {x:Nat}(W:x<4294967296):dS .u32 (aX .u32 (x:Int) 1) (Y4.wrap (3988292384*dP .u32 (x:Int) 1))=((gL x:Nat):Int):=by
 have h:=AR (x:=(x:Int)) (k:=1) (by omega);rw[show((1:Nat):Int)=1 from rfl] at h;have e2:=LM (a:=x) (b:=1) W (by omega);rw[show((1:Nat):Int)=1 from rfl] at e2;rw[h,e2,KP,jU];have J:(x:Int)/2^1=((x/2:Nat):Int):=by omega
 have Z:3988292384*(((x.testBit 0).toNat:Nat):Int)%4294967296=((if x.testBit 0 then AT else 0:Nat):Int):=by
  cases x.testBit 0<;>simp[AT]
 rw[J,Z,ul (by omega) (by split<;>decide)]
 rfl
def rL (n:Nat):List Int:=(Zv 16).map λj=>if j<n then ((gS j:Nat):Int) else 0
theorem tq (n:Nat):(rL n).length=16:=by simp[rL]
theorem yI {n j:Nat}(h:j<16):(rL n)[j]? =some (if j<n then ((gS j:Nat):Int) else 0):=by
 unfold rL;rw[List.getElem?_map,List.getElem?_range h];rfl
theorem KQ {n:Nat}(h:n<16):(rL n).set n ((gS n:Nat):Int)=rL (n+1):=by
 apply List.ext_getElem?
 intro j;rw[List.getElem?_set]
 by_cases hj:j<16
 ·rw[yI hj,yI hj]
  by_cases e:n=j
  ·subst e;rw[if_pos rfl,if_pos (by rw[tq];exact h),if_pos (by omega)]
  ·rw[if_neg e]
   by_cases J:j<n
   ·rw[if_pos J,if_pos (by omega)]
   ·rw[if_neg J,if_neg (by omega)]
 ·have J:(rL n)[j]? =none:=V0 (by rw[tq];omega)
  have W:(rL (n+1))[j]? =none:=V0 (by rw[tq];omega);rw[J,W,if_neg (by omega)]
def mI (l:List Int):Nat:=l.foldl (λc x=>xU (c^^^x.toNat)) 4294967295
def EL (l:List Int):Nat:=4294967295^^^mI l
theorem wt {l:List Int}(h:Byt l):mI l<4294967296:=by
 unfold mI
 have:∀(l:List Int) (c:Nat),Byt l->c<4294967296->l.foldl (λc x=>xU (c^^^x.toNat)) c<4294967296:=by
  intro l
  induction l with
  |nil=>intro c _ h;exact h
  |cons x l ih=>
   intro c J W;have:=J.head;exact ih _ J.tail (pG (pG (AU W (by omega))))
 exact this l _ h (by decide)
theorem IH {n:Nat}(h:n<4294967296):dP .u32 (n:Int) 15=((n%16:Nat):Int):=by
 have:=LM (a:=n) (b:=15) h (by omega);rw[show((15:Nat):Int)=15 from rfl] at this;rw[this,show(15:Nat)=2^4 - 1 from rfl,Nat.and_two_pow_sub_one_eq_mod]
theorem Ou {n:Nat}:aX .u32 (n:Int) 4=((n/16:Nat):Int):=by
 have:=AR (x:=(n:Int)) (k:=4) (by omega);rw[show((4:Nat):Int)=4 from rfl] at this;rw[this];omega
theorem II (n:Nat)(h:n<4294967296):ix (rL 16) (dP .u32 (n:Int) 15)=some (n%16)/\(rL 16)[n%16]? =some ((gS (n%16):Nat):Int):=by
 rw[IH h];refine⟨nU (by rw[tq];omega),?_⟩;rw[yI (by omega),if_pos (by omega)]
theorem EM {b:List Int}(W:Byt b)(hl:b.length<4611686018427387904):iB b=some ((EL b:Nat):Int):=by
 have a2:mT b (rL 16)=some ((EL b:Nat):Int):=by
  unfold mT;refine aW (λi=>(((mI (b.take i):Nat):Int),(i:Int))) b.length rfl (λi hi=>?_) ?_
  ·dsimp only
   unfold pP;have hc:=wt (W.take i);have hx:=W _ (Z3 hi);obtain⟨x,a0⟩:=Za hx.1;have Z:Y4.wrap b[i]=(x:Int):=by rw[jU];omega
   obtain⟨c,h⟩:∃c,c=mI (b.take i)^^^x:=⟨_,rfl⟩
   have J:c<4294967296:=by rw[h];exact AU hc (by omega)
   have a3:mI (b.take (i+1))=xU c:=by
    rw[Z1 hi];unfold mI at h ⊢;rw[Xx,h];simp[a0]
   obtain⟨t1,t2⟩:=II c J;have h4:=pG (x:=c%16) (by omega)
   have e1:dS .u32 ((gS (c%16):Nat):Int) ((c/16:Nat):Int)=((gS c:Nat):Int):=by
    rw[ul h4 (by omega),←xT]
   obtain⟨u1,u2⟩:=II (gS c) (pG J);have h5:=pG (x:=gS c%16) (by omega)
   have e2:dS .u32 ((gS (gS c%16):Nat):Int) ((gS c/16:Nat):Int)=((xU c:Nat):Int):=by
    rw[ul h5 (by have:=pG J;omega),←xT];rfl
   rw[if_pos (by simpa using hi),aw hi,Z0,Z,ul hc (by omega),←h,t1,Z0,t2,Z0,Ou,e1,u1,Z0,u2,Z0,Ou,e2,aP (by omega),a3]
  ·dsimp only
   unfold pP xr;rw[if_neg (by simp),Z6]
   have e:Bj .u32 ((mI b:Nat):Int)=((EL b:Nat):Int):=by
    have:=ul (a:=4294967295) (b:=mI b) (by omega) (wt W);unfold EL;rw[←this];rfl
   rw[e];rfl
 unfold iB;refine aW (λi=>((i:Int),rL i)) 16 (by decide) (λi hi=>?_) ?_
 ·dsimp only
  unfold pQ;rw[if_pos (by simpa using by omega)];have Z:Y4.wrap (i:Int)=((i:Nat):Int):=by rw[jU];omega
  rw[Z];refine aW (λq=>(((Nat.repeat gL q i:Nat):Int),(q:Int))) 4 rfl (λq hq=>?_) ?_
  ·dsimp only
   unfold mU
   have a1:∀q,Nat.repeat gL q i<4294967296:=by
    intro q
    induction q with
    |zero=>show i<_;omega
    |succ q ih=>exact qP ih
   rw[if_pos (by simpa using by omega),FM (a1 q),aP (by omega)]
   rfl
  ·dsimp only
   unfold mU sP sO;rw[if_neg (by decide),nU (by rw[tq];exact hi),Z0,yI hi,Z0,aP (by omega)];have:Nat.repeat gL 4 i=gS i:=rfl;rw[this,KQ hi]
   rfl
 ·dsimp only
  unfold pQ;rw[if_neg (by decide),a2]
  rfl
abbrev LN:cd:=⟨0,0,Ap.zero,Ap.zero,0,0⟩
theorem KR {b:List Int}(hb:Byt b)(hl:b.length<=100000000000)(a2:∀k m z v w d r,¬ Blk b k m z v w d r):qy b=some (LN,0,70):=by
 match b,hb,hl,a2 with
 |[],_,_,_=>rfl
 |[_],_,_,_=>rfl
 |[_,_],_,_,_=>rfl
 | k ::m::z::t,hb,hl,a2=>
  have b0:=hb.head;have b1:=hb.tail.head;have b2:=hb.tail.tail.head;have W:Byt t:=hb.tail.tail.tail;simp only[Z9] at hl;have i0:idx (k::m::z::t) 0=some k:=cu _ _;have i1:idx (k::m::z::t) 1=some m:=ll _ _ _;have i2:idx (k::m::z::t) 2=some z:=aw (xs:=k::m::z::t) (i:=2) (by simp);have e3:sub (k::m::z::t) 3 ((k::m::z::t).length:Int)=some t:=bZ (xs:=k::m::z::t) (k:=3) (by simp)
  have b5:qy (k::m::z::t)=if 4<k\/m=0\/64<m\/m<z then some (LN,0,70) else j9 (k::m::z::t) false:=by
   unfold qy;rw[if_neg (by simp;omega),i0,Z0,i1,Z0,Z0,i2,Z0,Z0]
   by_cases c1:4<k
   ·rw[if_pos (by simpa using c1),if_pos (.inl c1)];rfl
   rw[if_neg (by simpa using c1)]
   by_cases c2:m=0
   ·rw[if_pos (by simpa using c2),if_pos (.inr (.inl c2))];rfl
   rw[if_neg (by simpa using c2)]
   by_cases c3:64<m
   ·rw[if_pos (by simpa using c3),if_pos (.inr (.inr (.inl c3)))];rfl
   rw[if_neg (by simpa using c3)]
   by_cases c4:m<z
   ·rw[if_pos (.inr (.inr (.inr c4))),decide_eq_true c4];rfl
   rw[if_neg (by omega),decide_eq_false c4]
  rw[b5]
  by_cases c:4<k\/m=0\/64<m\/m<z
  ·rw[if_pos c]
  rw[if_neg c];unfold j9;rw[if_neg (by decide),i0,Z0,i1,Z0,i2,Z0,e3,Z0,pu W];cases hp:bK t with
  |none=>rfl
  | some q=>
   obtain⟨v,h⟩:=q;have c6:=kH W hp;have w1:Zb.wrap (3+(h:Int))=((3+h:Nat):Int):=by rw[ai (by omega)];omega
   have e4:sub (k::m::z::t) ((3+h:Nat):Int) ((k::m::z::t).length:Int)=some (t.drop h):=by
    rw[bZ (by simp;omega),Nat.add_comm];rfl
   simp only[Z0];rw[if_neg (by simp;omega),w1,e4,Z0,pu (W.drop _)];cases hp2:bK (t.drop h) with
   |none=>rfl
   | some q2=>
    obtain⟨w,J⟩:=q2;have c7:=kH (W.drop _) hp2;have a4:(t.drop h).length=t.length - h:=Zq;have w2:Zb.wrap (((3+h:Nat):Int)+(J:Int))=((3+h+J:Nat):Int):=by rw[ai (by omega)];omega
    have w3:Zb.wrap (((3+h+J:Nat):Int)+2)=((3+h+J+2:Nat):Int):=by rw[ai (by omega)];omega
    simp only[Z0];rw[if_neg (by simp;omega),w2,w3]
    by_cases hs:(k::m::z::t).length<3+h+J+2
    ·rw[decide_eq_true (by omega)];rfl
    rw[decide_eq_false (by omega)];unfold rW;simp only;rw[if_neg (by decide),w1,w2,w3];obtain⟨a9,t1,a5,b6⟩:=gt W hp;obtain⟨c0,t2,a6,b4⟩:=gt (W.drop _) hp2;have a0:(t.drop h).drop J=t2:=by rw[a6,b4,Zr]
    have a1:Byt t2:=by rw[←a0];exact(W.drop _).drop _
    have b7:t.drop h=t1:=by rw[a5,b6,Zr]
    have a3:t=a8 v++(a8 w++t2):=by rw[a5,←a6,b7]
    have Z:t2.length=t.length - h - J:=by rw[←a0];simp;omega
    simp only[Z9] at hs
    match t2,a3,a0,a1,Z with
    |[],_,_,_,Z=>simp at Z;omega
    |[_],_,_,_,Z=>simp at Z;omega
    | x::y::rest,a3,a0,a1,Z=>
     have bx:=a1.head;have by_:=a1.tail.head;obtain⟨n,hn⟩:∃n,n=x.toNat*256+y.toNat:=⟨_,rfl⟩
     have e5:sub (k::m::z::t) ((3+h+J:Nat):Int) ((3+h+J+2:Nat):Int)=some [x,y]:=by
      rw[cP (by omega) (by simp;omega),List.drop_take,show 3+h+J+2 - (3+h+J)=2 by omega]
      have:(k::m::z::t).drop (3+h+J)=(t.drop h).drop J:=by
       rw[Xb,show 3+h+J=(h+J)+3 by omega];rfl
      rw[this,a0];rfl
     have c5:bq [x,y]=(n:Int):=by
      unfold bq;simp only[Zu,Ym];omega
     have b3:Byt [x,y]:= .cons bx (.cons by_ .nil);simp only[Z9] at Z;have w4:Zb.wrap (n:Int)=(n:Int):=by rw[ai (by omega)]
     have w5:Zb.wrap (((3+h+J+2:Nat):Int)+(n:Int))=((3+h+J+2+n:Nat):Int):=by rw[ai (by omega)];omega
     have w6:Zb.wrap (((3+h+J+2+n:Nat):Int)+4)=((3+h+J+2+n+4:Nat):Int):=by rw[ai (by omega)];omega
     rw[e5,Z0,mr _ b3 (by simp),c5,Z0,w4,w5,w6]
     by_cases hrl:rest.length<n+4
     ·rw[if_pos (by simp;omega)]
     ·exfalso
      have a4:(rest.take n).length=n:=by simp;omega
      refine a2 k m z v w (rest.take n) (rest.drop n) ⟨?_,by omega,by omega,by omega,a9,c0,by omega,by simp;omega⟩;rw[a3];unfold cN be2;rw[a4];have q1:((n/256:Nat):Int)=x:=by omega
      have q2:((n%256:Nat):Int)=y:=by omega
      rw[q1,q2];simp
theorem M3 {b:List Int}(J:Byt b)(h:b.length<4611686018427387904):fD b=((EL b:Nat):Int):=by
 unfold fD;rw[EM J h];rfl
theorem BQ {b:List Int}(J:Byt b)(hl:b.length<4611686018427387904):vd b=some (fD b):=by
 rw[M3 J hl];unfold vd;refine aW (λi=>(((mI (b.take i):Nat):Int),(i:Int))) b.length rfl (λi hi=>?_) ?_
 ·dsimp only
  unfold xB;have Z:=wt (J.take i);have hx:=J _ (Z3 hi);obtain⟨x,a1⟩:=Za hx.1;have e0:Y4.wrap b[i]=(x:Int):=by rw[jU];omega
  obtain⟨c,W⟩:∃c,c=mI (b.take i)^^^x:=⟨_,rfl⟩
  have a0:c<4294967296:=by rw[W];exact AU Z (by omega)
  have a4:mI (b.take (i+1))=xU c:=by
   rw[Z1 hi];unfold mI at W ⊢;rw[Xx,W];simp[a1]
  rw[if_pos (by simpa using hi),aw hi,Z0,e0,ul Z (by omega),←W];refine aW (λq=>(((Nat.repeat gL q c:Nat):Int),(q:Int))) 8 rfl (λq hq=>?_) ?_
  ·dsimp only
   have a2:∀q,Nat.repeat gL q c<4294967296:=by
    intro q
    induction q with
    |zero=>exact a0
    |succ q ih=>exact qP ih
   have a3:=a2 q;obtain⟨y,hy⟩:∃y,y=Nat.repeat gL q c:=⟨_,rfl⟩
   have hs:Nat.repeat gL (q+1) c=gL y:=by rw[hy];rfl
   rw[←hy] at a3 ⊢;unfold xA xz;have e1:((y:Int)).tmod 2=((y%2:Nat):Int):=by rw[X7 (by omega)];omega
   have e2:((y:Int)).tdiv 2=((y/2:Nat):Int):=by rw[Xg (by omega)];omega
   have e3:Y4.wrap ((y/2:Nat):Int)=((y/2:Nat):Int):=by rw[jU];omega
   rw[if_pos (by simpa using by omega),e1,e2,e3,aP (by omega),hs];unfold gL;rw[Nat.testBit_zero];rcases Y6 y with h|h
   ·rw[h,V9];simp
   ·rw[h]
    have e4:dS .u32 ((y/2:Nat):Int) 3988292384=((y/2^^^AT:Nat):Int):=ul (a:=y/2) (b:=AT) (by omega) (by decide);rw[e4];rfl
  ·dsimp only
   unfold xA Cv;rw[if_neg (by decide),aP (by omega),a4]
   rfl
 ·dsimp only
  unfold xB Cu;rw[if_neg (by simp),Z6];have e:=ul (a:=mI b) (b:=4294967295) (wt J) (by omega);rw[show((4294967295:Nat):Int)=4294967295 from rfl] at e;rw[e,V9]
  rfl
def IJ (kind:Int)(l:List Ap):cd:=⟨kind,(l.length:Int),ot l,ou l,(fz l:Int),0⟩
theorem Hq {l:List Ap}{i:Nat}(h:i<l.length):fz (l.take (i+1))=fz (l.take i)+if (l[i].fKind==0)=true then 1 else 0:=by
 unfold fz;rw[Z1 h,List.filter_append,Z2];congr 1
 by_cases hv:(l[i].fKind==0)=true
 ·rw[if_pos hv];simp at hv;simp[hv]
 ·rw[if_neg hv];simp at hv;simp[hv]
theorem KS {l:List Ap}(kind:Int)(h:l≠[])(hl:l.length<=1048576):vS kind l=some (IJ kind l):=by
 cases hlr:l with
 |nil=>exact absurd hlr h
 |cons v r=>
 rw[←hlr];have i0:idx l 0=some v:=by rw[hlr];exact cu _ _
 unfold vS;rw[i0,Z0,Z0];refine aW (λi=>((i:Int),(⟨kind,(l.length:Int),(l.take i).foldl (λm x=>if ltV x m then x else m) v,(l.take i).foldl (λm x=>if ltV m x then x else m) v,(fz (l.take i):Int),0⟩:cd))) l.length rfl (λi hi=>?_) ?_
 ·dsimp only
  obtain⟨a,ha⟩:∃a,a=(l.take i).foldl (λm x=>if ltV x m then x else m) v:=⟨_,rfl⟩
  obtain⟨b,Z⟩:∃b,b=(l.take i).foldl (λm x=>if ltV m x then x else m) v:=⟨_,rfl⟩
  have hn:=wq (l.take i);simp only[Zk] at hn;rw[i6 hi,i6 hi,Hq hi,←ha,←Z]
  have W:∀x y,ra l (i:Int) ⟨kind,(l.length:Int),x,y,(fz (l.take i):Int),0⟩=some (.inl (((i+1:Nat):Int),⟨kind,(l.length:Int),x,y,((fz (l.take i)+if (l[i].fKind==0)=true then 1 else 0:Nat):Int),0⟩)):=by
   intro x y;unfold ra uI;rw[aw hi,Z0,aP (by omega)]
   by_cases hv:(l[i].fKind==0)=true
   ·rw[if_pos hv,if_pos hv]
    dsimp only;rw[aP (by omega)]
   ·rw[if_neg hv,if_neg hv];rfl
  have J:∀x,rc l (i:Int) ⟨kind,(l.length:Int),x,b,(fz (l.take i):Int),0⟩=some (.inl (((i+1:Nat):Int),⟨kind,(l.length:Int),x,if ltV b l[i] then l[i] else b,((fz (l.take i)+if (l[i].fKind==0)=true then 1 else 0:Nat):Int),0⟩)):=by
   intro x;unfold rc;rw[aw hi,Z0,qJ,Z0]
   by_cases hc:ltV b l[i]=true
   ·rw[if_pos (decide_eq_true ((wm _ _).2 hc)),Z0,if_pos hc];exact W _ _
   ·rw[if_neg (by simpa using λh=>hc ((wm _ _).1 h)),if_neg hc];exact W _ _
  unfold uJ;rw[if_pos (by simpa using hi),aw hi,Z0,qJ,Z0]
  by_cases hc:ltV l[i] a=true
  ·rw[if_pos (decide_eq_true ((lO _ _).2 hc)),Z0,if_pos hc];exact J _
  ·rw[if_neg (by simpa using λh=>hc ((lO _ _).1 h)),if_neg hc];exact J _
 ·dsimp only
  unfold uJ yY;rw[if_neg (by simp),Z6]
  have e1:l.foldl (λm x=>if ltV x m then x else m) v=ot l:=by
   rw[hlr];simp only[ot,Zu]
   have:ltV v v=false:=by
    cases hvv:ltV v v with
    |false=>rfl
    |true=>have:=tg hvv;rw[hvv] at this;cases this
   rw[this];rfl
  have e2:l.foldl (λm x=>if ltV m x then x else m) v=ou l:=by
   rw[hlr];simp only[ou,Zu]
   have:ltV v v=false:=by
    cases hvv:ltV v v with
    |false=>rfl
    |true=>have:=tg hvv;rw[hvv] at this;cases this
   rw[this];rfl
  rw[e1,e2]
  rfl
theorem KT {l:List Int}(h:Byt l)(J:l.length=4):be4 (bq l)=l:=by
 match l,J with
 |[a,b,c,d],_=>
  have Z:=h.head;have hb:=h.tail.head;have hc:=h.tail.tail.head;have W:=h.tail.tail.tail.head;unfold be4 bq;simp only[Zu,Ym];congr 1
  ·omega
  congr 1
  ·omega
  congr 1
  ·omega
  congr 1;omega
theorem EN {n:Int}(h:U32 n):bq (be4 n)=n:=by
 unfold U32 at h;unfold be4 bq;simp only[Zu,Ym];omega
theorem IK {b:List Int}(J:Byt b)(hl:b.length<=1000000000){k m z:Int}{v w:Ap}{d r:List Int}(h:Blk b k m z v w d r):qC b=some (uj k m z v w d r):=by
 unfold qC;rw[IG J (by omega) h,Z0];have Z:=h.eq;have hr:=h.hr;have hd:=h.hd;have a4:Byt (cN k m z v w d):=by rw[Z] at J;exact J.left
 have a6:Byt r:=by rw[Z] at J;exact J.right
 have b1:Byt d:=by
  have:=a4;unfold cN at this;exact this.tail.tail.tail.right.right.right
 have b3:b.length=(cN k m z v w d).length+r.length:=by rw[Z,Z2]
 obtain⟨n,hn⟩:∃n,n=(cN k m z v w d).length:=⟨_,rfl⟩
 have b2:=ni (k:=k) (m:=m) (z:=z) (v:=v) (w:=w) (d:=d);have t1:b.take n=cN k m z v w d:=by rw[Z,hn,List.take_left]
 have t2:(b.take (n+4)).drop n=r.take 4:=by
  rw[Z,hn,List.take_append,Zm (Nat.le_add_right _ _),Yj,Zr]
 have t3:(b.take n).drop (5+(a8 v).length+(a8 w).length)=d:=by
  rw[t1];have:cN k m z v w d=([k,m,z]++a8 v++a8 w++be2 d.length)++d:=by unfold cN;simp
  rw[this,Xw (by simp[be2];omega)]
 have s1:=cP (xs:=b) (lo:=n) (hi:=n+4) (by omega) (by omega);have s2:=cP (xs:=b) (lo:=0) (hi:=n) (by omega) (by omega);have s3:=cP (xs:=b) (lo:=5+(a8 v).length+(a8 w).length) (hi:=n) (by omega) (by omega);rw[show((0:Nat):Int)=0 from rfl,X4,t1] at s2;rw[t2] at s1;rw[t3] at s3;have hw:Zb.wrap (((n+4:Nat):Int) - 4)=(n:Int):=by rw[ai (by omega)];omega
 rw[←hn] at b2 ⊢;simp only;have hu:=(tp (b:=cN k m z v w d) (by omega)).2;have a5:=hu;unfold U32 at a5;have a9:(r.take 4).length=4:=by rw[Zk];omega
 rw[if_neg (by simp),hw,s1,Z0,mr _ (a6.take 4) (by omega),Z0,s2,Z0,BQ a4 (by omega),Z0,aT,Yh a5.1 (by omega)];unfold uj
 by_cases c1:r.take 4=be4 (fD (cN k m z v w d))
 ·have a0:bq (r.take 4)=fD (cN k m z v w d):=by rw[c1,EN hu]
  rw[if_pos c1,if_neg (by simp[a0]),s3,Z0,C4 _ _ b1 (by omega),Z0]
  by_cases c2:(dec k d m).2=0
  ·rw[if_neg (by simpa using c2),if_neg (by simpa using c2)]
   rcases xR k d m with⟨l,e,g1,W,g3⟩|⟨e,g1,W⟩
   ·rw[e]
    simp only;have hm:=h.hm;have b0:l≠[]:=λe=>by rw[e] at W;simp at W;omega
    rw[KS k b0 (by omega),Z0];simp only[IJ]
    by_cases a1:(fz l:Int)=z<;>by_cases a2:ot l=v<;>by_cases a3:ou l=w<;>simp[a1,a2,a3,W,←hn]
   ·rw[g1] at c2;exact absurd c2 W
  ·rw[if_pos (by simpa using c2),if_pos c2]
 ·have a0: ¬ bq (r.take 4)=fD (cN k m z v w d):=λe=>c1 (by rw[←e,KT (a6.take 4) a9])
  rw[if_neg c1,if_pos (by simpa using a0)]
theorem KU {b:List Int}(J:Byt b)(W:b.length<=1000000000)(h:∀k m z v w d r,¬ Blk b k m z v w d r):qC b=some ([],0,70):=by
 unfold qC;rw[KR J (by omega) h,Z0]
 rfl
set_option linter.unusedVariables false
set_option linter.unusedSimpArgs false
section
variable {O:Type}
theorem Ov {xs:List O}{i:Nat}(h:i<xs.length):ix xs (i:Int)=some i:=by
  unfold ix;rw[if_pos (by omega)];simp
theorem wu {xs A B:List O}{x:O}{i:Int}(e:xs=A++x::B)(hi:i=(A.length:Int)):ix xs i=some A.length:=by
  subst e hi;unfold ix;rw[if_pos (by simp;omega)];simp
theorem qf {xs A B:List O}{x:O}(e:xs=A++x::B):xs[A.length]? =some x:=by subst e;simp
theorem AW {xs A B:List O}{x:O}(y:O)(e:xs=A++x::B):xs.set A.length y=A++y::B:=by subst e;simp
theorem LO {β:Type}{xs A B:List O}{x:O}{i:Int}{k:Nat->O->Option β}(e:xs=A++x::B)(hi:i=(A.length:Int)):((ix xs i).bind λj=>(xs[j]?).bind λx=>k j x)=k A.length x:=by
  rw[wu e hi,Z0,qf e,Z0]
def swp (xs:List O)(i j:Int):Option (List O):=
  (ix xs i).bind λa=>(xs[a]?).bind λx=>(ix xs j).bind λb=>(xs[b]?).bind λy=>(ix xs j).bind λc=>(xs[c]?).bind λ_=>
  (ix (xs.set c x) i).bind λd=>((xs.set c x)[d]?).bind λ_=>some ((xs.set c x).set d y)
theorem IL {A B C xs:List O}{x y:O}{i j:Int}(e:xs=A++x::(B++y::C))(hi:i=(A.length:Int))(J:j=(A.length:Int)+1+B.length):swp xs i j=some (A++y::(B++x::C)):=by
  have e2:xs=(A++x::B)++y::C:=by rw[e];simp
  have J:j=((A++x::B).length:Int):=by rw[J];simp;omega
  unfold swp;rw[wu e hi,Z0,qf e,Z0,wu e2 J,Z0,qf e2,Z0,Z0,qf e2,Z0];have W:=AW x e2;rw[W];have h:(A++x::B)++x::C=A++x::(B++x::C):=by simp
  rw[wu h hi,Z0,qf h,Z0,AW y h]
theorem IM {A B C xs:List O}{x y:O}{i j:Int}(e:xs=A++x::(B++y::C))(hi:i=(A.length:Int))(h:j=(A.length:Int)+1+B.length):swp xs j i=some (A++y::(B++x::C)):=by
  have e2:xs=(A++x::B)++y::C:=by rw[e];simp
  have h:j=((A++x::B).length:Int):=by rw[h];simp;omega
  unfold swp;rw[wu e2 h,Z0,qf e2,Z0,wu e hi,Z0,qf e,Z0,Z0,qf e,Z0];have W:=AW y e;rw[W];have J:A++y::(B++y::C)=(A++y::B)++y::C:=by simp
  have Z:j=((A++y::B).length:Int):=by rw[h];simp
  have e5:(A++x::B).length=(A++y::B).length:=by simp
  rw[wu J Z,Z0,qf J,Z0,AW x J];simp
theorem Gk {n:Nat}{S:List O}(h:S.length=n+1):∃S' s,S=S'++[s]/\S'.length=n:=by
  have J:S≠[]:=by intro e;rw[e] at h;cases h
  refine⟨S.dropLast,S.getLast J,(Y1 J).symm,by simp[h]⟩
theorem Stb.perm {lt:O->O->Bool}(h:Swo lt){l J:List O}(W:Stb lt l J):J.Perm l:=by
  classical
  rw[List.perm_iff_count];intro a;rw[←List.count_filter (p:=eqv lt a) (lr h a),W.flt a,List.count_filter (lr h a)]
theorem Stb.len {lt:O->O->Bool}(h:Swo lt){l J:List O}(W:Stb lt l J):J.length=l.length:=(W.perm h).length_eq
theorem Stb.app {lt:O->O->Bool}{l h m m':List O}(J:Stb lt l h)(W:Stb lt (h++m) m'):Stb lt (l++m) m':=
  W.trans λa=>by simp[J.flt]
end
def Cmp {O:Type}(lt:O->O->Bool)(p:O->O->Option Int):Prop:= ∀x y,∃c,p x y=some c/\decide (c<0)=lt x y
section
variable {lt:aa->aa->Bool}{p:aa->aa->Option Int}
theorem Ow (h:Swo lt) (hp:Cmp lt p) (L R:List aa) (v:aa) (a x6:Int) (ha:a=(L.length:Int)) (hx: -9223372036854775808<=x6+1/\x6+1<=9223372036854775807):
    ∀(n:Nat) (S1 J:List aa) (j:Int) (xs:List aa),S1.length=n->j=(L.length:Int)+S1.length->xs=L++S1++v::(J++R)->Srt lt (S1++J)->(∀s∈J,lt v s=true)->j<4611686018427387904->
    ∃T,am (λs:(Int×List aa)=>bF a p x6 s.1 s.2) (j,xs)=some (.inl (x6+1,L++T++R))/\Stb lt (S1++J++[v]) T:=by
  intro n
  induction n with
  | zero=>
    intro S1 J j xs hn hj a0 Z hv hb;obtain rfl:=Z8 hn;refine⟨v::J,?_,?_⟩
    · apply aR
      simp only[bF];rw[if_neg (by simp;simp at hj;omega)];simp only[bE,eh,ai hx];simp[a0]
    ·simpa using Stb.ins h (S1:=[]) Z hv (by simp)
  | succ n ih=>
    intro S1 J j xs hn hj a0 Z hv hb;obtain⟨W,s,rfl,a5⟩:=Gk hn;rw[Z2,Z7] at hj;have e1:xs=(L++W)++s::([]++v::(J++R)):=by rw[a0];simp
    have e2:xs=(L++(W++[s]))++v::(J++R):=a0;have a1:j - 1=((L++W).length:Int):=by rw[Z2];omega
    have a3:j=((L++(W++[s])).length:Int):=by simp;omega
    have hw:Zb.wrap (j - 1)=j - 1:=ai (by omega);obtain⟨c,hc,hd⟩:=hp v s
    have a2:bF a p x6 j xs=bE x6 j xs (lt v s):=by
      simp only[bF];rw[if_pos (by simp;omega),LO e2 a3,hw,LO e1 a1,hc,Z0,hd]
    cases hl:lt v s with
    | true=>
      have a4:bF a p x6 j xs=some (.inl (j - 1,(L++W)++v::([]++s::(J++R)))):=by
        have h1:(swp xs (j - 1) j)=_:=IL e1 a1 (by rw[←a1];simp)
        have h2:bE x6 j xs true=(swp xs (j - 1) j).bind λr=>some (.inl (j - 1,r)):=by
          simp only[bE,swp,Ye,Z0,hw,if_true]
        rw[a2,hl,h2,h1,Z0]
      obtain⟨T,h1,h2⟩:=ih W (s::J) (j - 1) _ a5 (by omega) rfl (by simpa using Z) (by
        intro x hx;rcases X5.1 hx with rfl|hx
        ·exact hl
        ·exact hv x hx) (by omega)
      refine⟨T,?_,by simpa using h2⟩;rw[bJ a4];simpa using h1
    | false=>
      refine⟨W++[s]++v::J,?_,?_⟩
      · apply aR
        show bF a p x6 j xs=_;rw[a2,hl];simp only[bE,eh,ai hx];simp[a0]
      · refine Stb.ins h Z hv (J0 h ?_ hl)
        unfold Srt at Z ⊢;rw[X3] at Z;exact Z.1
theorem M4 (h:Swo lt)(hp:Cmp lt p)(L R:List aa)(a b:Int)(ha:a=(L.length:Int))(hb:b<4611686018427387904):
    ∀(Y J S:List aa) (j:Int) (xs:List aa),Stb lt J S->j=(L.length:Int)+S.length->b=(L.length:Int)+S.length+Y.length->xs=L++S++(Y++R)->
    ∃T,am (λs:(Int×List aa)=>bV a b p s.1 s.2) (j,xs)=some (L++T++R)/\Stb lt (J++Y) T:=by
  intro Y
  induction Y with
  | nil=>
    intro J S j xs W hj Z a0;refine⟨S,?_,by simpa using W⟩;apply aR;simp only[bV];rw[if_neg (by simp;simp at Z;omega)];simp[a0]
  | cons v Y ih=>
    intro J S j xs W hj Z a0;rw[Z9] at Z;obtain⟨T,h1,h2⟩:=Ow h hp L (Y++R) v a j ha (by omega) S.length S [] j xs rfl hj (by rw[a0];simp) (by simpa using W.srt) (by simp) (by omega)
    have a2:bV a b p j xs=some (.inl (j+1,L++T++(Y++R))):=by
      simp only[bV];rw[if_pos (by simp;omega)];exact h1
    rw[Zp] at h2;have a1:=h2.len h;rw[Z2,Z7] at a1;obtain⟨T',h3,h4⟩:=ih (J++[v]) T (j+1) _ (W.app h2) (by omega) (by omega) rfl;refine⟨T',?_,by simpa using h4⟩;rw[bJ a2,h3]
theorem IN (h:Swo lt)(hp:Cmp lt p)(L X R:List aa){a b:Int}{xs:List aa}(Z:a=(L.length:Int))(J:b=(L.length:Int)+X.length)(hn:b<4611686018427387904)(W:xs=L++X++R):
    ∃T,cJ xs a b p=some (L++T++R)/\Stb lt X T:=by
  unfold cJ;rw[ai (by omega)];cases X with
  | nil=>
    refine⟨[],?_,⟨List.Pairwise.nil,λ_=>rfl⟩⟩;apply aR;simp only[bV];rw[if_neg (by simp;simp at J;omega)];simp[W]
  | cons v X=>
    rw[Z9] at J;obtain⟨T,h1,h2⟩:=M4 h hp L R a b Z hn X [v] [v] (a+1) xs ⟨by simp[Srt],λ_=>rfl⟩ (by simp;omega) (by simp;omega) (by rw[W];simp);exact⟨T,h1,by simpa using h2⟩
end
set_option linter.unusedVariables false
set_option linter.unusedSimpArgs false
section
variable {lt:aa->aa->Bool}{p:aa->aa->Option Int}
theorem KV (p1 p2 p3:Int):∀(J W A h B Z C:List aa) (i:Int) (xs:List aa),W.length=J.length->h.length=Z.length->i=(h.length:Int)->p1=(A.length:Int)->
  p2=(A.length:Int)+h.length+J.length+B.length->p3=i+J.length->xs=A++h++J++B++Z++W++C->p2+p3<4611686018427387904->
  am (λs:(Int×List aa)=>cp p1 p2 p3 s.1 s.2) (i,xs)=some (A++(h++W)++B++(Z++J)++C):=by
 intro J
 induction J with
 |nil=>
  intro W A h B Z C i xs h1 h2 h3 h4 h5 h6 a0 hb;obtain rfl:=Z8 (h1.trans rfl);apply aR;simp only[cp];rw[if_neg (by simp;simp at h6;omega)];simp[a0]
 | cons u J ih=>
  intro W A h B Z C i xs h1 h2 h3 h4 h5 h6 a0 hb;cases W with
  |nil=>cases h1
  | cons v W=>
   rw[Z9,Z9] at h1;rw[Z9] at h5 h6;have e1:xs=(A++h)++u::((J++B++Z)++v::(W++C)):=by rw[a0];simp
   have hi:p1+i=((A++h).length:Int):=by rw[Z2];omega
   have hj:p2+i=((A++h).length:Int)+1+(J++B++Z).length:=by simp only[Z2];omega
   have a1:cp p1 p2 p3 i xs=some (.inl (i+1,(A++h)++v::((J++B++Z)++u::(W++C)))):=by
    have h1:=IM e1 hi hj
    have h2:cp p1 p2 p3 i xs=(swp xs (p2+i) (p1+i)).bind λr=>some (.inl (i+1,r)):=by
     simp only[cp,swp,Ye,Z0];rw[if_pos (by simp;omega),ai (by omega),ai (by omega),ai (by omega)]
    rw[h2,h1,Z0]
   rw[bJ a1,ih W A (h++[v]) B (Z++[u]) C (i+1) _ (by omega) (by simp;omega) (by simp;omega) h4 (by simp;omega) (by omega) (by simp) hb];simp
theorem EO {A U B V C xs:List aa}{p1 J h:Int}(Z:V.length=U.length)(h2:p1=(A.length:Int))(h3:J=(A.length:Int)+U.length+B.length)(h4:h=(U.length:Int))(a0:xs=A++U++B++V++C)(W:J+h<4611686018427387904):
  cG xs p1 J h p=some (A++V++B++U++C):=by
 unfold cG;have:=KV p1 J h U V A [] B [] C 0 xs Z rfl rfl h2 (by simp;omega) (by omega) (by simpa using a0) W;simpa using this
theorem KW (m:Int):∀(n:Nat) (X Y A C:List aa) (i j:Int) (xs:List aa),X.length+Y.length=n->0<X.length->0<Y.length->i=(X.length:Int)->j=(Y.length:Int)->m=(A.length:Int)+X.length->
  xs=A++X++Y++C->m+j<2305843009213693952->i<2305843009213693952->
  am (λs:(Int×Int×List aa)=>cf m p s.1 s.2.1 s.2.2) (i,j,xs)=some (A++Y++X++C):=by
 intro n
 induction n using X6 with
 | _ n ih=>
  intro X Y A C i j xs hn hX hY hi hj hm J hb a0
  by_cases hij:i=j
  ·apply aR
   simp only[cf];rw[if_neg (by simp[hij])];simp only[jJ];rw[ai (by omega),EO (A:=A) (U:=X) (B:=[]) (V:=Y) (C:=C) (by omega) (by omega) (by simp;omega) hi (by simp[J]) (by omega)];simp
  ·by_cases hlt:j<i
   ·have W:X=X.take Y.length++X.drop Y.length:=(Zg _ _).symm
    have h:cf m p i j xs=some (.inl (i - j,j,(A++Y)++X.drop Y.length++X.take Y.length++C)):=by
     simp only[cf]
     rw[if_pos (by simp[hij]),if_pos (by simp[hlt]),ai (by omega),EO (A:=A) (U:=X.take Y.length) (B:=X.drop Y.length) (V:=Y) (C:=C) (by simp;omega) (by omega) (by simp;omega) (by simp;omega)
      (by rw[J];simp) (by omega),Z0,ai (by omega)]
    rw[bJ h,ih (n - Y.length) (by omega) (X.drop Y.length) (X.take Y.length) (A++Y) C (i - j) j _ (by simp;omega) (by simp;omega) (by simp;omega) (by simp;omega) (by simp;omega) (by simp;omega) rfl (by omega) (by omega)];simp
   ·have Z:Y=Y.take (Y.length - X.length)++Y.drop (Y.length - X.length):=(Zg _ _).symm
    have h:cf m p i j xs=some (.inl (i,j - i,A++Y.drop (Y.length - X.length)++Y.take (Y.length - X.length)++(X++C))):=by
     simp only[cf]
     rw[if_pos (by simp[hij]),if_neg (by simp;omega),ai (n:=m - i) (by omega),ai (n:=m+j) (by omega),ai (n:=m+j - i) (by omega),
      EO (A:=A) (U:=X) (B:=Y.take (Y.length - X.length)) (V:=Y.drop (Y.length - X.length)) (C:=C) (by simp;omega) (by omega) (by simp;omega) (by omega)
      (by rw[J];simp) (by omega),Z0,ai (by omega)]
     simp
    rw[bJ h,ih (n - X.length) (by omega) (Y.drop (Y.length - X.length)) (Y.take (Y.length - X.length)) A (X++C) i (j - i) _ (by simp;omega) (by simp;omega) (by simp;omega) (by simp;omega) (by simp;omega) (by simp;omega) rfl (by omega) (by omega)];simp
theorem Ox {A X Y C xs:List aa}{a m b:Int}(h:0<X.length)(J:0<Y.length)(Z:a=(A.length:Int))(hm:m=a+X.length)(hb:b=m+Y.length)(W:xs=A++X++Y++C)(hn:b<2305843009213693952):
  cZ xs a m b p=some (A++Y++X++C):=by
 unfold cZ;rw[ai (by omega),ai (by omega)];exact KW m _ X Y A C _ _ xs rfl h J (by omega) (by omega) (by omega) W (by omega) (by omega)
theorem KX (e:Int)(he:e<4611686018427387904)(x:aa)(Q:List aa):∀(h pre:List aa) (k:Int) (xs:List aa),k=(pre.length:Int)->e - 1=k+h.length->xs=pre++x::(h++Q)->
  am (λs:(Int×List aa)=>cw e s.1 s.2) (k,xs)=some (pre++h++x::Q):=by
 intro h
 induction h with
 |nil=>
  intro pre k xs Z J W;apply aR;simp only[cw];rw[ai (by omega),if_neg (by simp;simp at J;omega)];simp[jf,W]
 | cons b h ih=>
  intro pre k xs Z J W;rw[Z9] at J;have e1:xs=pre++x::([]++b::(h++Q)):=by rw[W];simp
  have a0:cw e k xs=some (.inl (k+1,pre++b::([]++x::(h++Q)))):=by
   have h2:=IM e1 Z (j:=k+1) (by simp;omega)
   have h3:cw e k xs=(swp xs (k+1) k).bind λr=>some (.inl (k+1,r)):=by
    simp only[cw,swp,Ye,Z0];rw[ai (n:=e - 1) (by omega),if_pos (by simp;omega),ai (by omega)]
   rw[h3,h2,Z0]
  rw[bJ a0,ih (pre++[b]) (k+1) _ (by simp;omega) (by omega) (by simp)];simp
theorem KY (e:Int)(y:aa)(pre:List aa)(he:e=(pre.length:Int)):∀(n:Nat) (h Q:List aa) (k:Int) (xs:List aa),h.length=n->k=e+h.length->xs=pre++h++y::Q->k<4611686018427387904->
  am (λs:(Int×List aa)=>cx e s.1 s.2) (k,xs)=some (pre++y::(h++Q)):=by
 intro n
 induction n with
 |zero=>
  intro h Q k xs J W a0 hb;obtain rfl:=Z8 J;apply aR;simp only[cx];rw[if_neg (by simp;simp at W;omega)];simp[jg,a0]
 | succ n ih=>
  intro h Q k xs J W a0 hb;obtain⟨Z,s,rfl,a1⟩:=Gk J;rw[Z2,Z7] at W;have e1:xs=(pre++Z)++s::([]++y::Q):=by rw[a0];simp
  have a2:cx e k xs=some (.inl (k - 1,(pre++Z)++y::([]++s::Q))):=by
   have h2:=IL e1 (i:=k - 1) (j:=k) (by simp;omega) (by simp;omega)
   have h3:cx e k xs=(swp xs (k - 1) k).bind λr=>some (.inl (k - 1,r)):=by
    simp only[cx,swp,Ye,Z0];rw[if_pos (by simp;omega),ai (by omega)]
   rw[h3,h2,Z0]
  rw[bJ a2,ih Z (s::Q) (k - 1) _ a1 (by omega) (by simp) (by omega)];simp
end
theorem BR {β:Type}{F:Int×Int->Option ((Int×Int)⊕β)}(g:Nat->Bool)(W J:Nat)(K:Nat->Option β)
  (a0:∀lo hi:Nat,W<=lo->lo<hi->hi<=J->F (lo,hi)=some (.inl (if g ((lo+hi)/2) then (((lo+hi)/2+1:Nat),hi) else (lo,((lo+hi)/2:Nat)))))
  (a1:∀s:Nat,W<=s->s<=J->F (s,s)=(K s).map Sum.inr) (h:W<=J):
  ∃s:Nat,W<=s/\s<=J/\(s=W\/g (s - 1)=true)/\(s=J\/g s=false)/\am F ((W:Int),(J:Int))=K s:=by
 have key:∀(n lo hi:Nat),hi - lo=n->W<=lo->lo<=hi->hi<=J->(lo=W\/g (lo - 1)=true)->(hi=J\/g hi=false)->
   ∃s:Nat,W<=s/\s<=J/\(s=W\/g (s - 1)=true)/\(s=J\/g s=false)/\am F ((lo:Int),(hi:Int))=K s:=by
  intro n
  induction n using X6 with
  | _ n ih=>
   intro lo hi hn h1 h2 h3 h4 h5
   by_cases hlt:lo<hi
   ·have Z:=a0 lo hi h1 hlt h3
    cases hg:g ((lo+hi)/2) with
    |true=>
     rw[hg,if_pos rfl] at Z;rw[bJ Z];exact ih (hi - ((lo+hi)/2+1)) (by omega) _ _ rfl (by omega) (by omega) h3 (Or.inr (by simpa using hg)) h5
    |false=>
     rw[hg,if_neg (by simp)] at Z;rw[bJ Z];exact ih ((lo+hi)/2 - lo) (by omega) _ _ rfl h1 (by omega) (by omega) h4 (Or.inr hg)
   ·obtain rfl:lo=hi:=by omega
    refine⟨lo,h1,h3,h4,h5,?_⟩;rw[mK,a1 lo h1 h3];cases K lo<;>rfl
 exact key _ W J rfl (Zy _) h (Zy _) (Or.inl rfl) (Or.inl rfl)
theorem xV {x:Int}(h:0<=x/\x<9223372036854775808):Zb.wrap (aX .u64 (Zt.wrap (Zb.wrap x)) 1)=x/2:=by
 rw[ai (n:=x) (by omega),aT,Yh (by omega) (by omega)];have:aX .u64 x ((1:Nat):Int)=x/2^1:=rh (by decide);rw[show(1:Int)=((1:Nat):Int) from rfl,this,ai (by omega)]
 rfl
section
variable {O:Type}
theorem vk {β:Type}{xs:List O}{x:O}{i:Int}{h:Nat}{k:Nat->O->Option β}(e:xs[h]? =some x)(hi:i=(h:Int)):((ix xs i).bind λj=>(xs[j]?).bind λx=>k j x)=k h x:=by
 obtain⟨J,W⟩:=Xn.1 e;rw[hi,Ov J,Z0,e,Z0]
theorem xsA {L A B R:List O}{k:Nat}(h:k<A.length):(L++A++B++R)[L.length+k]? =A[k]? :=by
 rw[Ze,Ze,Y9 (by omega),show L.length+k - L.length=k by omega,Yf h]
theorem xsB {L A B R:List O}{k:Nat}(h:k<B.length):(L++A++B++R)[L.length+A.length+k]? =B[k]? :=by
 rw[Ze,Y9 (by simp),show L.length+A.length+k - (L++A).length=k by simp,Yf h]
theorem CJ {A:List O}{k:Nat}(h:k<A.length){x:O}(e:A[k]? =some x):∃A',A.take (k+1)=A'++[x]:=by
 obtain⟨J,W⟩:=Xn.1 e;exact⟨A.take k,by rw[Yo,e];rfl⟩
theorem AX {A:List O}{k:Nat}{x:O}(e:A[k]? =some x):∃A',A.drop k=x::A':=by
 obtain⟨h,J⟩:=Xn.1 e;exact⟨A.drop (k+1),by rw[Z5 h,J]⟩
theorem Oy {lt:O->O->Bool}(h:Swo lt){A1 A2 B1 B2:List O}(hA:Srt lt (A1++A2))(hB:Srt lt (B1++B2))
  (h1:B1=[]\/A2=[]\/ ∃Z b a A',B1=Z++[b]/\A2=a::A'/\lt b a=true)
  (h2:A1=[]\/B2=[]\/ ∃A' a b Z,A1=A'++[a]/\B2=b::Z/\lt b a=false):
  (∀b∈B1,∀a∈A2,lt b a=true)/\(∀a∈A1,∀b∈B2,lt b a=false):=by
 unfold Srt at hA hB;rw[X3] at hA hB;constructor
 ·rcases h1 with rfl|rfl|⟨Z,bl,af,A',rfl,rfl,hl⟩
  ·simp
  ·simp
  ·intro b J a W
   cases hba:lt b a with
   |true=>rfl
   | false=>
    exfalso
    have a1:lt bl b=false:=by
     rcases Zf.1 J with J|J
     ·exact(X3.1 hB.1).2.2 b J bl (by simp)
     ·simp at J;subst J;exact h.irr _
    have a0:lt a af=false:=by
     rcases X5.1 W with rfl|W
     ·exact h.irr _
     ·exact(Zs.1 hA.2.1).1 a W
    have:=h.inc bl a af (h.inc bl b a a1 hba) a0;rw[hl] at this;cases this
 ·rcases h2 with rfl|rfl|⟨A',al,bf,Z,rfl,rfl,hl⟩
  ·simp
  ·simp
  ·intro a W b J
   have a1:lt b bf=false:=by
    rcases X5.1 J with rfl|J
    ·exact h.irr _
    ·exact(Zs.1 hB.2.1).1 b J
   have a0:lt al a=false:=by
    rcases Zf.1 W with W|W
    ·exact(X3.1 hA.1).2.2 a W al (by simp)
    ·simp at W;subst W;exact h.irr _
   exact h.inc b bf a a1 (h.inc bf al a hl a0)
theorem Srt.take {lt:O->O->Bool}{A:List O}(h:Srt lt A)(k:Nat):Srt lt (A.take k):=List.Pairwise.sublist (List.take_sublist k A) h
theorem Srt.drop {lt:O->O->Bool}{A:List O}(h:Srt lt A)(k:Nat):Srt lt (A.drop k):=List.Pairwise.sublist (List.drop_sublist k A) h
end
set_option linter.unusedVariables false
set_option linter.unusedSimpArgs false
section
variable {lt:aa->aa->Bool}{p:aa->aa->Option Int}
def Hr (lt:aa->aa->Bool)(p:aa->aa->Option Int)(h:List aa->Int->Int->Int->(aa->aa->Option Int)->Option (List aa))(N:Nat):Prop:=
  ∀ (L A B R:List aa) (a m b:Int) (xs:List aa),0<A.length->0<B.length->a=(L.length:Int)->m=(L.length:Int)+A.length->b=(L.length:Int)+A.length+B.length->xs=L++A++B++R->
    A.length+B.length<=N->xs.length<1152921504606846976->Srt lt A->Srt lt B->∃T,h xs a m b p=some (L++T++R)/\Stb lt (A++B) T
def gx (lt:aa->aa->Bool)(xs:List aa)(i j:Nat):Bool:=match xs[i]?,xs[j]? with
  |some x,some y=>lt x y
  |_,_=>false
theorem AY {xs:List aa}{i j:Nat}{x y:aa}(h:xs[i]? =some x)(J:xs[j]? =some y):gx lt xs i j=lt x y:=by simp[gx,h,J]
theorem xW (h:Swo lt){L A B R xs:List aa}(a2:xs=L++A++B++R)(hA:Srt lt A)(hB:Srt lt B)(k1 k2:Nat)(h1:k1<=A.length)(h2:k2<=B.length)
    (c1:k2=0\/k1=A.length\/(0<k2/\k1<A.length/\gx lt xs (L.length+A.length+(k2 - 1)) (L.length+k1)=true))
    (c2:k1=0\/k2=B.length\/(0<k1/\k2<B.length/\gx lt xs (L.length+A.length+k2) (L.length+(k1 - 1))=false)):
    (∀b∈B.take k2,∀a∈A.drop k1,lt b a=true)/\(∀a∈A.take k1,∀b∈B.drop k2,lt b a=false):=by
  have J:Srt lt (A.take k1++A.drop k1):=by rw[Zg];exact hA
  have W:Srt lt (B.take k2++B.drop k2):=by rw[Zg];exact hB
  refine Oy h J W ?_ ?_
  · rcases c1 with rfl|rfl|⟨hk,a0,hg⟩
    ·simp
    ·simp
    · right;right
      have Z:B[k2 - 1]? =some B[k2 - 1]:=Z4 (by omega);have ea:A[k1]? =some A[k1]:=Z4 a0;obtain⟨B',W⟩:=CJ (by omega) Z;obtain⟨A',J⟩:=AX ea;rw[show k2 - 1+1=k2 by omega] at W;refine⟨B',_,_,A',W,J,?_⟩;rw[←hg,a2,AY ((xsB (by omega)).trans Z) ?_];exact(xsA a0).trans ea
  · rcases c2 with rfl|rfl|⟨hk,a1,hg⟩
    ·simp
    ·simp
    · right;right
      have ea:A[k1 - 1]? =some A[k1 - 1]:=Z4 (by omega);have Z:B[k2]? =some B[k2]:=Z4 a1;obtain⟨A',J⟩:=CJ (by omega) ea;obtain⟨B',W⟩:=AX Z;rw[show k1 - 1+1=k1 by omega] at J;refine⟨A',_,_,B',J,W,?_⟩;rw[←hg,a2,AY ((xsB a1).trans Z) ?_];exact(xsA (by omega)).trans ea
theorem M5 (h :Swo lt) (hp:Cmp lt p) {L B R xs:List aa} {x:aa} {a m b:Int} (b0:0<B.length) (ha:a=(L.length:Int)) (hm:m=(L.length:Int)+1) (hb:b=(L.length:Int)+1+B.length)
    (W:xs=L++[x]++B++R) (hn:xs.length<1152921504606846976) (J:Srt lt B):
    ∃T,am (λs:(Int×Int)=>cV xs a p s.1 s.2) (m,b)=some (L++T++R)/\Stb lt ([x]++B) T:=by
  have a9:xs.length=L.length+1+B.length+R.length:=by rw[W];simp;omega
  have ex:xs[L.length]? =some x:=by rw[W];simp
  have a1:m=((L.length+1:Nat):Int):=by omega
  have a3:b=((L.length+1+B.length:Nat):Int):=by omega
  obtain⟨s,h1,h2,Z,h4,h5⟩:=BR (F:=λs:(Int×Int)=>cV xs a p s.1 s.2) (λc=>gx lt xs c L.length) (L.length+1) (L.length+1+B.length)
    (λs=>fo xs a (s:Int)) (λlo hi h1 h2 Z=>by
      have hc:(lo+hi)/2<xs.length:=by omega
      have ec:xs[(lo+hi)/2]? =some xs[(lo+hi)/2]:=Z4 hc;obtain⟨c,a5,a6⟩:=hp xs[(lo+hi)/2] x;simp only[cV];rw[if_pos (by simp;omega),xV (by omega),vk ec (by omega),vk ex ha,a5,Z0,a6,AY ec ex,ai (by omega)]
      split<;>rfl)
    (λs h1 h2=>by
      simp only[cV]
      rw[if_neg (by simp)]) (by omega)
  obtain⟨k,rfl⟩:∃k,s=L.length+1+k:=⟨s - (L.length+1),by omega⟩
  have a0   :=xW h (A:=[x]) W (by simp[Srt]) J 0 k (by simp) (by omega)
    (by rcases Z with Z|Z
        ·left;omega
        · by_cases hk:k=0
          ·left;exact hk
          · right;right;refine⟨by omega,by simp,?_⟩
            rw[←Z];congr 1;simp;omega)
    (Or.inl rfl)
  have a4:    ∀b∈B.drop k,lt b x=false:=by
    have := xW h (A:=[x]) W (by simp[Srt]) J 1 k (by simp) (by omega) (Or.inr (Or.inl rfl))
      (by rcases h4 with h4|h4
          ·right;left;omega
          · by_cases hk:k=B.length
            ·right;left;exact hk
            · right;right;refine⟨by omega,by omega,?_⟩
              rw[←h4];congr 1)
    intro b hb;exact this.2 x (by simp) b hb
  refine⟨B.take k++x::B.drop k,?_,?_⟩
  · rw[a1,a3,h5]
    unfold fo;rw[KX _ (by omega) x (B.drop k++R) (B.take k) L a xs ha (by simp;omega) (by rw[W,←Ze (B.take k),Zg];simp)];simp
  · have a2:Srt lt (B.take k++B.drop k):=by rw[Zg];exact J
    have:=Stb.cat h (A1:=[]) (A2:=[x]) (B1:=B.take k) (B2:=B.drop k) (R1:=B.take k) (R2:=x::B.drop k) (Stb.refl (J.take k))
      (Stb.refl (by
        unfold Srt;rw[Yz,Zs]
        exact⟨a4,J.drop k⟩)) (by simp[Srt]) a2 (λb hb a ha=>a0.1 b hb a ha) (by simp)
    simpa using this
theorem KZ (h :Swo lt) (hp:Cmp lt p) {L A R xs:List aa} {y:aa} {a m:Int} (a6:0<A.length) (J:a=(L.length:Int)) (hm:m=(L.length:Int)+A.length)
    (Z:xs=L++A++[y]++R) (hn:xs.length<1152921504606846976) (W:Srt lt A):
    ∃T,am (λs:(Int×Int)=>cW xs m p s.1 s.2) (a,m)=some (L++T++R)/\Stb lt (A++[y]) T:=by
  have a9:xs.length=L.length+A.length+1+R.length:=by rw[Z];simp;omega
  have ey:xs[L.length+A.length]? =some y:=by
    rw[Z];simp
  have a0:m=((L.length+A.length:Nat):Int):=by omega
  obtain⟨s,h1,h2,h3,h4,h5⟩:=BR (F:=λs:(Int×Int)=>cW xs m p s.1 s.2) (λc=> !gx lt xs (L.length+A.length) c) L.length (L.length+A.length)
    (λs=>fp xs m (s:Int)) (λlo hi h1 h2 h3=>by
      have hc:(lo+hi)/2<xs.length:=by omega
      have ec:xs[(lo+hi)/2]? =some xs[(lo+hi)/2]:=Z4 hc;obtain⟨c,a4,a5⟩:=hp y xs[(lo+hi)/2];simp only[cW];rw[if_pos (by simp;omega),xV (by omega),vk ey a0,vk ec (by omega),a4,Z0,a5,AY ey ec,ai (by omega)]
      split<;>rfl)
    (λs h1 h2=>by
      simp only[cW]
      rw[if_neg (by simp)]) (by omega)
  obtain⟨k,rfl⟩:∃k,s=L.length+k:=⟨s - L.length,by omega⟩
  have hk:k<=A.length:=by omega
  have a3:    ∀a∈A.drop k,lt y a=true:=by
    have := xW h Z W (by simp[Srt]:Srt lt [y]) k 1 hk (by simp)
      (by rcases h4 with h4|h4
          ·right;left;omega
          · by_cases hk':k=A.length
            ·right;left;exact hk'
            · right;right;refine⟨by omega,by omega,?_⟩
              simpa using h4)
      (Or.inr (Or.inl rfl))
    intro a J;exact this.1 y (by simp) a J
  have a2:    ∀a∈A.take k,lt y a=false:=by
    have := xW h Z W (by simp[Srt]:Srt lt [y]) k 0 hk (by simp) (Or.inl rfl)
      (by rcases h3 with h3|h3
          ·left;omega
          · by_cases hk':k=0
            ·left;exact hk'
            · right;right;refine⟨by omega,by simp,?_⟩
              rw[show L.length+(k - 1)=L.length+k - 1 by omega]
              simpa using h3)
    intro a J;exact this.2 a J y (by simp)
  refine⟨A.take k++y::A.drop k,?_,?_⟩
  · rw[J,a0]
    rw[←a0,←J] at h5 ⊢;rw[h5];unfold fp;rw[KY _ y (L++A.take k) (by simp;omega) _ (A.drop k) R m xs rfl (by simp;omega) (by rw[Z];simp) (by omega)];simp
  · have a1:Srt lt (A.take k++A.drop k):=by rw[Zg];exact W
    have:=Stb.cat h (A1:=A.take k) (A2:=A.drop k) (B1:=[y]) (B2:=[]) (R1:=A.take k++[y]) (R2:=A.drop k) (Stb.refl (by
        unfold Srt;rw[X3];refine⟨W.take k,by simp,λa J b hb=>?_⟩;rw[Xi] at hb;subst hb
        exact a2 a J)) (by simpa using Stb.refl (W.drop k)) a1 (by simp[Srt]) (λb hb a J=>by
          rw[Xi] at hb;subst hb
          exact a3 a J) (by simp)
    simpa using this
theorem SX {J:List aa->Int->Int->Int->(aa->aa->Option Int)->Option (List aa)}{xs:List aa}{a m b s mid e:Int}
    (a0:mid=(a+b)/2) (he:e=mid+m - s) (h0:0<=a) (h1:0<=m) (h2:0<=b) (h3:0<=s) (ha:a<1152921504606846976) (hb:b<1152921504606846976) (hm:m<1152921504606846976) (hs:s<1152921504606846976):
    dL xs a m b p J s=(if s<m/\m<e then cZ xs s m e p else some xs).bind λr=>
      (if a<s/\s<mid then J r a s mid p else some r).bind λh=>(if mid<e/\e<b then J h mid e b p else some h):=by
  have W:Zb.wrap (aX .u64 (Zt.wrap (Zb.wrap (a+b))) 1)=mid:=by rw[xV (by omega),a0]
  have hN:Zb.wrap (mid+m)=mid+m:=ai (by omega);have Z:Zb.wrap (mid+m - s)=e:=by rw[ai (by omega),he]
  have a1:∀h,dE a m b p J s h=(if mid<e/\e<b then J h mid e b p else some h):=by
    intro h;simp only[dE,eY,W,hN,Z]
    by_cases c1:mid<e<;>by_cases c2:e<b<;>simp[c1,c2]
  have h9:∀r,dK a m b p J s r=(if a<s/\s<mid then J r a s mid p else some r).bind λh=>(if mid<e/\e<b then J h mid e b p else some h):=by
    intro r;simp only[dK,fq,W,a1]
    by_cases c1:a<s<;>by_cases c2:s<mid<;>simp[c1,c2]
  simp only[dL,ft,W,hN,Z,h9]
  by_cases c1:s<m<;>by_cases c2:m<e<;>simp[c1,c2]
end
set_option linter.unusedVariables false
set_option linter.unusedSimpArgs false
section
variable {lt:aa->aa->Bool}{p:aa->aa->Option Int}
theorem SY (h:Swo lt) (hp:Cmp lt p) {a2:List aa->Int->Int->Int->(aa->aa->Option Int)->Option (List aa)} {N:Nat} (b3:Hr lt p a2 N):
    Hr lt p (dV a2) (N+1):=by
  intro L A B R a m b xs b5 d0 ha hm hb a4 hN hn hA hB;have e0:xs.length=L.length+A.length+B.length+R.length:=by rw[a4];simp;omega
  simp only[dV]
  by_cases hA1:A.length=1
  · rw[ai (n:=m - a) (by omega),if_pos (by simp;omega)]
    obtain⟨x,rfl⟩:=Yr.1 hA1;exact M5 h hp d0 ha (by simpa using hm) (by simpa using hb) a4 hn hB
  rw[ai (n:=m - a) (by omega),if_neg (by simp;omega)]
  by_cases hB1:B.length=1
  · rw[ai (n:=b - m) (by omega),if_pos (by simp;omega)]
    obtain⟨y,rfl⟩:=Yr.1 hB1;exact KZ h hp b5 ha hm a4 hn hA
  rw[ai (n:=b - m) (by omega),if_neg (by simp;omega)];have hM:Zb.wrap (aX .u64 (Zt.wrap (Zb.wrap (a+b))) 1)=(a+b)/2:=xV (by omega);have b0:Zb.wrap ((a+b)/2+m)=(a+b)/2+m:=ai (by omega)
  obtain⟨aN,e6⟩:∃n:Nat,n=L.length:=⟨_,rfl⟩
  obtain⟨J,e3⟩:∃n:Nat,n=L.length+A.length:=⟨_,rfl⟩
  obtain⟨bN,e4⟩:∃n:Nat,n=L.length+A.length+B.length:=⟨_,rfl⟩
  have c3:a=(aN:Int):=by omega
  have b7:m=(J:Int):=by omega
  have e5:b=(bN:Int):=by omega
  obtain⟨mid,e7⟩:∃n:Nat,n=(aN+bN)/2:=⟨_,rfl⟩
  have b2:(a+b)/2=(mid:Int):=by omega
  rw[b2] at hM b0
  have key: ∀a1 a0:Nat,aN<=a1->a1<=a0->a0<=J->a0<=mid->(a1=aN\/a1+bN=mid+J)->(a0=J\/a0=mid)->mid+J<=a1+bN->
      ∃T,dN xs a m b p a2 (a1:Int) (a0:Int)=some (L++T++R)/\Stb lt (A++B) T:=by
    intro a1 a0 q1 q2 q3 q4 q5 q6 q7
    obtain⟨s,h1,h2,h3,h4,h5⟩:=BR (F:=λs:(Int×Int)=>dM xs a m b p a2 s.1 s.2) (λc=> !gx lt xs (mid+J - 1 - c) c) a1 a0
      (λs=>dL xs a m b p a2 (s:Int)) (λlo hi g1 g2 g3=>by
        have hc:(lo+hi)/2<xs.length:=by omega
        have hd:mid+J - 1 - (lo+hi)/2<xs.length:=by omega
        have ec:xs[(lo+hi)/2]? =some xs[(lo+hi)/2]:=Z4 hc;have ed:xs[mid+J - 1 - (lo+hi)/2]? =some xs[mid+J - 1 - (lo+hi)/2]:=Z4 hd;obtain⟨c,d1,d2⟩:=hp xs[mid+J - 1 - (lo+hi)/2] xs[(lo+hi)/2];simp only[dM];rw[if_pos (by simp;omega),hM,xV (by omega),b0,ai (n:=(mid:Int)+m - 1) (by omega),ai (n:=(mid:Int)+m - 1 - ((lo:Int)+hi)/2) (by omega),vk ed (by omega),vk ec (by omega),d1,Z0,d2,AY ed ec,ai (by omega)]
        split<;>rfl)
      (λs g1 g2=>by
        simp only[dM]
        rw[if_neg (by simp)]) q2
    unfold dN;rw[h5,SX (mid:=(mid:Int)) (e:=((mid+J - s:Nat):Int)) b2.symm (by omega) (by omega) (by omega) (by omega) (by omega) (by omega) (by omega) (by omega) (by omega)];obtain⟨k1,c5⟩:∃k,s=L.length+k:=⟨s - L.length,by omega⟩
    obtain⟨k2,e8⟩:∃k,mid+J - s=L.length+A.length+k:=⟨mid+J - s - (L.length+A.length),by omega⟩
    have c4:k1<=A.length:=by omega
    have c7:k2<=B.length:=by omega
    obtain⟨c1,c2⟩:=xW h a4 hA hB k1 k2 c4 c7
      (by rcases h4 with h4|h4
          · rcases q6 with q6|q6
            ·right;left;omega
            ·left;omega
          · by_cases W:k2=0
            ·left;exact W
            by_cases e2:k1=A.length
            ·right;left;exact e2
            right;right;refine⟨by omega,by omega,?_⟩;rw[show L.length+A.length+(k2 - 1)=mid+J - 1 - s by omega,←c5]
            simpa using h4)
      (by rcases h3 with h3|h3
          · rcases q5 with q5|q5
            ·left;omega
            ·right;left;omega
          · by_cases W:k1=0
            ·left;exact W
            by_cases e2:k2=B.length
            ·right;left;exact e2
            right;right;refine⟨by omega,by omega,?_⟩;rw[show L.length+A.length+k2=mid+J - 1 - (s - 1) by omega,show L.length+(k1 - 1)=s - 1 by omega]
            simpa using h3)
    have eA:A.take k1++A.drop k1=A:=Zg _ _;have eB:B.take k2++B.drop k2=B:=Zg _ _;have a5:(A.take k1).length=k1:=by simp;omega
    have a3:(A.drop k1).length=A.length - k1:=by simp
    have a6:(B.take k2).length=k2:=by simp;omega
    have b1:(B.drop k2).length=B.length - k2:=by simp
    have b4:xs=L++A.take k1++A.drop k1++B.take k2++(B.drop k2++R):=by
      rw[a4]
      conv=>lhs;rw[←eA,←eB]
      simp only[Ze]
    have c6:(if (s:Int)<m/\m<((mid+J - s:Nat):Int) then cZ xs s m ((mid+J - s:Nat):Int) p else some xs)=some (L++A.take k1++B.take k2++(A.drop k1++B.drop k2++R)):=by
      split
      · rename_i hc
        rw[Ox (A:=L++A.take k1) (X:=A.drop k1) (Y:=B.take k2) (C:=B.drop k2++R) (by rw[a3];omega) (by rw[a6];omega) (by rw[Z2,a5];omega) (by rw[a3];omega) (by rw[a6];omega)
          b4 (by omega)]
        simp
      · rename_i hc
        rw[b4]
        by_cases W:k1=A.length
        · have:A.drop k1=[]:=Zn (by omega)
          rw[this];simp only[Ze,Zi,Zp]
        · have e2:k2=0:=by omega
          have:B.take k2=[]:=by rw[e2];rfl
          rw[this];simp only[Ze,Zi,Zp]
    rw[c6,Z0]
    have c0:∃Z,(if a<(s:Int)/\(s:Int)<(mid:Int) then a2 (L++A.take k1++B.take k2++(A.drop k1++B.drop k2++R)) a s mid p else some (L++A.take k1++B.take k2++(A.drop k1++B.drop k2++R)))=some (L++Z++(A.drop k1++B.drop k2++R))/\Stb lt (A.take k1++B.take k2) Z:=by
      split
      · rename_i hc
        exact b3 L (A.take k1) (B.take k2) _ a s mid _ (by omega) (by omega) ha (by rw[a5];omega) (by rw[a5,a6];omega) rfl (by omega) (by simp only[Z2,a5,a6,a3,b1];omega) (hA.take _) (hB.take _)
      · rename_i hc
        refine⟨A.take k1++B.take k2,by simp,Stb.refl ?_⟩
        by_cases W:k1=0
        ·rw[W];simpa using hB.take k2
        · have e2:k2=0:=by omega
          rw[e2];simpa using hA.take k1
    obtain⟨Z,W,s1⟩:=c0;rw[W,Z0];have a9:Z.length=k1+k2:=by rw[s1.len h,Z2,a5,a6]
    have b6:∃T2,(if (mid:Int)<((mid+J - s:Nat):Int)/\((mid+J - s:Nat):Int)<b then a2 (L++Z++(A.drop k1++B.drop k2++R)) mid ((mid+J - s:Nat):Int) b p else some (L++Z++(A.drop k1++B.drop k2++R)))=some (L++Z++T2++R)/\Stb lt (A.drop k1++B.drop k2) T2:=by
      split
      · rename_i hc
        exact b3 (L++Z) (A.drop k1) (B.drop k2) R mid _ b _ (by omega) (by omega) (by rw[Z2,a9];omega) (by rw[Z2,a9,a3];omega) (by rw[Z2,a9,a3,b1];omega) (by simp) (by omega) (by simp only[Z2,a3,b1,a9];omega) (hA.drop _) (hB.drop _)
      · rename_i hc
        refine⟨A.drop k1++B.drop k2,by simp,Stb.refl ?_⟩
        by_cases W:k1=A.length
        ·rw[W];simpa using hB.drop k2
        · have e2:k2=B.length:=by omega
          rw[e2];simpa using hA.drop k1
    obtain⟨T2,e2,s2⟩:=b6;rw[e2];refine⟨Z++T2,by simp,?_⟩;have:=Stb.cat h s1 s2 (by rw[eA];exact hA) (by rw[eB];exact hB) c1 c2;rw[eA,eB] at this;exact this
  rw[hM]
  by_cases hmm:mid<J
  · rw[if_pos (by simp;omega),b0,ai (by omega)]
    have:=key (mid+J - bN) mid (by omega) (by omega) (by omega) (by omega) (Or.inr (by omega)) (Or.inr rfl) (by omega);rw[show((mid+J - bN:Nat):Int)=(mid:Int)+m - b by omega] at this;exact this
  · rw[if_neg (by simp;omega)]
    have:=key aN J (by omega) (by omega) (by omega) (by omega) (Or.inl rfl) (Or.inl rfl) (by omega);rw[←c3,←b7] at this;exact this
theorem SZ (h:Swo lt)(J:Cmp lt p):∀n,Hr lt p (c8 n) n:=by
  intro n
  induction n with
  |zero=>intro L A B R a m b xs hA Z _ _ _ _ W;omega
  |succ n ih=>exact SY h J ih
theorem IP (h:Swo lt)(hp:Cmp lt p){L A B R xs:List aa}{a m b:Int}(W:0<A.length)(Z:0<B.length)(ha:a=(L.length:Int))(hm:m=(L.length:Int)+A.length)(hb:b=(L.length:Int)+A.length+B.length)
    (J:xs=L++A++B++R) (hn:xs.length<1152921504606846976) (hA:Srt lt A) (hB:Srt lt B):
    ∃T,dx xs a m b p=some (L++T++R)/\Stb lt (A++B) T:=by
  unfold dx;exact SZ h hp _ L A B R a m b xs W Z ha hm hb J (by rw[J];simp;omega) hn hA hB
end
set_option linter.unusedVariables false
set_option linter.unusedSimpArgs false
inductive Bls {O:Type}(lt:O->O->Bool)(k:Nat):List O->List O->Prop
 |last {l l':List O} (h:l.length<=k) (s:Stb lt l l'):Bls lt k l l'
 |more {l l' t t':List O} (h:l.length=k) (s:Stb lt l l') (ht:Bls lt k t t'):Bls lt k (l++t) (l'++t')
section
variable {O:Type}{lt:O->O->Bool}
theorem Stb.nil:Stb lt ([]:List O) []:=⟨List.Pairwise.nil,λ_=>rfl⟩
theorem Bls.len (h:Swo lt){k:Nat}{l J:List O}(W:Bls lt k l J):J.length=l.length:=by
 induction W with
 |last _ s=>exact s.len h
 |more _ s _ ih=>rw[Z2,Z2,s.len h,ih]
theorem Bls.done (h:Swo lt){k:Nat}(hk:0<k){l J:List O}(Z:Bls lt k l J)(W:l.length<=k):Stb lt l J:=by
 cases Z with
 |last _ s=>exact s
 | @more l J t t' h1 s ht=>
  rw[Z2] at W;have:t=[]:=Z8 (by omega);subst this;have:t'=[]:=Z8 (by rw[ht.len h];rfl);subst this;simpa using s
theorem Bls.split (h:Swo lt){k:Nat}{l J:List O}(Z:Bls lt k l J)(hl:k<=l.length):∃l1 l2 l1' l2',l=l1++l2/\J=l1'++l2'/\l1.length=k/\Stb lt l1 l1'/\Bls lt k l2 l2':=by
 cases Z with
 |last W s=>exact⟨l,[],J,[],by simp,by simp,by omega,s,.last (by simp) Stb.nil⟩
 | @more l J t t' W s ht=>exact⟨l,t,J,t',rfl,rfl,W,s,ht⟩
end
section
variable {lt:aa->aa->Bool}{p:aa->aa->Option Int}
theorem S3 (h:Swo lt)(hp:Cmp lt p)(n:Int)(hn:n<1152921504606846976):∀(k:Nat) (X D:List aa) (a:Int) (xs:List aa),X.length=k->a=(D.length:Int)->n=(D.length:Int)+X.length->xs=D++X->
  ∃J,Bls lt 20 X J/\am (λs:(Int×Int×List aa)=>cg n p s.1 s.2.1 s.2.2) (a,a+20,xs)=
   am (λs:(Int×List aa)=>bw n p s.1 s.2) (20,D++J):=by
 intro k
 induction k using X6 with
 | _ k ih=>
  intro X D a xs hk ha hN a0
  by_cases hX:20<=X.length
  ·have e:X=X.take 20++X.drop 20:=(Zg _ _).symm
   obtain⟨T,Z,W⟩:=IN h hp D (X.take 20) (X.drop 20) (a:=a) (b:=a+20) (xs:=xs) ha (by simp;omega) (by omega) (by rw[a0];simp);have a1:=W.len h;rw[Zk] at a1
   have a2:cg n p a (a+20) xs=some (.inl (a+20,a+20+20,(D++T)++X.drop 20)):=by
    simp only[cg];rw[if_pos (by simp;omega),Z,Z0,ai (by omega)]
   obtain⟨J,h3,h4⟩:=ih (X.length - 20) (by omega) (X.drop 20) (D++T) (a+20) _ (by simp) (by rw[Z2];omega) (by rw[Z2,Zq];omega) rfl;refine⟨T++J,?_,?_⟩
   ·have:=Bls.more (by rw[Zk];omega) W h3
    rw[←e] at this;exact this
   ·rw[bJ a2,h4,Ze]
  ·obtain⟨T,Z,W⟩:=IN h hp D X [] (a:=a) (b:=n) (xs:=xs) ha hN (by omega) (by rw[a0];simp)
   refine⟨T,.last (by omega) W,?_⟩;rw[mK]
   have:cg n p a (a+20) xs=(am (λs:(Int×List aa)=>bw n p s.1 s.2) (20,D++T)).map Sum.inr:=by
    simp only[cg,jK];rw[if_neg (by simp;omega),Z,Z0,Zp]
   simp only[this];cases am (λs:(Int×List aa)=>bw n p s.1 s.2) (20,D++T)<;>rfl
theorem S4 (h:Swo lt)(hp:Cmp lt p)(n:Int)(hn:n<288230376151711744)(J:Nat)(h0:0<J)(b7:(J:Int)<n):∀(k:Nat) (X0 X D:List aa) (a b:Int) (xs:List aa),X.length=k->a=(D.length:Int)->b=a+2*J->n=(D.length:Int)+X.length->xs=D++X->Bls lt J X0 X->
  ∃X',Bls lt (2*J) X0 X'/\am (λs:(Int×Int×List aa)=>cH n p J s.1 s.2.1 s.2.2) (a,b,xs)=some (.inl (((2*J:Nat):Int),D++X')):=by
 intro k
 induction k using X6 with
 | _ k ih=>
  intro X0 X D a b xs hk ha hb hN a5 a4;have hl:=a4.len h;have b1:xs.length<1152921504606846976:=by rw[a5,Z2];omega
  by_cases hX:2*J<=X.length
  ·obtain⟨l1,l2,W,a1,e1,a3,a9,Z,a2⟩:=a4.split h (by omega)
   have b5:=a2.len h;have q1:W.length=J:=by rw[Z.len h,a9]
   have q2:X.length=W.length+a1.length:=by rw[a3,Z2]
   obtain⟨l3,l4,a6,a0,e2,b0,b2,s3,b6⟩:=a2.split h (by omega);have q3:a6.length=J:=by rw[s3.len h,b2]
   have q4:a1.length=a6.length+a0.length:=by rw[b0,Z2]
   obtain⟨T,h1,h2⟩:=IP h hp (L:=D) (A:=W) (B:=a6) (R:=a0) (a:=a) (m:=a+J) (b:=b) (xs:=xs) (by omega) (by omega) ha (by omega) (by omega) (by rw[a5,a3,b0];simp) b1 Z.srt s3.srt;have b4:=h2.len h;rw[Z2] at b4
   have b3:cH n p J a b xs=some (.inl (b,b+2*J,(D++T)++a0)):=by
    simp only[cH];rw[if_pos (by simp;omega),ai (n:=a+J) (by omega),h1,Z0,ai (n:=2*(J:Int)) (by omega),ai (by omega)]
   obtain⟨X',h3,h4⟩:=ih a0.length (by omega) l4 a0 (D++T) b (b+2*J) _ rfl (by rw[Z2];omega) rfl (by rw[Z2];omega) rfl b6;refine⟨T++X',?_,?_⟩
   ·rw[e1,e2,←Ze]
    exact Bls.more (by rw[Z2];omega) (h2.trans λc=>by simp[Z.flt,s3.flt]) h3
   ·rw[bJ b3,h4,Ze]
  ·by_cases hX2:J<X.length
   ·obtain⟨l1,l2,W,a1,e1,a3,a9,Z,a2⟩:=a4.split h (by omega)
    have b5:=a2.len h;have q1:W.length=J:=by rw[Z.len h,a9]
    have q2:X.length=W.length+a1.length:=by rw[a3,Z2]
    have s2:=a2.done h h0 (by omega);obtain⟨T,h1,h2⟩:=IP h hp (L:=D) (A:=W) (B:=a1) (R:=[]) (a:=a) (m:=a+J) (b:=n) (xs:=xs) (by omega) (by omega) ha (by omega) (by omega) (by rw[a5,a3];simp) b1 Z.srt s2.srt;refine⟨T,.last (by omega) ?_,?_⟩
    ·rw[e1]
     exact h2.trans λc=>by simp[Z.flt,s2.flt]
    ·apply aR
     simp only[cH,fY,d7];rw[if_neg (by simp;omega),ai (n:=a+J) (by omega),if_pos (by simp;omega),h1,Z0,ai (by omega)];simp[Yx]
   ·refine⟨X,.last (by omega) (a4.done h h0 (by omega)),?_⟩
    apply aR;simp only[cH,fY,d7];rw[if_neg (by simp;omega),ai (n:=a+J) (by omega),if_neg (by simp;omega),ai (by omega),a5];simp[Yx]
theorem S5 (h:Swo lt)(hp:Cmp lt p)(n:Int)(hn:n<288230376151711744)(W:List aa)(a2:n=(W.length:Int)):∀(k J:Nat) (X:List aa),(W.length - J)=k->0<J->Bls lt J W X->
  ∃Z,am (λs:(Int×List aa)=>bw n p s.1 s.2) ((J:Int),X)=some Z/\Stb lt W Z:=by
 intro k
 induction k using X6 with
 | _ k ih=>
  intro J X hk h0 a0;have hl:=a0.len h
  by_cases hb:(J:Int)<n
  ·obtain⟨Z,h1,h2⟩:=S4 h hp n hn J h0 hb X.length W X [] 0 (2*J) X rfl rfl (by simp) (by simp;omega) (by simp) a0
   have a1:bw n p J X=some (.inl (((2*J:Nat):Int),Z)):=by
    simp only[bw];rw[if_pos (by simp;omega),ai (by omega),h2,Zi]
   obtain⟨X2,h3,h4⟩:=ih (W.length - 2*J) (by omega) (2*J) Z rfl (by omega) h1;exact⟨X2,by rw[bJ a1];exact h3,h4⟩
  ·refine⟨X,?_,a0.done h h0 (by omega)⟩
   apply aR;simp only[bw];rw[if_neg (by simp;omega)]
   rfl
theorem IQ (h:Swo lt)(hp:Cmp lt p)(X:List aa)(hn:X.length<288230376151711744):∃X',dC X p=some X'/\Stb lt X X':=by
 obtain⟨Z,h1,J⟩:=S3 h hp (X.length:Int) (by omega) X.length X [] 0 X rfl rfl (by simp) rfl;obtain⟨X2,W,h4⟩:=S5 h hp (X.length:Int) (by omega) X rfl _ 20 Z rfl (by omega) h1;refine⟨X2,?_,h4⟩;unfold dC gX;have J:am (λs:(Int×Int×List aa)=>cg (X.length:Int) p s.1 s.2.1 s.2.2) (0,20,X)=_:=J;rw[J,Zi];have W:am (λs:(Int×List aa)=>bw (X.length:Int) p s.1 s.2) (20,Z)=_:=W;rw[W]
 rfl
end
set_option linter.unusedVariables false
set_option linter.unusedSimpArgs false
theorem jB {σ β:Type}{f:σ->Option (σ⊕β)}{s:σ}{b:Option β}(S:Nat->σ)(n:Nat)(J:s=S 0)(step:∀i,i<n->f (S i)=some (.inl (S (i+1))))(W:f (S n)=b.map Sum.inr):am f s=b:=by
 have key:∀i,i<=n->am f s=am f (S i):=by
  intro i
  induction i with
  |zero=>intro _;rw[J]
  |succ i ih=>intro h;rw[ih (by omega),bJ (step i (by omega))]
 rw[key n (Zy n),mK,W];cases b<;>rfl
section
variable {O β:Type}
theorem Swo.comap {lt:O->O->Bool}(h:Swo lt)(f:β->O):Swo λa b=>lt (f a) (f b):=
 ⟨λa=>h.irr _,λa b c=>h.tr _ _ _,λa b c=>h.inc _ _ _⟩
def pw (h J:O->O->Bool)(a b:O):Bool:=h a b||(!h b a&&J a b)
theorem Swo.lex {Z l2:O->O->Bool}(W:Swo Z)(h2:Swo l2):Swo (pw Z l2):=by
 refine⟨λa=>by simp[pw,W.irr,h2.irr],λa b c J h=>?_,λa b c J h=>?_⟩
 ·simp only[pw,V4,Ys,Bool.not_eq_true'] at*
  rcases J with J|⟨a1,J⟩<;>rcases h with h|⟨a0,h⟩
  ·exact Or.inl (W.tr _ _ _ J h)
  ·left
   cases hac:Z a c with
   |true=>rfl
   |false=>rw[W.inc a c b hac a0] at J;cases J
  ·left
   cases hac:Z a c with
   |true=>rfl
   |false=>rw[W.inc b a c a1 hac] at h;cases h
  ·exact Or.inr ⟨W.inc c b a a0 a1,h2.tr _ _ _ J h⟩
 ·simp only[pw,Y3,V3,Bool.not_eq_false'] at*
  refine⟨W.inc _ _ _ J.1 h.1,?_⟩;rcases J.2 with h3|h3
  ·left
   cases hca:Z c a with
   |true=>rfl
   |false=>rw[W.inc b c a h.1 hca] at h3;cases h3
  ·rcases h.2 with h4|h4
   ·left
    cases hca:Z c a with
    |true=>rfl
    |false=>rw[W.inc c a b hca J.1] at h4;cases h4
   ·right;exact h2.inc _ _ _ h3 h4
def lexL (lt:O->O->Bool):List O->List O->Bool
 |_,[]=>false
 |[],_::_=>true
 |a::x,b::y=>lt a b||(!lt b a&&lexL lt x y)
theorem Swo.lexL {lt:O->O->Bool}(h:Swo lt):Swo (lexL lt):=by
 refine⟨?_,?_,?_⟩
 ·intro a
  induction a with
  |nil=>rfl
  |cons a x ih=>simp[Hay.lexL,h.irr,ih]
 ·intro a
  induction a with
  |nil=>
   intro b c W J;cases c with
   |nil=>cases b<;>simp[Hay.lexL] at J
   |cons c z=>rfl
  | cons a x ih=>
   intro b c W J;cases b with
   |nil=>simp[Hay.lexL] at W
   | cons b y=>
    cases c with
    |nil=>simp[Hay.lexL] at J
    | cons c z=>
     simp only[Hay.lexL,V4,Ys,Bool.not_eq_true'] at*;rcases W with W|⟨Z,W⟩<;>rcases J with J|⟨a0,J⟩
     ·exact Or.inl (h.tr _ _ _ W J)
     ·left
      cases hac:lt a c with
      |true=>rfl
      |false=>rw[h.inc a c b hac a0] at W;cases W
     ·left
      cases hac:lt a c with
      |true=>rfl
      |false=>rw[h.inc b a c Z hac] at J;cases J
     ·exact Or.inr ⟨h.inc c b a a0 Z,ih _ _ W J⟩
 ·intro a
  induction a with
  |nil=>
   intro b c W J;cases b with
   |nil=>exact J
   |cons b y=>simp[Hay.lexL] at W
  | cons a x ih=>
   intro b c W J;cases c with
   |nil=>rfl
   | cons c z=>
    cases b with
    |nil=>simp[Hay.lexL] at J
    | cons b y=>
     simp only[Hay.lexL,Y3,V3,Bool.not_eq_false'] at*;refine⟨h.inc _ _ _ W.1 J.1,?_⟩;rcases W.2 with h3|h3
     ·left
      cases hca:lt c a with
      |true=>rfl
      |false=>rw[h.inc b c a J.1 hca] at h3;cases h3
     ·rcases J.2 with h4|h4
      ·left
       cases hca:lt c a with
       |true=>rfl
       |false=>rw[h.inc c a b hca W.1] at h4;cases h4
      ·right;exact ih _ _ h3 h4
theorem VK:Swo λa b:Int=>decide (a<b):=
 ⟨λa=>by simp,λa b c h J=>by simp at*;omega,λa b c h J=>by simp at*;omega⟩
theorem yJ:∀s u:List Int,ltB s u=lexL (λa b:Int=>decide (a<b)) s u
 |s,[]=>by cases s<;>rfl
 |[],_::_=>rfl
 | a::x,b::y=>by
  simp only[ltB,lexL,yJ x y]
  by_cases h1:a<b
  ·simp[h1]
  ·by_cases h2:b<a
   ·have:a≠b:=by omega
    simp[h1,h2,this]
   ·have:a=b:=by omega
    simp[this]
theorem VL:Swo ltB:=by
 have h:=VK.lexL;exact⟨λa=>by rw[yJ];exact h.irr a,λa b c=>by simp only[yJ];exact h.tr a b c,λa b c=>by simp only[yJ];exact h.inc a b c⟩
def sgn (lt:O->O->Bool)(a b:O):Int:=if lt a b then -1 else if lt b a then 1 else 0
theorem Oz {lt:O->O->Bool}{a b:O}:decide (sgn lt a b<0)=lt a b:=by
 unfold sgn;cases lt a b
 ·cases lt b a<;>simp
 ·simp
theorem wv {h J:O->O->Bool}(W:Swo h){a b:O}:sgn (pw h J) a b=if sgn h a b≠0 then sgn h a b else sgn J a b:=by
 unfold sgn pw;cases e1:h a b
 ·cases e2:h b a
  ·simp
  ·simp
 ·simp
theorem EP {lt:O->O->Bool}(h:Swo lt){a b:O}{x y:List O}:sgn (lexL lt) (a::x) (b::y)=if sgn lt a b≠0 then sgn lt a b else sgn (lexL lt) x y:=by
 by_cases e1:lt a b=true
 ·simp[sgn,lexL,e1]
 ·by_cases e2:lt b a=true
  ·simp[sgn,lexL,e1,e2]
  ·simp[sgn,lexL,e1,e2]
end
def vk2 (v:Ap):Int:=if v.fKind=1 then (if v.fBool then 1 else 0) else if v.fKind=2 then v.fInt else 0
def vk3 (v:Ap):List Int:=if v.fKind=3 then v.fText else []
def vlt:Ap->Ap->Bool:=
 pw (λa b=>decide (a.fKind<b.fKind)) (pw (λa b=>decide (vk2 a<vk2 b)) (λa b=>ltB (vk3 a) (vk3 b)))
theorem Gl:Swo vlt:=(VK.comap λv:Ap=>v.fKind).lex ((VK.comap vk2).lex (VL.comap vk3))
theorem EQ (a b:Ap):qu a b=some (vlt a b):=by
 unfold qu vlt pw
 by_cases hk:a.fKind=b.fKind
 ·rw [if_neg (by simp[hk])]
  by_cases h1:b.fKind=1
  ·simp only[lD,vk2,vk3,hk,h1]
   cases ha:a.fBool<;>cases hb:b.fBool<;>simp[ltB]
  ·by_cases h2:b.fKind=2
   ·simp only[lD,vk2,vk3,hk,h2]
    simp[ltB]
   ·by_cases h3:b.fKind=3
    ·simp only[lD,pS,vk2,vk3,hk,h3]
     simp
    ·simp only[lD,pS,vk2,vk3,hk]
     simp[h1,h2,h3,ltB]
 ·rw[if_pos (by simp[hk])]
  by_cases hl:a.fKind<b.fKind
  ·simp[hl]
  ·have:b.fKind<a.fKind:=by omega
   simp[hl,this]
theorem C5 (a b:Ap):iX a b=some (sgn vlt a b):=by
 unfold iX sgn;rw[EQ,EQ,Z0,Z0];cases vlt a b<;>cases vlt b a<;>rfl
theorem LP (a b:Int):iK a b=some (sgn (λa b:Int=>decide (a<b)) a b):=by
 simp only[iK,lX,sgn,Z0,bne_self_eq_false]
 by_cases h1:a<b<;>by_cases h2:b<a<;>simp[h1,h2]
theorem M6 (a b:Int):iS a b=some (sgn (λa b:Int=>decide (a<b)) a b):=by
 simp only[iS,j8,sgn,Z0,bne_self_eq_false]
 by_cases h1:a<b<;>by_cases h2:b<a<;>simp[h1,h2]
theorem S6 (a b:Int):ke a b=some (sgn (λa b:Int=>decide (a<b)) a b):=by
 simp only[ke,lH,sgn,Z0,bne_self_eq_false]
 by_cases h1:a<b<;>by_cases h2:b<a<;>simp[h1,h2]
theorem S7 (a b:Int):kf a b=some (sgn (λa b:Int=>decide (a<b)) a b):=by
 simp only[kf,lI,sgn,Z0,bne_self_eq_false]
 by_cases h1:a<b<;>by_cases h2:b<a<;>simp[h1,h2]
theorem C6 (a b:Ap):cD a b=some (sgn vlt a b):=by
 unfold cD vlt;rw[wv (VK.comap λv:Ap=>v.fKind),wv (VK.comap vk2)]
 by_cases hk:a.fKind=b.fKind
 ·rw [if_neg (by simp[hk])]
  have e0:sgn (λa b:Ap=>decide (a.fKind<b.fKind)) a b=0:=by simp[sgn,hk]
  rw[e0];simp only[ne_eq,not_true_eq_false,if_false]
  by_cases h1:b.fKind=1
  ·simp only[fA,vk2,vk3,hk,h1,sgn]
   cases ha:a.fBool<;>cases hb:b.fBool<;>simp[ltB]
  ·by_cases h2:b.fKind=2
   ·have ka:a.fKind=2:=hk.trans h2
    have J:vk2 a=a.fInt:=by simp[vk2,ka]
    have Z:vk2 b=b.fInt:=by simp[vk2,h2]
    have h:vk3 a=[]:=by simp[vk3,ka]
    have W:vk3 b=[]:=by simp[vk3,h2]
    rw[if_neg (by simp[ka]),fA,if_neg (by simp),if_pos (by simp[ka]),M6];simp only[sgn,J,Z,h,W,ltB]
    by_cases q1:a.fInt<b.fInt<;>by_cases q2:b.fInt<a.fInt<;>simp[q1,q2]
   ·by_cases h3:b.fKind=3
    ·have ka:a.fKind=3:=hk.trans h3
     have J:vk2 a=0:=by simp[vk2,ka]
     have Z:vk2 b=0:=by simp[vk2,h3]
     have h:vk3 a=a.fText:=by simp[vk3,ka]
     have W:vk3 b=b.fText:=by simp[vk3,h3]
     rw[if_neg (by simp[ka]),fA,if_neg (by simp),if_neg (by simp[ka]),if_pos (by simp[ka]),mE,eF,Z0,Z0,ut];simp only[sgn,J,Z,h,W];simp
    ·have ka:a.fKind≠1/\a.fKind≠2/\a.fKind≠3:=by rw[hk];exact⟨h1,h2,h3⟩
     have J:vk2 a=0:=by simp[vk2,ka]
     have Z:vk2 b=0:=by simp[vk2,h1,h2]
     have h:vk3 a=[]:=by simp[vk3,ka]
     have W:vk3 b=[]:=by simp[vk3,h3]
     rw[if_neg (by simp[ka]),fA,if_neg (by simp),if_neg (by simp[ka]),if_neg (by simp[ka])];simp only[sgn,J,Z,h,W,ltB];simp
 ·rw[if_pos (by simp[hk]),LP,Z0]
  have:sgn (λa b:Ap=>decide (a.fKind<b.fKind)) a b≠0:=by
   unfold sgn
   by_cases hl:a.fKind<b.fKind
   ·simp[hl]
   ·have:b.fKind<a.fKind:=by omega
    simp[hl,this]
  rw[if_pos this]
  rfl
def rlt:List Ap->List Ap->Bool:=lexL vlt
theorem VM:Swo rlt:=Gl.lexL
theorem Hs {s t:List Ap}(hs:s.length<4611686018427387904)(ht:t.length<4611686018427387904):pZ s t=some (sgn rlt s t):=by
 unfold pZ;refine mY (λi=>∃k:Nat,i=(k:Int)/\k<=s.length/\k<=t.length/\sgn rlt (s.drop k) (t.drop k)=sgn rlt s t) (λi=>s.length - i.toNat) ?_ ⟨0,rfl,by simp,by simp,by simp⟩;rintro i ⟨k,rfl,h1,h2,h⟩;simp only[wL]
 by_cases hk:k<s.length/\k<t.length
 ·obtain⟨J,W⟩:=hk
  rw[if_pos (by split<;>simp<;>omega),aw J,Z0,aw W,Z0,C6,Z0];rw[Z5 J,Z5 W,rlt,EP Gl] at h
  by_cases hc:sgn vlt s[k] t[k]=0
  ·left
   rw[if_neg (by simp[hc])];refine⟨_,rfl,⟨k+1,by rw[ai (by omega)];rfl,by omega,by omega,?_⟩,?_⟩
   ·rw[if_neg (by simp[hc])] at h;exact h
   ·rw[ai (by omega)];omega
  ·right
   rw[if_pos (by simp[hc])];rw[if_pos hc] at h;rw[h];rfl
 ·right
  rw[if_neg (by split<;>simp<;>omega),wK,LP,Z0,←h]
  have key:∀(x y:List Ap),(x=[]\/y=[])->sgn rlt x y=sgn (λa b:Int=>decide (a<b)) (x.length:Int) (y.length:Int):=by
   intro x y Z;rcases Z with rfl|rfl
   ·cases y<;>simp[sgn,rlt,lexL]<;>omega
   ·cases x<;>simp[sgn,rlt,lexL]<;>omega
  rw[key]
  ·have e1:((s.length:Int)<t.length)↔(((s.length - k:Nat):Int)<((t.length - k:Nat):Int)):=by omega
   have e2:((t.length:Int)<s.length)↔(((t.length - k:Nat):Int)<((s.length - k:Nat):Int)):=by omega
   simp only[sgn,Zq,decide_eq_true_eq,e1,e2,Option.map_some]
  ·by_cases q:k<s.length
   ·right;exact Zn (by omega)
   ·left;exact Zn (by omega)
theorem Ht {s t:List Ap}(hs:s.length<4611686018427387904)(Z:t.length<4611686018427387904):yB s t=some (sgn rlt s t):=by
 unfold yB;refine mY (λi=>∃k:Nat,i=(k:Int)/\k<=s.length/\k<=t.length/\sgn rlt (s.drop k) (t.drop k)=sgn rlt s t) (λi=>s.length - i.toNat) ?_ ⟨0,rfl,by simp,by simp,by simp⟩;rintro i ⟨k,rfl,J,W,h⟩;simp only[AD]
 by_cases hk1:k<s.length
 ·rw[if_pos (by simp;omega)]
  by_cases hk2:k<t.length
  ·rw[if_neg (by simp;omega),aw hk1,Z0,aw hk2,Z0,C5,Z0]
   rw[Z5 hk1,Z5 hk2,rlt,EP Gl] at h
   by_cases hc:sgn vlt s[k] t[k]=0
   ·left
    rw[if_neg (by simp[hc])];refine⟨_,rfl,⟨k+1,by rw[ai (by omega)];rfl,by omega,by omega,?_⟩,?_⟩
    ·rw[if_neg (by simp[hc])] at h;exact h
    ·rw[ai (by omega)];omega
   ·right
    rw[if_pos (by simp[hc])];rw[if_pos hc] at h;rw[h];rfl
  ·right
   have:k=t.length:=by omega
   rw[if_pos (by simp;omega),←h,this,Xh,Z5 (by omega)];simp[sgn,rlt,lexL]
 ·right
  rw[if_neg (by simp;omega),←h,Zn (by omega:s.length<=k),AC]
  by_cases hk2:k<t.length
  ·rw[if_pos (by simp;omega),Z5 hk2]
   simp[sgn,rlt,lexL]
  ·rw[if_neg (by simp;omega),Zn (by omega:t.length<=k)]
   simp[sgn,rlt,lexL]
def ku (cs:List Int)(row:List Ap):List Ap:=cs.map λc=>if 0<=c/\c<(row.length:Int) then row.getD c.toNat Ap.zero else Ap.zero
theorem um (cs:List Int)(row:List Ap):(ku cs row).length=cs.length:=by simp[ku]
theorem IR {O:Type}{xs:List O}{i:Int}(d:O)(h:0<=i/\i<(xs.length:Int)):idx xs i=some (xs.getD i.toNat d):=by
 obtain⟨n,rfl⟩:=Za h.1;have J:n<xs.length:=by omega
 rw[aw J];simp[J]
theorem ER {f:List Ap×Int->Option ((List Ap×Int)⊕List Ap)}{cs:List Int}{row:List Ap}{g:Int->Ap}
  (step:∀(i:Nat) (l:List Ap) (h:i<cs.length),l.length=i->f (l,(i:Int))=some (.inl (l++[g cs[i]],((i+1:Nat):Int)))) (J:∀l,f (l,(cs.length:Int))=some (.inr l)):am f ([],0)=some (cs.map g):=by
 refine jB (λi=>((cs.take i).map g,(i:Int))) cs.length (by simp) (λi hi=>?_) ?_
 ·show f ((cs.take i).map g,(i:Int))=_
  have e:(cs.take (i+1)).map g=(cs.take i).map g++[g cs[i]]:=by rw[Yo,Z4 hi,Xm];rfl
  rw[step i _ hi (by simp;omega),e]
 ·show f ((cs.take cs.length).map g,(cs.length:Int))=_
  rw[J,Z6];rfl
theorem IS {cs:List Int}{row:List Ap}(J:cs.length<=3518437208883):mq cs row=some (ku cs row):=by
 unfold mq ku;refine ER (row:=row) (λi l hi W=>?_) (λl=>?_)
 ·simp only[qD]
  rw[if_pos (by simpa using hi),aw hi,Z0,lx,Z0]
  have h:∀x,nK l (i:Int) x=some (.inl (l++[x],((i+1:Nat):Int))):=by
   intro x;unfold nK;rw[aI (by simp;omega),Z0,ai (by omega)]
   rfl
  by_cases h0:0<=cs[i]
  ·rw[if_pos (by simp[h0])]
   unfold nL
   by_cases h1:cs[i]<(row.length:Int)
   ·rw[if_pos (by simp[h1]),IR Ap.zero ⟨h0,h1⟩,Z0,h,if_pos ⟨h0,h1⟩]
   ·rw[if_neg (by simp;omega),h,if_neg (by omega)];rfl
  ·rw[if_neg (by simp;omega)]
   unfold nL;rw[if_neg (by simp),h,if_neg (by omega)];rfl
 ·simp only[qD]
  rw[if_neg (by simp)];rfl
theorem CK {cs:List Int}{row:List Ap}(J:cs.length<=3518437208883):xH cs row=some (ku cs row):=by
 unfold xH ku;refine ER (row:=row) (λi l hi W=>?_) (λl=>?_)
 ·simp only[xG]
  rw[if_pos (by simpa using hi),aw hi,Z0]
  have h:∀x,t6 l (i:Int) x=some (.inl (l++[x],((i+1:Nat):Int))):=by
   intro x;unfold t6;rw[aI (by simp;omega),Z0,ai (by omega)]
   rfl
  by_cases h0:0<=cs[i]
  ·rw[if_pos (by simp[h0]),Z0]
   unfold t7
   by_cases h1:cs[i]<(row.length:Int)
   ·rw[if_pos (by simp[h1]),aw hi,Z0,IR Ap.zero ⟨h0,h1⟩,Z0,h,if_pos ⟨h0,h1⟩]
   ·rw[if_neg (by simp;omega),h,if_neg (by omega)];rfl
  ·rw[if_neg (by simp;omega)]
   unfold t7;rw[if_neg (by simp),h,if_neg (by omega)];rfl
 ·simp only[xG]
  rw[if_neg (by simp)];rfl
def ilt:aM->aM->Bool:=pw (λa b=>decide (a.fEpoch<b.fEpoch)) (λa b=>decide (a.fNumber<b.fNumber))
theorem VN:Swo ilt:=(VK.comap λv:aM=>v.fEpoch).lex (VK.comap λv:aM=>v.fNumber)
def qlt (cs:List Int):aa->aa->Bool:=pw (λa b=>rlt (ku cs a.fRow) (ku cs b.fRow)) (λa b=>ilt a.fId b.fId)
theorem iM (cs:List Int):Swo (qlt cs):=(VM.comap λv:aa=>ku cs v.fRow).lex (VN.comap λv:aa=>v.fId)
theorem CL (a b:Int):nM [a,b]=some (if a≠0 then a else b):=by
 unfold nM;have h:idx [a,b] 0=some a:=rfl;have J:idx [a,b] 1=some b:=rfl
 by_cases ha:a=0
 ·have Z:gF [a,b] 0=some (.inl 1):=by
   simp only[gF];rw[if_pos (by simp),h,Z0,if_neg (by simp[ha])];rfl
  rw[bJ Z]
  by_cases hb:b=0
  ·have W:gF [a,b] 1=some (.inl 2):=by
    simp only[gF];rw[if_pos (by simp),J,Z0,if_neg (by simp[hb])];rfl
   rw[bJ W];apply aR;simp only[gF];rw[if_neg (by simp),ha,hb];rfl
  ·apply aR
   simp only[gF];rw[if_pos (by simp),J,Z0,if_pos (by simp[hb]),if_neg (by simp[ha])];rfl
 ·apply aR
  simp only[gF];rw[if_pos (by simp),h,Z0,if_pos (by simp[ha]),if_pos ha];rfl
theorem K0 (a b:aM):l6 a b=some (sgn ilt a b):=by
 unfold l6 ilt;rw[S6,Z0,S7,Z0,CL,Z0,wv (VK.comap λv:aM=>v.fEpoch)]
 rfl
theorem Hu {cs:List Int}(h:cs.length<=3518437208883)(a b:aa):eK a b cs=some (sgn (qlt cs) a b):=by
 unfold eK qlt;rw[IS h,Z0,IS h,Z0,Hs (by rw[um];omega) (by rw[um];omega),Z0,K0,Z0,CL,Z0,wv (VM.comap λv:aa=>ku cs v.fRow)]
 rfl
theorem Hv {cs:List Int}(h:cs.length<=3518437208883):Cmp (qlt cs) (λa b=>eK a b cs):=λa b=>⟨_,Hu h a b,Oz⟩
theorem ES (a b:aM):t8 a b=some (ilt a b):=by
 unfold t8 ilt pw
 by_cases h:a.fEpoch=b.fEpoch
 ·rw[if_neg (by simp[h])];simp[h]
 ·rw[if_pos (by simp[h])]
  by_cases hl:a.fEpoch<b.fEpoch
  ·simp[hl]
  ·have:b.fEpoch<a.fEpoch:=by omega
   simp[hl,this]
theorem CM {cs:List Int}(h:cs.length<=3518437208883)(a b:aa):ry cs a b=some (qlt cs a b):=by
 unfold ry qlt pw;rw[CK h,Z0,CK h,Z0,Ht (by rw[um];omega) (by rw[um];omega),Z0,ES];unfold sgn;cases e1:rlt (ku cs a.fRow) (ku cs b.fRow)
 ·cases e2:rlt (ku cs b.fRow) (ku cs a.fRow)
  ·simp[e1,e2]
  ·simp[e1,e2]
 ·simp[e1]
set_option linter.unusedVariables false
set_option linter.unusedSimpArgs false
def Rok (l:List aa):Prop:= ∀v∈l,v.fRow.length<=1048576
theorem own_eq {v:aa}(h:v.fRow.length<=1048576):oQ v=some v:=by
 unfold oQ iz;rw[aI (by simp;omega)];simp
theorem jh {O:Type}{xs:List O}{i:Nat}(h:i<xs.length):xs.take (i+1)=xs.take i++[xs[i]]:=by
 rw[Yo,Z4 h];rfl
theorem xX {cs:List Int}{xs:List aa}(Z:cs.length<=1048576)(hx:xs.length<=1048576)(J:Rok xs):∃T,jk cs xs=some T/\Stb (qlt cs) xs T:=by
 obtain⟨T,h,W⟩:=IQ (iM cs) (Hv (cs:=cs) (by omega)) xs (by omega);refine⟨T,?_,W⟩;unfold jk;refine(jB (λi=>((i:Int),xs.take i)) xs.length (by simp) (λi hi=>?_) (b:=iT cs xs) ?_).trans ?_
 ·simp only[iU]
  rw[if_pos (by simpa using hi),aw hi,Z0,own_eq (J _ (Z3 hi)),Z0,aI (by simp;omega),Z0,jh hi,ai (by omega)]
  rfl
 ·simp only[iU]
  rw[if_neg (by simp),Z6]
 ·unfold iT
  rw[h];rfl
theorem Rok.flat {W:List (List aa)}(h:∀l∈W,Rok l):Rok W.flatten:=by
 intro v J;obtain⟨l,Z,J⟩:=List.mem_flatten.1 J;exact h l Z v J
set_option linter.unusedVariables false
set_option linter.unusedSimpArgs false
theorem md {σ β:Type}{f:σ->Option (σ⊕β)}{s:σ}(S:Nat->σ)(n:Nat)(h:Nat->Bool)(J:β)(K:Option β)(W:s=S 0)(step:∀i,i<n->h i=true->f (S i)=some (.inl (S (i+1))))(out:∀i,i<n->h i=false->f (S i)=some (.inr J))
  (Z:f (S n)=K.map Sum.inr):am f s=if (Zv n).all h then K else some J:=by
 have key:∀k i:Nat,i+k=n->am f (S i)=if (List.range' i k).all h then K else some J:=by
  intro k
  induction k with
  |zero=>
   intro i hi;obtain rfl:i=n:=by omega
   rw[mK,Z];cases K<;>rfl
  |succ k ih=>
   intro i hi;rw[List.range'_succ,V7];cases hg:h i with
   |true=>rw[bJ (step i (by omega) hg),ih (i+1) (by omega),Ya]
   |false=>rw[aR (out i (by omega) hg)];simp
 rw[W,key n 0 (by omega),List.range_eq_range']
structure lQ (v:aa):Prop where
 ep:0<=v.fId.fEpoch/\v.fId.fEpoch<18446744073709551616
 nu:0<=v.fId.fNumber/\v.fId.fNumber<4294967296
 de:0<=v.fDeleted/\v.fDeleted<18446744073709551616
 row:∀x∈v.fRow,VOK x
 len:v.fRow.length<=1048576
theorem IT {xs:List Int}{n:Int}(h:xs.length<=1048576):∃i,lJ xs n=some i/\decide (0<=i)=xs.contains n:=by
 unfold lJ
 have key:∀k i:Nat,i+k=xs.length->∃r,am (λs:Int=>gO xs n s) (i:Int)=some r/\decide (0<=r)=(xs.drop i).contains n:=by
  intro k
  induction k with
  |zero=>
   intro i hi;refine⟨-1,?_,by rw[Zn (by omega)];rfl⟩;apply aR;simp only[gO];rw[if_neg (by simp;omega)];rfl
  | succ k ih=>
   intro i hi;have J:i<xs.length:=by omega
   rw[Z5 J]
   by_cases he:n=xs[i]
   ·refine⟨(i:Int),?_,by rw[List.contains_cons,he,beq_self_eq_true,Bool.true_or];simp⟩
    apply aR;simp only[gO];rw[if_pos (by simpa using J),aw J,Z0,if_pos (by simp[he])];rfl
   ·obtain⟨r,W,Z⟩:=ih (i+1) (by omega)
    refine⟨r,?_,?_⟩
    ·rw[bJ (s':=((i+1:Nat):Int))]
     ·exact W
     ·simp only[gO]
      rw[if_pos (by simpa using J),aw J,Z0,if_neg (by simp[he]),ai (by omega)];rfl
    ·have e1:(n==xs[i])=false:=by simpa using he
     rw[Z,List.contains_cons,e1,Bool.false_or]
 obtain⟨r,W,Z⟩:=key xs.length 0 (by omega);exact⟨r,W,by simpa using Z⟩
theorem ET {xs:List Int}{n:Int}(h:xs.length<=1048576):gP xs n=some (xs.contains n):=by
 obtain⟨i,J,W⟩:=IT (n:=n) h;unfold gP;rw[J,Z0,W]
def tu (cols:Int)(v:aa):Bool:=
 v.fRow.all right&&(decide ((v.fRow.length:Int)=cols)&&(decide (1<=v.fId.fEpoch)&&(decide (v.fId.fEpoch<=9223372036854775807)&& !(decide (v.fDeleted≠0)&&(decide (v.fDeleted<=v.fId.fEpoch)||decide (9223372036854775807<v.fDeleted))))))
theorem IU {cols:Int}{v:aa}(h:v.fRow.length<=1048576):l7 cols v=some (tu cols v):=by
 unfold l7
 have hj:∀x,jv cols v x=some (decide ((v.fRow.length:Int)=cols)&&(decide (1<=v.fId.fEpoch)&&(decide (v.fId.fEpoch<=9223372036854775807)&& !x))):=by
  intro x;unfold jv ju
  by_cases h1:(v.fRow.length:Int)=cols<;>by_cases h2:1<=v.fId.fEpoch<;>by_cases h3:v.fId.fEpoch<=9223372036854775807<;>simp[h1,h2,h3]
 have W:lK cols v=some (decide ((v.fRow.length:Int)=cols)&&(decide (1<=v.fId.fEpoch)&&(decide (v.fId.fEpoch<=9223372036854775807)&& !(decide (v.fDeleted≠0)&&(decide (v.fDeleted<=v.fId.fEpoch)||decide (9223372036854775807<v.fDeleted)))))):=by
  unfold lK;simp only[hj]
  by_cases h1:v.fDeleted=0<;>by_cases h2:v.fDeleted<=v.fId.fEpoch<;>simp[h1,h2]
 refine(md (λi=>(i:Int)) v.fRow.length (λi=>match v.fRow[i]? with|some x=>right x|none=>true) false (lK cols v) rfl (λi hi J=>?_) (λi hi J=>?_) ?_).trans ?_
 ·simp only[Z4 hi] at J
  simp only[lL];rw[if_pos (by simpa using hi),aw hi,Z0,jl,Z0,J,if_neg (by simp),ai (by omega)];rfl
 ·simp only[Z4 hi] at J
  simp only[lL];rw[if_pos (by simpa using hi),aw hi,Z0,jl,Z0,J,if_pos (by simp)];rfl
 ·simp only[lL]
  rw[if_neg (by simp)]
 ·have e:(Zv v.fRow.length).all (λi=>match v.fRow[i]? with|some x=>right x|none=>true)=v.fRow.all right:=by
   rw[Bool.eq_iff_iff];simp only[Yu,List.mem_range];constructor
   ·intro h x Z
    obtain⟨i,hi,rfl⟩:=List.getElem_of_mem Z;have:=h i hi;rwa[Z4 hi] at this
   ·intro h i hi
    rw[Z4 hi];exact h _ (Z3 hi)
  rw[e,W];unfold tu;cases v.fRow.all right<;>simp
def sj (cols:Int)(srt:List Int)(i:Nat):Bool:=match srt[i]? with
 |some n=>decide (0<=n)&&(decide (n<cols)&& !(srt.take i).contains n)
 |none=>true
def rj (cols:Int)(l:List aa)(i:Nat):Bool:=match l[i]? with
 |some v=>tu cols v&& !((l.take i).map (·.fId)).contains v.fId
 |none=>true
def sk (cols:Int)(srt:List Int):Bool:=(Zv srt.length).all (sj cols srt)
def qg (cols:Int)(l:List aa):Bool:=(Zv l.length).all (rj cols l)
def nj (cols:Int)(srt:List Int)(l:List aa):Int:=
 if cols<1\/8<cols then 1 else if sk cols srt then (if 4096<l.length then 81 else if qg cols l then 0 else 81) else 1
def nY (l:List aa)(i:Nat):List aM:=((l.take i).map (·.fId)).reverse
theorem K1 {l:List aM}{x:aM}(h:l.length<=1048576):decide (1<jM (x::l) x)=l.contains x:=by
 unfold jM;have J:(x::l).count x=l.count x+1:=by simp
 have W:l.count x<=l.length:=List.count_le_length;rw[J,ai (by omega)]
 by_cases hm:x∈l
 ·have:0<l.count x:=List.count_pos_iff.2 hm
  simp[hm];omega
 ·have:l.count x=0:=List.count_eq_zero.2 hm
  simp[hm,this]
theorem EU {cols:Int}{l:List aa}(hl:l.length<=4096)(Z:∀v∈l,lQ v):
  am (λs:(Int×List aM)=>dy cols l s.1 s.2) (0,([]:List aM))=if qg cols l then some 0 else some 81:=by
 have W:∀(i:Nat) (hi:i<l.length) b,fH (i:Int) (nY l i) l[i] b=if b then some (.inr 81) else some (.inl (((i+1:Nat):Int),nY l (i+1))):=by
  intro i hi b;unfold fH;cases b
  ·rw[if_neg (by simp),if_neg (by simp),ai (by omega)]
   have:nY l (i+1)=l[i].fId::nY l i:=by
    unfold nY;rw[jh hi,Xm,List.reverse_append];rfl
   rw[this];rfl
  ·rw[if_pos rfl,if_pos rfl];rfl
 have J:∀(i:Nat) (hi:i<l.length),dy cols l (i:Int) (nY l i)=if rj cols l i then some (.inl (((i+1:Nat):Int),nY l (i+1))) else some (.inr 81):=by
  intro i hi;have a0:=(Z _ (Z3 hi)).len;simp only[dy];rw[if_pos (by simpa using hi),aw hi,Z0,IU a0,Z0,W i hi,W i hi,K1 (by simp[nY];omega)];unfold rj;rw[Z4 hi];dsimp only
  have hc:(nY l i).contains l[i].fId=((l.take i).map (·.fId)).contains l[i].fId:=by
   unfold nY;rw[Bool.eq_iff_iff];simp
  rw[hc];rcases Xo (((l.take i).map (·.fId)).contains l[i].fId) with hq|hq<;>rcases Xo (tu cols l[i]) with hz|hz<;>simp only[hq,hz]<;>rfl
 refine md (λi=>((i:Int),nY l i)) l.length (rj cols l) 81 (some 0) rfl (λi hi h=>?_) (λi hi h=>?_) ?_
 ·show dy cols l (i:Int) (nY l i)=_
  rw[J i hi,h];rfl
 ·show dy cols l (i:Int) (nY l i)=_
  rw[J i hi,h];rfl
 ·simp only[dy]
  rw[if_neg (by simp)];rfl
theorem qh {cols:Int}{srt:List Int}{l:List aa}(hs:srt.length<=1048576)(hv:∀v∈l,lQ v):gl cols srt l=some (nj cols srt l):=by
 have h2:eL cols l=some (if 4096<l.length then 81 else if qg cols l then 0 else 81):=by
  unfold eL
  by_cases h:4096<l.length
  ·rw[if_pos (by simp;omega),if_pos h]
  ·rw[if_neg (by simp;omega),if_neg h,EU (by omega) hv]
   cases qg cols l<;>rfl
 have hj:∀i:Nat,i<srt.length->∀b,eM (i:Int) b=if b then some (.inr 1) else some (.inl ((i+1:Nat):Int)):=by
  intro i hi b;unfold eM;cases b
  ·rw[if_neg (by simp),if_neg (by simp),ai (by omega)];rfl
  ·rfl
 have h1:∀b,fJ cols srt l b=if b then some 1 else if sk cols srt then eL cols l else some 1:=by
  intro b;unfold fJ;cases b
  ·rw [if_neg (by simp),if_neg (by simp)]
   have hb:∀(i:Nat) (hi:i<srt.length),fI cols srt l (i:Int)=if sj cols srt i then some (.inl ((i+1:Nat):Int)) else some (.inr 1):=by
    intro i hi;simp only[fI];rw[if_pos (by simpa using hi),aw hi,Z0]
    have a0:sub srt 0 (i:Int)=some (srt.take i):=by
     have:=cP (xs:=srt) (lo:=0) (hi:=i) (by omega) (by omega);simpa using this
    rw[a0,Z0,ET (by simp;omega),Z0];simp only[hj i hi];unfold sj;rw[Z4 hi];dsimp only
    by_cases q1:srt[i]<0
    ·have W: ¬ 0<=srt[i]:=by omega
     simp[q1,W]
    ·by_cases q2:cols<=srt[i]
     ·have Z: ¬ srt[i]<cols:=by omega
      simp[q1,q2,Z]
     ·have Z:srt[i]<cols:=by omega
      have W:0<=srt[i]:=by omega
      rw[if_neg (by simp[q1]),if_neg (by simp[q2])];rcases Xo ((srt.take i).contains srt[i]) with hq|hq<;>simp only[hq,decide_eq_true Z,decide_eq_true W]<;>rfl
   refine md (λi=>(i:Int)) srt.length (sj cols srt) 1 (eL cols l) rfl (λi hi J=>?_) (λi hi J=>?_) ?_
   ·rw[hb i hi,J];rfl
   ·rw[hb i hi,J];rfl
   ·simp only[fI]
    rw[if_neg (by simp)]
  ·rfl
 unfold gl nj;simp only[h1,h2]
 by_cases q1:cols<1
 ·simp[q1]
 ·by_cases q2:8<cols
  ·simp[q1,q2]
  ·simp only[q1,q2,decide_false,Zc,if_false,or_self]
   cases sk cols srt<;>simp
end Go.Proofs.YthbonoagbeilkaaGreat.Hay
