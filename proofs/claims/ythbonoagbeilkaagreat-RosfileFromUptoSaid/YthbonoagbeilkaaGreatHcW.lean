import Derived.Test.YthbonoagbeilkaaGreatExX
import Derived.Test.YthbonoagbeilkaaGreatHbM
namespace Go.Proofs.YthbonoagbeilkaaGreat.Hay
open Option renaming bind_some→Jj,getD_some→Xd,bind_assoc→Xz
open List renaming take_succ_eq_append_getElem→Z0,getElem_mem→Z1,length_append→Z2,take_length→Z3,getElem?_eq_getElem→Z4,length_singleton→Z5,length_cons→Z6,replicate→Z8,eq_nil_of_length_eq_zero→Z9,mem_append→Zc,mem_of_mem_take→Ze,take_append_drop→Zf,drop_eq_getElem_cons→Zg,length_pos_iff→Zh,append_assoc→Zi,pairwise_cons→Zj,length_take→Zk,pairwise_append→Zn,length_map→Zo,mem_cons→Zp,getD_eq_getElem?_getD→Zt,range→Zv,flatMap_cons→Zw,foldl_cons→Zx,nil_append→Zy,mem_map→Zz,mem_singleton→X4,mem_of_getLast?→X6,pairwise_iff_getElem→X7,getElem?_eq_some_iff→X8,flatMap_append→X9,cons_append→Xb,drop_zero→Xe,drop_left→Xf,getElem?_drop→Xg,take_of_length_le→Xh,take_left'→Xi,append_nil→Xj,foldl_append→Xk,length_range→Xl,length_replicate→Xm,dropLast_concat_getLast→Xp,getElem?_append_right→Xu,getLast?_eq_none_iff→Xw,getLast?_eq_getElem?→Xx,map_append→Xy,getElem?_append_left→Y0,mem_replicate→Y2,eq_of_mem_replicate→Y4,drop_drop→Y6,flatMap_singleton→Y8,map_cons→Yb,singleton_append→Yc,getElem?_eq_none→Yd,range_succ→Yf,map_nil→Yg
open Nat renaming le_refl→Zm,lt_of_lt_of_le→Zs,mul_le_mul→Zu,strongRecOn→Xa,testBit_xor→Xc,pow_le_pow_right→Xn,eq_of_testBit_eq→Xo,two_pow_add_eq_or_of_lt→Xq,mod_two_eq_zero_or_one→Xt,testBit_succ→Y7,xor_comm→Yi
open Bool renaming false_eq_true→Z7,not_true→Xv,not_false→Y5,not_eq_true→Y9,true_and→Ya
open Int renaming eq_ofNat_of_zero_le→Zb,tmod_eq_emod_of_nonneg→Zq,tdiv_eq_ediv_of_nonneg→Zr,fdiv_eq_ediv_of_nonneg→X3,natCast_pow→Xs,toNat_natCast→Y1,emod_eq_of_lt→Y3,le_of_lt→Yh
open BitVec renaming ofInt→Zd,toNat_ofInt→Zl
open Prod renaming ext→Yj
open IntKind renaming i64→Za,u64→X5,u32→Xr,u8→Ye
theorem EW: ∀s:List Int,ltB s s=false
 |[]=>rfl
 |a::x=>by simp[ltB,EW x]
theorem BH: ∀{s u v:List Int},ltB s u=true→ltB u v=true→ltB s v=true
 |_,[],_,h,_=>by simp[ltB] at h
 |_,_::_,[],_,h=>by simp[ltB] at h
 |[],_::_,_::_,_,_=>rfl
 | a :: x, b :: y, c :: z, h, k => by
  simp only[ltB,Bool.or_eq_true,decide_eq_true_eq,Bool.and_eq_true,beq_iff_eq] at*;rcases h with h|⟨rfl,h⟩
  ·rcases k with k|⟨rfl,k⟩
   ·left;omega
   ·left;exact h
  ·rcases k with k|⟨rfl,k⟩
   ·left;exact k
   ·right;exact⟨rfl,BH h k⟩
theorem EX: ∀{s u:List Int},ltB s u=false→ltB u s=false→s=u
 |[],[],_,_=>rfl
 |[],_::_,h,_=>by simp[ltB] at h
 |_::_,[],_,h=>by simp[ltB] at h
 |a::x,b::y,h,k=>by
  simp only[ltB,Bool.or_eq_false_iff,decide_eq_false_iff_not] at h k;have e:a=b:=by omega
  subst e;simp only[beq_self_eq_true,Ya] at h k;rw[EX h.2 k.2]
def ltV (a b:Ap):Bool:=
 if a.fKind != b.fKind then decide (a.fKind<b.fKind) else if a.fKind==1 then !a.fBool&&b.fBool else if a.fKind==2 then decide (a.fInt<b.fInt) else
 if a.fKind==3 then ltB a.fText b.fText else false
theorem EY (a b:Ap):pN a b=some (ltV a b):=by
 unfold pN kU o6 ltV
 repeat' split
 all_goals simp_all
theorem pS (a:Ap):ltV a a=false:=by
 unfold ltV
 repeat' split
 all_goals simp_all[EW]
theorem tf {a b c:Ap}(h:ltV a b=true)(k:ltV b c=true):ltV a c=true:=by
 obtain⟨ka,ba,na,ta⟩:=a;obtain⟨kb,bb,nb,tb⟩:=b;obtain⟨kc,bc,nc,tc⟩:=c;simp only[ltV] at*
 by_cases e1:ka=kb
 ·subst e1
  by_cases e2:ka=kc
  ·subst e2
   by_cases e1:ka=1
   ·subst e1;cases ba<;>cases bb<;>cases bc<;>simp_all
   by_cases e2:ka=2
   ·subst e2;simp at*;omega
   by_cases e3:ka=3
   ·subst e3;simp at*;exact BH h k
   ·have h1:(ka==1)=false:=by simpa using e1
    have h2:(ka==2)=false:=by simpa using e2
    have h3:(ka==3)=false:=by simpa using e3
    simp[h1,h2,h3] at h
  ·have:(ka != kc)=true:=by simpa using e2
   simp only[this,if_true] at*;exact k
 ·have h1:(ka != kb)=true:=by simpa using e1
  simp only[h1,if_true,decide_eq_true_eq] at h
  by_cases e2:kb=kc
  ·subst e2;simp only[h1,if_true,decide_eq_true_eq];exact h
  ·have h2:(kb != kc)=true:=by simpa using e2
   simp only[h2,if_true,decide_eq_true_eq] at k;have h3:(ka != kc)=true:=by simp;omega
   simp only[h3,if_true,decide_eq_true_eq];omega
theorem rD {a b:Ap}(ha:Rgt a)(hb:Rgt b)(h:ltV a b=false)(k:ltV b a=false):a=b:=by
 cases ha<;>cases hb<;>simp[ltV] at h k
 ·rfl
 ·rename_i x y;cases x<;>cases y<;>simp_all
 ·have: ∀x y:Int,x=y→iR x=iR y:=fun x y h=>by rw [h]
  apply this;omega
 ·rw[EX h k]
def kF (a b:Ap):Int:=if ltV a b then -1 else if ltV b a then 1 else 0
theorem pT (a b:Ap):iO a b=some (kF a b):=by
 unfold iO kF;rw[EY,EY,Jj,Jj];cases ltV a b<;>cases ltV b a<;>rfl
theorem eO (a b:Ap):cC a b=some (kF a b):=by
 unfold cC fw iq iB ln jH lX eD kF tz;simp only[bne_self_eq_false,Jj,Z7,if_false];obtain⟨ka,ba,na,ta⟩:=a;obtain⟨kb,bb,nb,tb⟩:=b;simp only[ltV]
 by_cases e:ka=kb
 ·subst e
  simp only[bne_self_eq_false,Z7,if_false]
  by_cases e1:ka=1
  ·subst e1;cases ba<;>cases bb<;>simp
  ·have h1:(ka==1)=false:=by simpa using e1
   simp only[h1,Z7,if_false]
   by_cases e2:ka=2
   ·subst e2;simp
    repeat' split
    all_goals rfl
   ·have h2:(ka==2)=false:=by simpa using e2
    simp only[h2,Z7,if_false]
    by_cases e3:ka=3
    ·subst e3;simp
    ·have h3:(ka==3)=false:=by simpa using e3
     simp[h3]
 ·have h1:(ka != kb)=true:=by simpa using e
  have h2:(kb != ka)=true:=by simp;omega
  simp only[h1,h2,if_true,decide_eq_true_eq]
  repeat' split
  all_goals rfl
theorem sk {a b:Ap}(h:ltV a b=true):ltV b a=false:=by
 cases k:ltV b a with
 |false=>rfl
 |true=>have:=tf h k;rw[pS] at this;cases this
theorem lf (a b:Ap):kF a b<0↔ltV a b=true:=by
 unfold kF
 repeat' split
 all_goals simp_all
theorem EZ (a b:Ap):kF a b≤0↔ltV b a=false:=by
 unfold kF;split
 ·rename_i h;simp[sk h]
 ·split
  ·rename_i h;simp[h]
  ·rename_i h;simpa using h
theorem BJ {a b:Ap}(ha:Rgt a)(hb:Rgt b):kF a b=0↔a=b:=by
 unfold kF;constructor
 ·intro h
  split at h
  ·cases h
  split at h
  ·cases h
  rename_i h1 h2;exact rD ha hb (by simpa using h1) (by simpa using h2)
 ·rintro rfl;rw[pS];rfl
theorem Ml {l:List Ap}(h:∀v∈l,Rgt v):Ix cC l:=by
 refine⟨λx _ y _=>⟨_,eO x y,?_⟩,λx _=>?_,λx _ y _ z _ h1 h2=>?_,λx hx y hy z hz h1 h2 h3=>?_,λx hx y hy h1 h2=>?_⟩
 ·rw [nj];unfold kF
  repeat' split
  all_goals decide
 ·rw[eO];simp only[Xd];rw[lf,pS];decide
 ·rw [eO] at*
  simp only[Xd,lf] at*;exact tf h1 h2
 ·rw [eO] at*
  simp only[Xd,lf,Y9] at*;cases hyx:ltV y x with
  |true=>have:=tf hyx h3;rw[h2] at this;cases this
  |false=>have:=rD (h x hx) (h y hy) h1 hyx;subst this;rw[h2] at h3;cases h3
 ·rw [eO] at*
  simp only[Xd,lf,Y9] at*;exact rD (h x hx) (h y hy) h1 h2
abbrev Ris (l:List Ap):Prop:=l.Pairwise λa b=>ltV a b=true
theorem Ris.one: ∀{l k:List Ap},Ris l→Ris k→(∀v,v∈l↔v∈k)→l=k
 |[],[],_,_,_=>rfl
 |[],b::k,_,_,h=>by have:=(h b).2 (by simp);cases this
 |a::l,[],_,_,h=>by have:=(h a).1 (by simp);cases this
 | a :: l, b :: k, hl, hk, h => by
  have hl':=Zj.1 hl;have hk':=Zj.1 hk
  have e:a=b:=by
   have h1:=(h a).1 (by simp);have h2:=(h b).2 (by simp);rcases Zp.1 h1 with h1|h1
   ·exact h1
   rcases Zp.1 h2 with h2|h2
   ·exact h2.symm
   have:=sk (hk'.1 a h1);rw[hl'.1 b h2] at this;cases this
  subst e;congr 1;refine Ris.one hl'.2 hk'.2 λv=>?_;have hv:=h v;simp only[Zp] at hv;constructor
  ·intro hm
   rcases hv.1 (.inr hm) with e|e
   ·subst e;have:=hl'.1 v hm;rw[pS] at this;cases this
   ·exact e
  ·intro hm
   rcases hv.2 (.inr hm) with e|e
   ·subst e;have:=hk'.1 v hm;rw[pS] at this;cases this
   ·exact e
theorem Ris.nodup {l:List Ap}(h:Ris l):l.Nodup:=h.imp λ{a b} h e=>by subst e;rw[pS] at h;cases h
def ins (v:Ap):List Ap→List Ap
 |[]=>[v]
 |x::r=>if ltV x v then x::ins v r else if v=x then x::r else v::x::r
theorem AX (v:Ap): ∀(l:List Ap) (x:Ap),x∈ins v l↔x=v∨x∈l
 |[],x=>by simp[ins]
 | y :: r, x => by
  simp only[ins];split
  ·simp only [Zp,AX v r x]
   constructor<;>(intro h;rcases h with h|h|h<;>simp[h])
  split
  ·rename_i e;subst e;simp
  ·simp
theorem E0 (v:Ap) (hv:Rgt v): ∀{l:List Ap},(∀x∈l,Rgt x)→Ris l→Ris (ins v l)
 |[],_,_=>by simp[ins]
 | y :: r, hr, h => by
  have h':=Zj.1 h;simp only[ins];split
  ·rename_i hlt
   refine Zj.2 ⟨λx hx=>?_,E0 v hv (λx hx=>hr x (by simp[hx])) h'.2⟩;rcases(AX v r x).1 hx with e|e
   ·subst e;exact hlt
   ·exact h'.1 x e
  split
  ·exact h
  ·rename_i h1 h2
   have hvy:ltV v y=true:=by
    cases h3:ltV v y with
    |true=>rfl
    |false=>exact absurd (rD hv (hr y (by simp)) h3 (by simpa using h1)) h2
   refine Zj.2 ⟨λx hx=>?_,h⟩;rcases Zp.1 hx with e|e
   ·subst e;exact hvy
   ·exact tf hvy (h'.1 x e)
def aO (l:List Ap):List Ap:=l.foldl (λout v=>ins v out) []
theorem FY (l:List Ap)(v:Ap):aO (l++[v])=ins v (aO l):=by simp[aO]
theorem zJ {l:List Ap}{i:Nat}(h:i<l.length):aO (l.take (i+1))=ins l[i] (aO (l.take i)):=by
 rw[Z0 h,FY]
theorem fp {l:List Ap}(h:∀v∈l,Rgt v):Ris (aO l)∧(∀v,v∈aO l↔v∈l)∧(aO l).length≤l.length:=by
 have key :∀ i, i ≤ l.length → Ris (aO (l.take i)) ∧(∀ v, v ∈ aO (l.take i) ↔ v ∈ l.take i) ∧(aO (l.take i)).length ≤ i := by
  intro i
  induction i with
  |zero=>intro _;simp[aO]
  | succ i ih =>
   intro hi;obtain⟨h1,h2,h3⟩:=ih (by omega);have hlt:i<l.length:=by omega
   rw[zJ hlt];have hr:∀x∈aO (l.take i),Rgt x:=λx hx=>h x (Ze ((h2 x).1 hx));refine⟨E0 _ (h _ (Z1 hlt)) hr h1,λv=>?_,?_⟩
   ·rw [AX,h2,Z0 hlt,Zc,X4]
    exact or_comm
   ·have:∀(v:Ap) (l:List Ap),(ins v l).length≤l.length+1:=by
     intro v l
     induction l with
     |nil=>simp[ins]
     |cons y r ih=>
      simp only[ins]
      repeat' split
      all_goals simp
      omega
    have:=this l[i] (aO (l.take i));omega
 have:=key l.length (Zm _);rwa[Z3] at this
def pU (v:Ap) (s:List Ap×Bool) (x:Ap):List Ap×Bool:=
 if !s.2&&decide (kF v x≤0) then (if kF v x=0 then (s.1++[v],true) else (s.1++[v]++[x],true)) else (s.1++[x],s.2)
theorem wN (v:Ap): ∀(l a:List Ap),l.foldl (pU v) (a,true)=(a++l,true)
 |[],a=>by simp
 |x::r,a=>by simp[pU,wN v r]
theorem E1 (v:Ap) (hv:Rgt v): ∀(l a:List Ap),(∀x∈l,Rgt x)→(if (l.foldl (pU v) (a,false)).2 then (l.foldl (pU v) (a,false)).1 else (l.foldl (pU v) (a,false)).1++[v])=a++ins v l
 |[],a,_=>by simp[ins]
 | x :: r, a, h => by
  simp only[Zx,pU,ins];cases hx:ltV x v with
  |true=>
   have: ¬ kF v x≤0:=by rw[EZ,hx];decide
   simp only[this,decide_false,Bool.and_false,Z7,if_false,if_true];rw[E1 v hv r (a++[x]) (λy hy=>h y (by simp[hy]))];simp
  | false =>
   have h1:kF v x≤0:=(EZ v x).2 hx
   by_cases e:kF v x=0
   ·have e2:=(BJ hv (h x (by simp))).1 e
    subst e2;simp[e,wN]
   ·have e2:v≠x:=fun e2=>e ((BJ hv (h x (by simp))).2 e2)
    simp[h1,e,e2,wN]
theorem pV (v:Ap): ∀(l a:List Ap) (d:Bool),(l.foldl (pU v) (a,d)).1.length≤a.length+l.length+(if d then 0 else 1)
 |[],a,d=>by simp
 | x :: r, a, d => by
  simp only[Zx,pU];cases d
  ·simp only [Y5,Ya]
   split
   ·split
    ·have:=pV v r (a++[v]) true;simp at this ⊢;omega
    ·have:=pV v r (a++[v]++[x]) true;simp at this ⊢;omega
   ·have:=pV v r (a++[x]) false;simp at this ⊢;omega
  ·have:=pV v r (a++[x]) true
   simp at this ⊢;omega
theorem iS {α β:Type}{f:β→α→β}{b:β}{l:List α}{i:Nat}(h:i<l.length):(l.take (i+1)).foldl f b=f ((l.take i).foldl f b) l[i]:=by
 rw[Z0 h,Xk];rfl
theorem Dv {l:List Ap}(h:∀v∈l,Rgt v)(hl:l.length<1048576):yF l=some (aO l):=by
 unfold yF;refine aV (λi=>(aO (l.take i),(i:Int))) l.length (by simp[aO]) (λi hi=>?_) ?_
 ·dsimp only
  unfold tM;obtain⟨h1,h2,h3⟩:=fp (l:=l.take i) λv hv=>h v (Ze hv);have h3':(aO (l.take i)).length≤i:=by simp at h3;omega
  have hr:∀x∈aO (l.take i),Rgt x:=λx hx=>h x (Ze ((h2 x).1 hx));have hv:=h l[i] (Z1 hi);rw[if_pos (by simpa using hi)];generalize hw:aO (l.take i)=W at*;have hfin:=E1 l[i] hv W [] hr;refine aV (λk=>(((W.take k).foldl (pU l[i]) ([],false)).1,((W.take k).foldl (pU l[i]) ([],false)).2,(k:Int))) W.length (by simp) (λk hk=>?_) ?_
  ·dsimp only
   have hlen:=pV l[i] (W.take k) [] false;simp only[List.length_nil,Zk,Z7,if_false] at hlen;unfold tL tK tJ tI;rw[if_pos (by simpa using hk),ay hi,Jj,ay hk,Jj,pT,Jj,aU (by omega),iS hk];generalize hs:(W.take k).foldl (pU l[i]) ([],false)=s at*;obtain⟨s1,s2⟩:=s;simp only[pU] at*;cases s2
   ·simp only [Y5,if_true,Ya,Jj]
    by_cases e:kF l[i] W[k]≤0
    ·simp only [e,decide_true,if_true]
     rw[aH (by simp;omega),Jj]
     by_cases e0:kF l[i] W[k]=0
     ·rw[if_pos (by simpa using e0),if_pos e0]
     ·rw[if_neg (by simpa using e0),if_neg e0,aH (by simp;omega),Jj]
    ·simp only [e,decide_false,Z7,if_false]
     rw[aH (by simp;omega),Jj]
   ·simp only [Xv,Z7,if_false,Bool.false_and,Jj]
    rw[aH (by simp;omega),Jj]
  ·dsimp only
   have hlen:=pV l[i] W [] false;simp only[List.length_nil,Z7,if_false] at hlen;unfold tL xZ tH xY;rw[if_neg (by simp),Z3,aU (by omega),zJ hi,hw];rw[show([]:List Ap)++ins l[i] W=ins l[i] W from rfl] at hfin;rw[←hfin];cases hd:(W.foldl (pU l[i]) ([],false)).2
   ·simp only [Y5,if_true,Z7,if_false]
    rw[ay hi,Jj,aH (by simp;omega)];rfl
   ·simp
 ·dsimp only
  unfold tM xX;rw[if_neg (by simp),Z3];rfl
def dd (s:List Ap):List Ap:=s.foldl (λout v=>if out.getLast?=some v then out else out++[v]) []
theorem AY (s:List Ap)(v:Ap):dd (s++[v])=if (dd s).getLast?=some v then dd s else dd s++[v]:=by
 unfold dd;rw[Xk];rfl
theorem E2 (s:List Ap){i:Nat}(h:i<s.length):(dd (s.take (i+1))).getLast?=some s[i]:=by
 rw[Z0 h,AY];split
 ·assumption
 ·simp
theorem AZ (s:List Ap){i:Nat}(h:i+1<s.length):dd (s.take (i+2))=if s[i+1]=s[i] then dd (s.take (i+1)) else dd (s.take (i+1))++[s[i+1]]:=by
 rw[Z0 h,AY,E2 s (by omega)]
 by_cases e:s[i+1]=s[i]
 ·rw[if_pos e,if_pos (by rw[e])]
 ·rw[if_neg e,if_neg (λh=>e (Option.some.inj h).symm)]
theorem Mm (s:List Ap)(h:0<s.length):dd (s.take 1)=s.take 1:=by
 match s,h with
 |a::r,_=>rfl
theorem KX {s : List Ap} (hr :∀ x ∈ s, Rgt x) (h : s.Pairwise λx y => ltV y x = false) : Ris (dd s) ∧(∀ v, v ∈ dd s ↔ v ∈ s) := by
 have key :∀ i, i ≤ s.length → Ris (dd (s.take i)) ∧(∀ v, v ∈ dd (s.take i) ↔ v ∈ s.take i) := by
  intro i
  induction i with
  |zero=>intro _;simp[dd]
  | succ i ih =>
   intro hi;obtain⟨h1,h2⟩:=ih (by omega);have hlt:i<s.length:=by omega
   rw[Z0 hlt,AY];split
   ·rename_i e
    refine⟨h1,λv=>?_⟩;rw[h2,Zc,X4];constructor
    ·exact .inl
    ·rintro (hm|rfl)
     ·exact hm
     ·exact(h2 _).1 (X6 e)
   ·rename_i e
    refine⟨Zn.2 ⟨h1,by simp,λa ha b hb=>?_⟩,λv=>by rw[Zc,Zc,h2]⟩;have hb':b=s[i]:=by simpa using hb
    subst hb';have ha':=(h2 a).1 ha
    -- a is ahead of s[i] in s
    obtain⟨j,hj,rfl⟩:=List.getElem_of_mem ha';simp only[Zk] at hj;have hge:ltV s[i] s[j]=false:=X7.1 h j i (by omega) hlt (by omega);rw[List.getElem_take] at ha ⊢;cases hlt2:ltV s[j] s[i] with
    |true=>rfl
    | false =>
     have e2:=rD (hr _ (Z1 (by omega))) (hr _ (Z1 hlt)) hlt2 hge;exfalso;apply e;have hi0:0<i:=by omega
     obtain⟨i',rfl⟩:∃i',i=i'+1:=⟨i - 1,by omega⟩
     rw[E2 s (by omega)]
     -- s[j] <= s[i'] <= s[i' + 1] = s[j]
     congr 1;apply rD (hr _ (Z1 (by omega))) (hr _ (Z1 hlt))
     ·cases h3:ltV s[i'] s[i'+1] with
      |false=>rfl
      | true =>
       rw[←e2] at h3
       by_cases e3:j=i'
       ·subst e3;rw[pS] at h3;cases h3
       ·have:=X7.1 h j i' (by omega) (by omega) (by omega)
        rw[this] at h3;cases h3
     ·exact X7.1 h i' (i'+1) (by omega) hlt (by omega)
 have:=key s.length (Zm _);rwa[Z3] at this
theorem FZ (s:List Ap)(hs:s.length<1048576):eh s=some (dd s):=by
 unfold eh
 by_cases h2:s.length<2
 ·rw [if_pos (by simpa using by omega)]
  match s,h2 with
  |[],_=>rfl
  |[a],_=>rfl
 rw[if_neg (by simpa using by omega)];refine oF (I:=λs':Int=>∃i:Nat,s'=((i+1:Nat):Int)∧i+1≤s.length∧dd (s.take (i+1))=s.take (i+1)) (μ:=λx=>s.length - x.toNat) ?_ ⟨0,rfl,by omega,Mm s (by omega)⟩;rintro _ ⟨i,rfl,hi,hd⟩;unfold fS
 by_cases hlt:i+1<s.length
 ·have e1 : Za.wrap (((i + 1 : Nat) : Int) - 1) = (i : Int) := by rw [ak (by omega)]; omega
  rw[if_pos (by simpa using by omega),od hlt,Jj,Z4 hlt,Jj,e1,od (by omega),Jj,Z4 (by omega),Jj]
  by_cases e:s[i+1]=s[i]
  ·right
   rw[if_pos (by simpa using e)]
   have hv:vw s ((i+1:Nat):Int) (s.length:Int)=some (i+1,s.length - (i+1)):=by
    unfold vw;rw[if_pos (by omega)];simp only[Y1]
   rw[hv,Jj];refine oF (I:=λt:Int×Int×List Ap=>∃p k2:Nat,p=i+1+k2∧1≤k2∧p≤s.length∧t.1=((dd (s.take p)).length:Int)∧t.2.1=(k2:Int)∧t.2.2.length=s.length∧(dd (s.take p)).length+1≤p∧t.2.2.take (dd (s.take p)).length=dd (s.take p)∧t.2.2.drop (p - 1)=s.drop (p - 1)) (μ:=λt=>s.length - t.2.1.toNat) ?_ ?_
   ·rintro ⟨t1,t2,xs⟩ ⟨p,k2,hp,hk2,hps,rfl,rfl,hxl,hdl,htk,hdr⟩
    unfold fR;have hm:Nat.ble (s.length - (i+1)) cO=true:=Nat.ble_eq_true_of_le (by unfold cO;omega);dsimp only at*;rw[sg hm,Jj]
    by_cases hlt2:p<s.length
    ·left
     have hx1:xs[p]? =some s[p]:=by
      have:(xs.drop (p - 1))[1]? =(s.drop (p - 1))[1]? :=by rw[hdr]
      rw[Xg,Xg] at this;have e:p - 1+1=p:=by omega
      rw[e] at this;rw[this,Z4 hlt2]
     have hx0:xs[p - 1]? =some s[p - 1]:=by
      have:(xs.drop (p - 1))[0]? =(s.drop (p - 1))[0]? :=by rw[hdr]
      rw[Xg,Xg] at this;rw[Nat.add_zero] at this;rw[this,Z4 (by omega)]
     have e2:ixv (i+1) (s.length - (i+1)) (k2:Int)=some p:=by unfold ixv;rw[if_pos (by omega)];simp;omega
     have e3:ixv (i+1) (s.length - (i+1)) (Za.wrap ((k2:Int) - 1))=some (p - 1):=by
      rw[ak (by omega)];unfold ixv;rw[if_pos (by omega)];simp;omega
     have hst:=AZ s (i:=p - 1) (by omega);have e4:p - 1+1=p:=by omega
     have e5:p - 1+2=p+1:=by omega
     simp only[e4,e5] at hst;rw[if_pos (by simpa using by omega),e2,Jj,hx1,Jj,e3,Jj,hx0,Jj]
     by_cases e6:s[p]=s[p - 1]
     ·rw [if_pos e6] at hst
      rw[if_neg (by simpa using e6)];unfold dC;refine⟨_,rfl,⟨p+1,k2+1,by omega,by omega,by omega,by rw[hst],?_,hxl,by rw[hst];omega,by rw[hst];exact htk,?_⟩,?_⟩
      ·exact aU (by omega)
      ·have:p+1 - 1=p - 1+1:=by omega
       rw[this,←Y6,←Y6,hdr]
      ·dsimp only;rw[aU (by omega)];simp;omega
     ·rw [if_neg e6] at hst
      rw[if_pos (by simpa using e6)];have hkl:(dd (s.take p)).length<xs.length:=by omega
      rw[Jj,hx1,Jj,od hkl,Jj,Z4 hkl,Jj];unfold dC;refine⟨_,rfl,⟨p+1,k2+1,by omega,by omega,by omega,?_,aU (by omega),by simp[hxl],by rw[hst];simp;omega,?_,?_⟩,?_⟩
      ·rw[hst,aU (by omega)];simp
      ·rw [hst]
       simp only[Z2,Z5];rw[Z0 (by simp;omega)];rw[List.take_set_of_le (Zm _),htk];simp
      ·rw [List.drop_set_of_lt (by omega)]
       have:p+1 - 1=p - 1+1:=by omega
       rw[this,←Y6,←Y6,hdr]
      ·dsimp only;rw[aU (by omega)];simp;omega
    ·right
     have hps':p=s.length:=by omega
     subst hps';rw[if_neg (by simpa using by omega)];unfold fQ;rw[Z3] at*
     have hv2:vw xs ((dd s).length:Int) (xs.length:Int)=some ((dd s).length,xs.length - (dd s).length):=by
      unfold vw;rw[if_pos (by omega)];simp only[Y1]
     rw[hv2,Jj];unfold clr;rw[if_pos (by dsimp only;omega),Jj]
     have hsp:(spl xs (dd s).length (Z8 (xs.length - (dd s).length) Ap.zero)).length=xs.length:=by
      unfold spl;simp;omega
     have:=dI (xs:=spl xs (dd s).length (Z8 (xs.length - (dd s).length) Ap.zero)) (lo:=0) (hi:=(dd s).length) (by omega) (by omega);rw[show((0:Nat):Int)=0 from rfl] at this;rw[this]
     have e7:(spl xs (dd s).length (Z8 (xs.length - (dd s).length) Ap.zero)).take (dd s).length=dd s:=by
      unfold spl;rw[Zi,Xi (by simp;omega)];exact htk
     rw[Xe,e7];rfl
   ·have hst:=AZ s (i:=i) (by omega)
    rw[if_pos e,hd] at hst;refine⟨i+2,1,by omega,by omega,by omega,?_,rfl,rfl,?_,?_,rfl⟩
    ·rw[hst];simp;omega
    ·rw[hst];simp;omega
    ·rw[hst];simp
  ·left
   rw[if_neg (by simpa using e)];unfold fP;refine⟨_,rfl,⟨i+1,aU (by omega),by omega,?_⟩,?_⟩
   ·rw [AZ s (i:=i) (by omega),if_neg e,hd]
    exact(Z0 hlt).symm
   ·rw[aU (by omega)];simp;omega
 ·right
  have:i+1=s.length:=by omega
  rw[if_neg (by simpa using by omega)];rw[this,Z3] at hd;unfold fO;rw[hd];rfl
theorem zK {l:List Ap}(h:∀v∈l,Rgt v)(hl:l.length<1048576):∃r,ku l cC=some r∧eh r=some (aO l):=by
 obtain⟨r,hr⟩:∃r,xz cC l=some r:=by
  unfold xz;rw[if_pos (Ml h)];exact⟨_,rfl⟩
 obtain⟨_,hp,hs⟩:=zd hr;refine⟨r,hr,?_⟩;rw[FZ r (by rw[hp.length_eq];exact hl)];congr 1;have hr':∀x∈r,Rgt x:=λx hx=>h x (hp.mem_iff.1 hx)
 have hs':r.Pairwise λx y=>ltV y x=false:=hs.imp λ{x y} h=>by
  rw[eO] at h;simp only[Xd,lf,Y9] at h;exact h
 obtain⟨h1,h2⟩:=KX hr' hs';obtain⟨h3,h4,_⟩:=fp h;exact Ris.one h1 h3 λv=>by rw[h2,h4,hp.mem_iff]
theorem Hf {α β σ:Type} {f:σ→Option (σ⊕β)} {s:σ} (S:Nat→σ) (xs:List α) (p:α→Bool) (b0 b1:β) (h0:s=S 0) (step: ∀(i:Nat) (h:i<xs.length),p xs[i]=true→f (S i)=some (.inl (S (i+1))))
  (out:∀(i:Nat) (h:i<xs.length),p xs[i]=false→f (S i)=some (.inr b0)) (fin:f (S xs.length)=some (.inr b1)):am f s=some (if xs.all p then b1 else b0):=by
 have key:∀k i:Nat,i+k=xs.length→am f (S i)=some (if (xs.drop i).all p then b1 else b0):=by
  intro k
  induction k with
  |zero=>
   intro i hi;have:i=xs.length:=by omega
   subst this;rw[a7 fin];simp
  |succ k ih=>
   intro i hi;have hlt:i<xs.length:=by omega
   rw[Zg hlt,List.all_cons];cases hp:p xs[i] with
   |true=>rw[bP (step i hlt hp),ih (i+1) (by omega)];simp
   |false=>rw[a7 (out i hlt hp)];simp
 have:=key xs.length 0 (by omega);rw[h0];simpa using this
def wO (out:List aT) (v:Ap):List aT:=
 match out.getLast? with
 |some r=>if r.fValue=v then out.dropLast++[⟨r.fMany+1,v⟩] else out++[⟨1,v⟩]
 |none=>[⟨1,v⟩]
def bV (l:List Ap):List aT:=l.foldl wO []
def gK (l:List aT):List Ap:=l.flatMap λr=>Z8 r.fMany.toNat r.fValue
theorem rk {l:List Ap}{i:Nat}(h:i<l.length):bV (l.take (i+1))=wO (bV (l.take i)) l[i]:=iS h
theorem Hg (out:List aT)(v:Ap):∃n,(wO out v).getLast?=some ⟨n,v⟩:=by
 unfold wO;split
 ·rename_i r _
  split
  ·exact⟨r.fMany+1,by simp⟩
  ·exact⟨1,by simp⟩
 ·exact⟨1,by simp⟩
theorem qQ {α:Type}{l:List α}{a:α}(h:l.getLast?=some a):l=l.dropLast++[a]:=by
 cases l with
 |nil=>cases h
 |cons x r=>
  have h1:(x::r).getLast (by simp)=a:=by rw[List.getLast?_eq_some_getLast (by simp)] at h;exact Option.some.inj h
  rw[←h1,Xp]
theorem wP (l:List Ap){i:Nat}(hi:i≤l.length):(∀r∈bV (l.take i),1≤r.fMany∧r.fMany≤i∧r.fValue∈l)∧(bV (l.take i)).length≤i∧gK (bV (l.take i))=l.take i:=by
 induction i with
 |zero=>simp[bV,gK]
 | succ i ih =>
  obtain⟨h1,h2,h3⟩:=ih (by omega);have hlt:i<l.length:=by omega
  rw[rk hlt,Z0 hlt];generalize hw:bV (l.take i)=W at*;unfold wO;have hm:=Z1 hlt;split
  ·rename_i r hr
   split
   ·rename_i e
    have hsp:=qQ hr;have hrm:r∈W:=X6 hr;obtain⟨g1,g2,g3⟩:=h1 r hrm;refine⟨λx hx=>?_,?_,?_⟩
    ·rcases Zc.1 hx with hx|hx
     ·have:=h1 x (by rw[hsp];exact List.mem_append_left _ hx);exact⟨this.1,by omega,this.2.2⟩
     ·have:x=⟨r.fMany+1,l[i]⟩:=by simpa using hx
      subst this;exact⟨by simp;omega,by simp;omega,hm⟩
    ·have:W.length=W.dropLast.length+1:=by rw [hsp];simp
     simp;omega
    ·rw [←h3]
     have e1:gK W=gK W.dropLast++Z8 r.fMany.toNat r.fValue:=by
      conv=>lhs;rw[hsp]
      simp[gK]
     rw[e1];have e2:(r.fMany+1).toNat=r.fMany.toNat+1:=by omega
     simp[gK,e2,List.replicate_succ',e]
   ·refine ⟨fun x hx=> ?_,by simp;omega,?_⟩
    ·rcases Zc.1 hx with hx|hx
     ·have:=h1 x hx;exact⟨this.1,by omega,this.2.2⟩
     ·have:x=⟨1,l[i]⟩:=by simpa using hx
      subst this;exact⟨by simp,by simp;omega,hm⟩
    ·rw[←h3];simp[gK]
  ·rename_i hr
   have:W=[]:=Xw.1 hr;subst this;refine⟨λx hx=>?_,by simp,?_⟩
   ·have:x=⟨1,l[i]⟩:=by simpa using hx
    subst this;exact⟨by simp,by simp;omega,hm⟩
   ·rw[←h3];simp[gK]
theorem Jh {α:Type}(l:List α)(a:α)(n:Nat)(h:l.length=n+1):l.set n a=l.dropLast++[a]:=by
 apply List.ext_getElem
 ·simp;omega
 intro j h1 h2;rw[List.getElem_set];split
 ·rename_i e;subst e
  rw[List.getElem_append_right (by simp;omega)];simp
 ·simp at h1
  rw[List.getElem_append_left (by simp;omega),List.getElem_dropLast]
theorem KY (l:List Ap)(hl:l.length≤1048576):lG l=some (bV l):=by
 unfold lG;refine aV (λi=>((i:Int),bV (l.take i))) l.length (by simp[bV]) (λi hi=>?_) ?_
 ·dsimp only
  obtain⟨h1,h2,_⟩:=wP l (i:=i) (by omega);rw[rk hi];generalize bV (l.take i)=W at*;unfold kt;rw[if_pos (by simpa using hi),ay hi,Jj]
  have app1:eQ (i:Int) W l[i] (W.length:Int)=some (.inr (.inl ((((i+1:Nat):Int)),W++[⟨1,l[i]⟩]))):=by
   unfold eQ my iV;rw[if_neg (by simp),aH (by simp;omega),Jj,aU (by omega)];rfl
  have stepk:∀k,k+1<W.length→eQ (i:Int) W l[i] (k:Int)=some (.inl ((k+1:Nat):Int)):=by
   intro k hk;unfold eQ gN;rw[if_pos (by simpa using by omega),if_neg (by rw[ak (by omega)];simp;omega),if_neg (by decide),aU (by omega)]
  unfold wO;cases hg:W.getLast? with
  |none=>
   have:W=[]:=Xw.1 hg;subst this;exact a7 app1
  | some r =>
   dsimp only;have hsp:=qQ hg
   obtain⟨n,hn⟩:∃n,W.length=n+1:=⟨W.length - 1,by
    have:W.length=W.dropLast.length+1:=by rw[hsp];simp
    omega⟩
   have hgn:W[n]? =some r:=by
    rw[Xx,hn] at hg;exact hg
   have hrm:=h1 r (X6 hg)
   by_cases e:r.fValue=l[i]
   ·rw [if_pos e]
    refine aV (λk=>(k:Int)) n rfl (λk hk=>stepk k (by omega)) ?_;unfold eQ gN iV;rw[if_pos (by simpa using by omega),if_pos (by rw[ak (by omega)];simp;omega),od (by omega),Jj,hgn,Jj,if_pos (by simpa using e),Jj,hgn,Jj,Jj,hgn,Jj,aU (by omega),Jh _ _ _ hn,ak (by omega),e]
    rfl
   ·rw [if_neg e]
    refine aV (λk=>(k:Int)) W.length rfl (λk hk=>?_) app1
    by_cases hk1:k+1<W.length
    ·exact stepk k hk1
    ·have:k=n:=by omega
     subst this;unfold eQ gN;rw[if_pos (by simpa using by omega),if_pos (by rw[ak (by omega)];simp;omega),od (by omega),Jj,hgn,Jj,if_neg (by simpa using e),aU (by omega)]
 ·dsimp only
  unfold kt mw;rw[if_neg (by simp),Z3];rfl
def lZ (r:aT):fG:=⟨r.fMany,r.fValue⟩
theorem Eo (l:List Ap)(hl:l.length≤1048576):AL l=some ((bV l).map lZ):=by
 unfold AL;refine aV (λi=>((bV (l.take i)).map lZ,(i:Int))) l.length (by simp[bV]) (λi hi=>?_) ?_
 ·dsimp only
  obtain⟨h1,h2,_⟩:=wP l (i:=i) (by omega);rw[rk hi];unfold uS
  have hnew:o5 l ((bV (l.take i)).map lZ) (i:Int) false=some (.inl ((bV (l.take i)++[(⟨1,l[i]⟩:aT)]).map lZ,((i+1:Nat):Int))):=by
   unfold o5 ra;rw[if_neg (by decide),ay hi,Jj,aH (by simp;omega),Jj,aU (by omega)];simp[lZ]
  rw[if_pos (by simpa using hi)];rcases Nat.eq_zero_or_pos i with h0|h0
  ·subst h0
   rw[if_neg (by decide),hnew];simp[bV,wO]
  ·obtain ⟨j,rfl⟩: ∃j,i=j+1:=⟨i - 1,by omega⟩
   have e1:Za.wrap (((j+1:Nat):Int) - 1)=(j:Int):=by rw[ak (by omega)];omega
   rw[if_pos (decide_eq_true (by omega)),ay hi,Jj,e1,ay (by omega),Jj];obtain⟨n,hlast⟩:∃n,(bV (l.take (j+1))).getLast?=some ⟨n,l[j]⟩:=by rw[rk (by omega)];exact Hg _ _
   generalize hw:bV (l.take (j+1))=W at*;unfold wO;rw[hlast];dsimp only
   by_cases e:l[j+1]=l[j]
   ·rw [if_pos e.symm]
    unfold o5 ra;have hsp:=qQ hlast
    obtain⟨k,hk⟩:∃k,W.length=k+1:=⟨W.length - 1,by
     have:W.length=W.dropLast.length+1:=by rw[hsp];simp
     omega⟩
    have hrm:=h1 _ (X6 hlast)
    have hgk:(W.map lZ)[k]? =some ⟨n,l[j]⟩:=by
     rw[Xx,hk] at hlast;rw[List.getElem?_map];have:W[k]? =some ⟨n,l[j]⟩:=hlast;rw[this];rfl
    have e2:Za.wrap (((W.map lZ).length:Int) - 1)=(k:Int):=by rw[ak (by simp;omega)];simp;omega
    have hkl:k<(W.map lZ).length:=by simp;omega
    have e3:(W.map lZ)[k]=⟨n,l[j]⟩:=by
     rw[Z4 hkl] at hgk;exact Option.some.inj hgk
    have e4:=dI (xs:=W.map lZ) (lo:=0) (hi:=k) (by omega) (by omega);rw[show((0:Nat):Int)=0 from rfl] at e4;rw[if_pos (by simpa using e),e2,ay hkl,Jj,e3,e4,Jj,aH (by simp;omega),Jj,aH (by simp;omega),Jj,aU (by omega)];simp only at hrm;rw[ak (by simp;omega)];simp only[Zy,Xe,Xy,Yb,Yg,lZ,List.map_dropLast];rw[List.dropLast_eq_take,Zo,hk,e]
    rfl
   ·rw [if_neg (fun h=>e h.symm)]
    have:decide (l[j+1]=l[j])=false:=by simpa using e
    rw[this,hnew]
 ·dsimp only
  unfold uS zx;rw[if_neg (by simp),Z3];rfl
def xH (l:List Ap):List Int:=(bV l).flatMap λr=>r.fMany::bv r.fValue
theorem oG {α:Type}(l:List α)(f:α→List Int)(k:Nat)(h:∀x∈l,(f x).length≤k):(l.flatMap f).length≤k*l.length:=by
 induction l with
 |nil=>simp
 |cons v r ih=>
  have:=h v (by simp);have:=ih λx hx=>h x (by simp[hx]);rw[Zw,Z2,Z6,Nat.mul_add];omega
theorem oH {l:List Ap}:(∀r∈bV l,1≤r.fMany∧r.fMany≤l.length∧r.fValue∈l)∧(bV l).length≤l.length∧gK (bV l)=l:=by
 have:=wP l (Zm _);rwa[Z3] at this
theorem A0 {l:List Ap}(h:∀v∈l,Rgt v)(hl:l.length≤64):nr l=some (xH l):=by
 obtain⟨h1,h2,_⟩:=oH (l:=l);unfold nr;rw[KY l (by omega),Jj];refine aV (λi=>(((bV l).take i).flatMap λr=>r.fMany::bv r.fValue,(i:Int))) (bV l).length (by simp) (λi hi=>?_) ?_
 ·dsimp only
  have hm:=h1 _ (Z1 hi);have hr:=h _ hm.2.2
  have hb:=oG ((bV l).take i) (λr=>r.fMany::bv r.fValue) 67 λx hx=>by
   have:=(ek (h _ (h1 x (Ze hx)).2.2)).2;simp;omega
  have hb':=(ek hr).2;simp only[Zk] at hb;unfold pK;rw[if_pos (by simpa using hi),ay hi,Jj,bm,aH (by simp only[Z5];omega),Jj,qP hr,Jj,aH (by simp only[Z2,Z5];omega),Jj,aU (by omega),mg hi];have:(bV l)[i].fMany%256=(bV l)[i].fMany:=by omega
  rw[this];simp
 ·dsimp only
  unfold pK ui;rw[if_neg (by simp),Z3];rfl
def zig (d:Int):Nat:=if d<0 then (-2*d - 1).toNat else (2*d).toNat
def fq (z:Nat):List Int:=if h:z<128 then [(z:Int)] else ((z%128+128:Nat):Int)::fq (z/128)
termination_by z
theorem pW {z:Nat}(h:z<128):fq z=[(z:Int)]:=by rw[fq,dif_pos h]
theorem sm {z:Nat}(h: ¬ z<128):fq z=((z%128+128:Nat):Int)::fq (z/128):=by rw[fq,dif_neg h]
theorem BL: ∀(k z:Nat),z<128^(k+1)→(fq z).length≤k+1
 |0,z,h=>by rw[pW (by simpa using h)];simp
 | k + 1, z, h => by
  by_cases hz:z<128
  ·rw[pW hz];simp
  ·rw [sm hz]
   have:z/128<128^(k+1):=by rw[Nat.div_lt_iff_lt_mul (by decide)];rw[Nat.pow_succ] at h;exact h
   have:=BL k _ this;simp;omega
theorem lL {z:Nat}(h:z<18446744073709551616):(fq z).length≤10:=BL 9 z (Zs h (by decide))
theorem Hh (z:Nat):Byt (fq z):=by
 induction z using Xa with
 |_ z ih=>
  by_cases hz:z<128
  ·rw[pW hz];exact .cons (by omega) .nil
  ·rw[sm hz];exact .cons (by omega) (ih _ (by omega))
theorem nI {d:Int}(h:cX d):zig d<18446744073709551616:=by
 unfold zig cX at*;split<;>omega
def jO (l:List Int)(i:Nat):List Int:=fq (zig (Za.wrap (l.getD (i+1) 0 - l.getD i 0)))
def nJ (l:List Int):List Int:=be8 (l.getD 0 0%18446744073709551616)++(Zv (l.length - 1)).flatMap (jO l)
theorem PM:∀n:_root_.Fin 256,n.val|||128=n.val%128+128:=by decide+kernel
theorem Ep (x:Nat): ∀(z:Nat) (acc:List Int),z<18446744073709551616→acc.length+(fq z).length≤140737488355328→x<1000→
  am (λs:(List Int×Int)=>jG (x:Int) s.1 s.2) (acc,(z:Int))=some (.inl (acc++fq z,((x+1:Nat):Int))):=by
 intro z
 induction z using Xa with
 | _ z ih =>
  intro acc hz hl hx
  by_cases h:z<128
  ·rw [pW h] at hl ⊢
   apply a7;dsimp only;unfold jG sY sX;rw[if_neg (by simp;omega),bm,aH (by simpa using hl),Jj,aU (by omega)];have:(z:Int)%256=z:=by omega
   rw[this];rfl
  ·rw [sm h] at hl ⊢
   simp only[Z6] at hl
   have e:jG (x:Int) acc (z:Int)=some (.inl (acc++[((z%128+128:Nat):Int)],((z/128:Nat):Int))):=by
    unfold jG
    have h1:bOr .u8 ((z:Int)%256) 128=((z%128+128:Nat):Int):=by
     have h2:=PM ⟨z%256,by omega⟩;simp only at h2;rw[show((z:Int)%256)=((z%256:Nat):Int) by omega,show(128:Int)=((128:Nat):Int) from rfl,or8 (by omega) (by omega),h2];congr 1;omega
    have h3:aF .u64 (z:Int) 7=((z/128:Nat):Int):=by have:=qm (x:=(z:Int)) (k:=7) (by omega);simpa using this
    rw[if_pos (by simp;omega),bm,h1,h3,aH (by simp;omega),Jj]
   rw[bP (by dsimp only;exact e),ih (z/128) (by omega) _ (by omega) (by simp;omega) hx];simp
theorem Ji {a:Nat}(ha:a<18446744073709551616):dV .u64 (a:Int) 18446744073709551615=18446744073709551615 - (a:Int):=by
 unfold dV;rw[bD];show(((Zd 64 (a:Int)^^^Zd 64 18446744073709551615).toNat:Nat):Int)%18446744073709551616=_;have h1:(Zd 64 (a:Int)).toNat=a:=by rw[Zl];omega
 have h2:Zd 64 18446744073709551615=BitVec.allOnes 64:=by decide
 rw[h2,BitVec.xor_allOnes,BitVec.toNat_not,h1];have:(2:Nat)^64=18446744073709551616:=by decide
 omega
theorem xor_zero {a:Nat}(ha:a<18446744073709551616):dV .u64 (a:Int) 0=(a:Int):=by
 unfold dV;rw[bD];show(((Zd 64 (a:Int)^^^Zd 64 0).toNat:Nat):Int)%18446744073709551616=_;have h1:(Zd 64 (a:Int)).toNat=a:=by rw[Zl];omega
 have h2:Zd 64 0=0#64:=by decide
 rw[h2,BitVec.xor_zero,h1];omega
theorem Mn {d:Int}(h:cX d):dV .u64 (ew .u64 (X5.wrap d) 1) (X5.wrap (aF .i64 d 63))=(zig d:Int):=by
 have h1:aF .i64 d 63=if d<0 then -1 else 0:=by
  unfold aF cX at*;rw[X3 _ (Yh (Int.pow_pos (by decide)))];have:(2:Int)^(min (63:Int).toNat Za.bits)=9223372036854775808:=by decide
  rw[this];split<;>omega
 have h2:ew .u64 (X5.wrap d) 1=(2*d)%18446744073709551616:=by
  have:=zH (x:=X5.wrap d) (k:=1) (by omega);rw[show((1:Nat):Int)=1 from rfl] at this;rw[this,bD];omega
 rw[h1,h2,bD];unfold zig cX at*;split
 ·have e:((2*d)%18446744073709551616)=((2*d+18446744073709551616).toNat:Int):=by omega
  rw[show((-1:Int)%18446744073709551616)=18446744073709551615 from by decide,e,Ji (by omega)];omega
 ·have e:((2*d)%18446744073709551616)=((2*d).toNat:Int):=by omega
  rw[show((0:Int)%18446744073709551616)=0 from by decide,e,xor_zero (by omega)]
theorem zL {l:List Int}(h0:0<l.length)(hl:l.length≤64):ma l=some (nJ l):=by
 unfold ma;have h00:idx l 0=some l[0]:=ay (i:=0) h0;have hsub:=dI (xs:=l) (lo:=1) (hi:=l.length) (by omega) (Zm _);rw[show((1:Nat):Int)=1 from rfl] at hsub;rw[h00,Jj,bD,s8,Jj,hsub,Jj,Z3];have hlen:(l.drop 1).length=l.length - 1:=by simp
 have hg0:l.getD 0 0=l[0]:=by rw[Zt,Z4 h0];rfl
 refine aV (λi=>(be8 (l[0]%18446744073709551616)++(Zv i).flatMap (jO l),(i:Int))) (l.length - 1) (by simp) (λi hi=>?_) ?_
 ·dsimp only
  unfold oW;rw[hlen,if_pos (by simpa using hi),ay (by rw[hlen];exact hi),Jj,ay (by omega),Jj];have hw:=lz ((l.drop 1)[i]'(by rw[hlen];exact hi) - l[i]'(by omega));have hb:=oG (Zv i) (jO l) 10 λx hx=>lL (nI (lz _));have h10:=lL (nI hw);simp only[Xl] at hb
  have e:jO l i=fq (zig (Za.wrap ((l.drop 1)[i]'(by rw[hlen];exact hi) - l[i]'(by omega)))):=by
   unfold jO;rw[Zt,Zt,Z4 (show i+1<l.length by omega),Z4 (show i<l.length by omega)];simp only[Xd,List.getElem_drop];congr 5;omega
  rw[Mn hw,Ep i _ _ (nI hw) (by simp only[Z2,cd];omega) (by omega),Yf,X9,←e];simp
 ·dsimp only
  unfold oW sW;rw[hlen,if_neg (by simp)];unfold nJ;rw[hg0];rfl
theorem zM (x:Nat): ∀(z:Nat) (acc:List Int),z<18446744073709551616→acc.length+(fq z).length≤140737488355328→x<1000→
  am (λs:(List Int×Int)=>ny (x:Int) s.1 s.2) (acc,(z:Int))=some (.inl (acc++fq z,((x+1:Nat):Int))):=by
 intro z
 induction z using Xa with
 | _ z ih =>
  intro acc hz hl hx
  by_cases h:z<128
  ·rw [pW h] at hl ⊢
   apply a7;dsimp only;unfold ny xW xV;rw[if_neg (by simp;omega),bm,aH (by simpa using hl),Jj,aU (by omega)];have:(z:Int)%256=z:=by omega
   rw[this];rfl
  ·rw [sm h] at hl ⊢
   simp only[Z6] at hl
   have e:ny (x:Int) acc (z:Int)=some (.inl (acc++[((z%128+128:Nat):Int)],((z/128:Nat):Int))):=by
    unfold ny;rw[if_pos (by simp;omega),bm,bD,bD,aH (by simp;omega),Jj,Zq (by omega),Zr (by omega)];congr 4
    ·congr 1;omega
    ·omega
   rw[bP (by dsimp only;exact e),ih (z/128) (by omega) _ (by omega) (by simp;omega) hx];simp
theorem A3 {α:Type}{l:List α}{i:Nat}{d:α}(h:i<l.length):l.getD i d=l[i]:=by
 rw[Zt,Z4 h];rfl
theorem Dw {l:List Ap}(h0:0<l.length)(hl:l.length≤64):yE l=some (nJ (l.map (·.fInt))):=by
 unfold yE;have h00:idx l 0=some l[0]:=ay (i:=0) h0;rw[h00,Jj,bD,wK,Jj];have hg:∀i (h:i<l.length),(l.map (·.fInt)).getD i 0=l[i].fInt:=λi h=>by rw[A3 (by simpa using h)];simp
 refine aV (λi=>(be8 (l[0].fInt%18446744073709551616)++(Zv i).flatMap (jO (l.map (·.fInt))),((i+1:Nat):Int))) (l.length - 1) (by simp) (λi hi=>?_) ?_
 ·dsimp only
  unfold tG tF;have e1:Za.wrap (((i+1:Nat):Int) - 1)=(i:Int):=by rw[ak (by omega)];omega
  rw[if_pos (by simpa using by omega),ay (by omega),Jj,e1,ay (by omega),Jj];have hw:=lz (l[i+1].fInt - l[i].fInt);have hb:=oG (Zv i) (jO (l.map (·.fInt))) 10 λx hx=>lL (nI (lz _));have h10:=lL (nI hw);simp only[Xl] at hb
  have e:jO (l.map (·.fInt)) i=fq (zig (Za.wrap (l[i+1].fInt - l[i].fInt))):=by
   unfold jO;rw[hg _ (by omega),hg _ (by omega)]
  have key:=zM (i+1) (zig (Za.wrap (l[i+1].fInt - l[i].fInt))) (be8 (l[0].fInt%18446744073709551616)++(Zv i).flatMap (jO (l.map (·.fInt)))) (nI hw) (by simp only[Z2,cd];omega) (by omega)
  have hz:(if decide (Za.wrap (l[i+1].fInt - l[i].fInt)<0)=true then (X5.wrap (Za.wrap ((Za.wrap ((-2)*(Za.wrap (l[i+1].fInt - l[i].fInt)))) - 1))) else (X5.wrap (Za.wrap (2*(Za.wrap (l[i+1].fInt - l[i].fInt))))))=((zig (Za.wrap (l[i+1].fInt - l[i].fInt)):Nat):Int):=by
   generalize Za.wrap (l[i+1].fInt - l[i].fInt)=d at*;simp only[decide_eq_true_eq];unfold zig cX at*;split
   ·rw[bD,jo,jo];omega
   ·rw[bD,jo];omega
  rw[Yf,X9,Y8,e,←Zi,←key,←hz];split<;>rfl
 ·dsimp only
  unfold tG xU;rw[if_neg (by simp;omega)];unfold nJ;rw[hg 0 h0];simp
def ft (w:List Ap)(v:Ap):Nat:=w.findIdx λx=>decide (v=x)
def ol (l:List Ap):List Int:=((aO l).length:Int)::((aO l).flatMap bv++cN (l.map λv=>(ft (aO l) v:Int)) (wid ((aO l).length - 1)))
theorem Jk {w:List Ap}{v:Ap}(hw:w.length<1048576)(h:v∈w):ib w v=some (ft w v:Int):=by
 unfold ib;have:=BE (f:=λs:Int=>fH w v s) w (λx=>decide (v=x)) (λi=>(i:Int)) (-1) (λi hi hp=>?_) (λi hi hp=>?_) ?_
 ·rw [this]
  have ha:w.any (λx=>decide (v=x))=true:=List.any_eq_true.2 ⟨v,h,by simp⟩;rw[ha];rfl
 ·unfold fH
  rw[if_pos (by simpa using hi),ay hi,Jj,hp,if_neg (by decide),aU (by omega)]
 ·unfold fH
  rw[if_pos (by simpa using hi),ay hi,Jj,hp,if_pos rfl];rfl
 ·unfold fH oD
  rw[if_neg (by simp)];rfl
theorem ox {w:List Ap}{v:Ap}(h:v∈w):ft w v<w.length:=List.findIdx_lt_length_of_exists ⟨v,h,by simp⟩
theorem yP {w:List Ap}{v:Ap}(h:v∈w):w[ft w v]'(ox h)=v:=by
 have:=List.findIdx_getElem (p:=λx=>decide (v=x)) (xs:=w) (w:=ox h);simp only[decide_eq_true_eq] at this;exact this.symm
theorem zN {l w:List Ap}(h:∀v∈l,v∈w)(hw:w.length<1048576):U64 (l.map λv=>(ft w v:Int)):=λx hx=>by
 obtain⟨v,hv,rfl⟩:=Zz.1 hx;have:=ox (h v hv);omega
theorem A4 {l:List Ap}(h:∀v∈l,Rgt v)(hl:l.length≤64)(hne:l≠[]):nt l=some (ol l):=by
 obtain⟨r,hr1,hr2⟩:=zK h (by omega);obtain⟨h3,h4,h5⟩:=fp h;have hwr:∀v∈aO l,Rgt v:=λv hv=>h v ((h4 v).1 hv);unfold nt iN;rw[aH (by simp;omega),Jj,Jj,Zy,hr1,Jj,hr2,Jj,bm,show((aO l).length:Int)%256=(aO l).length by omega];have hfl:=jn hwr;refine aV (λi=>(((aO l).length:Int)::((aO l).take i).flatMap bv,(i:Int))) (aO l).length (by simp) (λi hi=>?_) ?_
 ·dsimp only
  unfold kw;have h1:=jn (l:=(aO l).take i) λv hv=>hwr v (Ze hv);have h2:=(ek (hwr _ (Z1 hi))).2;simp only[Zk] at h1;rw[if_pos (by simpa using hi),ay hi,Jj,qP (hwr _ (Z1 hi)),Jj,aH (by simp only[Z6];omega),Jj,aU (by omega),mg hi]
  rfl
 ·dsimp only
  unfold kw;rw[if_neg (by simp),Z3];unfold mB
  have:am (λs:(List Int×Int)=>iW l (aO l) (((aO l).length:Int)::(aO l).flatMap bv) s.1 s.2) ([],0)=some (ol l):=by
   refine aV (λi=>((l.take i).map λv=>(ft (aO l) v:Int),(i:Int))) l.length (by simp) (λi hi=>?_) ?_
   ·dsimp only
    unfold iW;have hm:=(h4 l[i]).2 (Z1 hi);have hp:=ox hm;rw[if_pos (by simpa using hi),ay hi,Jj,Jk (by omega) hm,Jj,bD,aH (by simp;omega),Jj,aU (by omega),Z0 hi];have:((ft (aO l) l[i]:Nat):Int)%18446744073709551616=(ft (aO l) l[i]:Nat):=by omega
    rw[this,Xy,Yb,Yg]
   ·dsimp only
    unfold iW mA;rw[if_neg (by simp),Z3]
    by_cases h0:(aO l).length=0
    ·have hw0:aO l=[]:=Z9 h0
     have hl0:l=[]:=by
      cases l with
      |nil=>rfl
      |cons a t=>have:=(h4 a).2 (by simp);rw[hw0] at this;cases this
     subst hl0;exfalso;exact absurd rfl hne
    have e1:X5.wrap (Za.wrap (((aO l).length:Int) - 1))=(((aO l).length - 1:Nat):Int):=by rw[ak (by omega),bD];omega
    have hwid:wid ((aO l).length - 1)≤64:=pg (Zs (show(aO l).length - 1<64 by omega) (by decide))
    have hpl:(cN (l.map λv=>(ft (aO l) v:Int)) (wid ((aO l).length - 1))).length≤64*64:=by
     unfold cN;rw[fM,Zo];have:=Zu hl hwid;omega
    rw[e1,len_eq (by omega),Jj,BG (zN (λv hv=>(h4 v).2 hv) (by omega)) (by simp;omega) hwid,Jj,aH (by simp only[Z6];omega)]
    rfl
  rw[this];rfl
theorem BM {w:List Ap}{v:Ap}(hn:w.Nodup)(h:v∈w){k:Nat}(hk:k<w.length):w[k]=v↔k=ft w v:=by
 constructor
 ·intro e
  rw[←yP h] at e;exact(List.getElem_inj hn).1 e
 ·rintro rfl;exact yP h
theorem Er {l:List Ap}(h:∀v∈l,Rgt v)(hl:l.length≤64)(hne:l≠[]):AM l=some (ol l):=by
 obtain⟨h3,h4,h5⟩:=fp h;have hwr:∀v∈aO l,Rgt v:=λv hv=>h v ((h4 v).1 hv);unfold AM;rw[Dv h (by omega),Jj,bm,show((aO l).length:Int)%256=(aO l).length by omega];have hfl:=jn hwr;refine aV (λi=>(((aO l).length:Int)::((aO l).take i).flatMap bv,(i:Int))) (aO l).length (by simp) (λi hi=>?_) ?_
 ·dsimp only
  unfold uW;have h1:=jn (l:=(aO l).take i) λv hv=>hwr v (Ze hv);have h2:=(ek (hwr _ (Z1 hi))).2;simp only[Zk] at h1;rw[if_pos (by simpa using hi),ay hi,Jj,pf (hwr _ (Z1 hi)),Jj,aH (by simp only[Z6];omega),Jj,aU (by omega),mg hi]
  rfl
 ·dsimp only
  unfold uW;rw[if_neg (by simp),Z3];unfold zB
  have:am (λs:(List Int×Int)=>rc l (aO l) (((aO l).length:Int)::(aO l).flatMap bv) s.1 s.2) ([],0)=some (ol l):=by
   refine aV (λi=>((l.take i).map λv=>(ft (aO l) v:Int),(i:Int))) l.length (by simp) (λi hi=>?_) ?_
   ·dsimp only
    unfold rc;have hm:=(h4 l[i]).2 (Z1 hi);have hp:=ox hm;rw[if_pos (by simpa using hi)];refine aV (λk=>(((l.take i).map λv=>(ft (aO l) v:Int))++if ft (aO l) l[i]<k then [(ft (aO l) l[i]:Int)] else [],(k:Int))) (aO l).length (by simp) (λk hk=>?_) ?_
    ·dsimp only
     unfold uV uU;rw[if_pos (by simpa using hk),ay hk,Jj,ay hi,Jj,aU (by omega)]
     by_cases e:k=ft (aO l) l[i]
     ·have e1:=(BM h3.nodup hm hk).2 e
      rw[if_pos (by simpa using e1),if_neg (by omega),Xj,bD,aH (by simp;omega),Jj,if_pos (by omega)];have:(k:Int)%18446744073709551616=(ft (aO l) l[i]:Nat):=by omega
      rw[this]
     ·have e1: ¬ (aO l)[k]=l[i]:=fun h=>e ((BM h3.nodup hm hk).1 h)
      rw[if_neg (by simpa using e1)];have e2:(ft (aO l) l[i]<k+1)=(ft (aO l) l[i]<k):=by apply propext;omega
      simp only[e2]
    ·dsimp only
     unfold uV zA;rw[if_neg (by simp),if_pos hp,aU (by omega),Z0 hi,Xy,Yb,Yg];rfl
   ·dsimp only
    unfold rc zy;rw[if_neg (by simp),Z3]
    have h0:(aO l).length≠0:=λh0=>by
     have hw0:aO l=[]:=Z9 h0;cases l with
     |nil=>exact hne rfl
     |cons a t=>have:=(h4 a).2 (by simp);rw[hw0] at this;cases this
    have e1:X5.wrap (Za.wrap (((aO l).length:Int) - 1))=(((aO l).length - 1:Nat):Int):=by rw[ak (by omega),bD];omega
    have hwid:wid ((aO l).length - 1)≤64:=pg (Zs (show(aO l).length - 1<64 by omega) (by decide))
    have hpl:(cN (l.map λv=>(ft (aO l) v:Int)) (wid ((aO l).length - 1))).length≤64*64:=by
     unfold cN;rw[fM,Zo];have:=Zu hl hwid;omega
    rw[e1,Dp (by omega),Jj,vI (zN (λv hv=>(h4 v).2 hv) (by omega)) (by simp;omega) hwid,Jj,aH (by simp only[Z6];omega)]
    rfl
  rw[this];rfl
def j8:List Int→Int
 |[]=>0
 |a::r=>r.foldl (λm x=>if x<m then x else m) a
theorem BN (r:List Int):∀a:Int,r.foldl (λm x=>if x<m then x else m) a≤a∧(∀x∈r,r.foldl (λm x=>if x<m then x else m) a≤x)∧(r.foldl (λm x=>if x<m then x else m) a=a∨r.foldl (λm x=>if x<m then x else m) a∈r):=by
 induction r with
 |nil=>intro a;simp
 | cons b r ih =>
  intro a;simp only[Zx];obtain⟨h1,h2,h3⟩:=ih (if b<a then b else a);have hb:(if b<a then b else a)≤a∧(if b<a then b else a)≤b∧((if b<a then b else a)=a∨(if b<a then b else a)=b):=by split<;>omega
  refine⟨by omega,λx hx=>?_,?_⟩
  ·rcases Zp.1 hx with rfl|hx
   ·omega
   ·exact h2 x hx
  ·rcases h3 with h3|h3
   ·rcases hb.2.2 with h4|h4
    ·left;omega
    ·right;rw[h3,h4];simp
   ·right;simp[h3]
theorem A5 {l:List Int}{x:Int}(h:x∈l):j8 l≤x:=by
 cases l with
 |nil=>cases h
 |cons a r=>
  obtain⟨h1,h2,_⟩:=BN r a;rcases Zp.1 h with rfl|h
  ·exact h1
  ·exact h2 x h
theorem yQ {l:List Int}(h:l≠[]):j8 l∈l:=by
 cases l with
 |nil=>exact absurd rfl h
 |cons a r=>
  obtain⟨_,_,h3⟩:=BN r a;rcases h3 with h3|h3
  ·show r.foldl _ a∈_;rw[h3];simp
  ·exact List.mem_cons_of_mem _ h3
def dN (l:List Int):Nat:=l.foldl (λw x=>max w (wid x.toNat)) 0
theorem tW {l:List Int}{i:Nat}(h:i<l.length):dN (l.take (i+1))=max (dN (l.take i)) (wid l[i].toNat):=iS h
theorem lM {l:List Int}(h:U64 l):dN l≤64∧∀x∈l,wid x.toNat≤dN l:=by
 have key:∀i,i≤l.length→dN (l.take i)≤64∧∀x∈l.take i,wid x.toNat≤dN (l.take i):=by
  intro i
  induction i with
  |zero=>intro _;simp[dN]
  | succ i ih =>
   intro hi;obtain⟨h1,h2⟩:=ih (by omega);have hlt:i<l.length:=by omega
   have hx:=h l[i] (Z1 hlt);have hw:wid l[i].toNat≤64:=pg (by rw[show(2:Nat)^64=18446744073709551616 by decide];omega);rw[tW hlt];refine⟨by omega,λx hx=>?_⟩;rw[Z0 hlt] at hx;rcases Zc.1 hx with hx|hx
   ·have:=h2 x hx;omega
   ·have:x=l[i]:=by simpa using hx
    subst this;omega
 have:=key l.length (Zm _);rwa[Z3] at this
def bQ (l:List Int):List Int:=l.map λx=>x - j8 l
def nK (l:List Int):List Int:=be8 (j8 l%18446744073709551616)++[(dN (bQ l):Int)]++cN (bQ l) (dN (bQ l))
theorem oI {l:List Int}(h:∀x∈l,cX x):U64 (bQ l):=λx hx=>by
 obtain⟨y,hy,rfl⟩:=Zz.1 hx;have h1:=A5 hy;have h2:=h y hy;have h3:=h (j8 l) (yQ (List.ne_nil_of_mem hy));unfold cX at h2 h3;omega
theorem Dx {x m:Int}(hx:cX x)(hm:cX m)(h:m≤x):X5.wrap ((X5.wrap x) - (X5.wrap m))=x - m:=by
 rw[bD,bD,bD];unfold cX at*;omega
theorem Mo {l:List Int}(h0:0<l.length)(hl:l.length≤1048576):kQ l=some (j8 l):=by
 cases l with
 |nil=>simp at h0
 | cons a r =>
  unfold kQ pB;rw[if_neg (by simp;omega),dK,Jj];refine aV (λi=>((r.take i).foldl (λm x=>if x<m then x else m) a,((i+1:Nat):Int))) r.length (by simp) (λi hi=>?_) ?_
  ·dsimp only
   unfold lP;rw[if_pos (by simpa using hi),ay (by simpa using hi),Jj,aU (by simp at hl;omega),iS hi]
   rfl
  ·dsimp only
   unfold lP py;rw[if_neg (by simp),Z3];rfl
theorem Hi (a b:Nat):(if (a:Int)<(b:Int) then (b:Int) else (a:Int))=((max a b:Nat):Int):=by split<;>omega
theorem zO {l:List Int}(h:∀x∈l,cX x)(h0:0<l.length)(hl:l.length≤64):mb l=some (nK l):=by
 have hne:l≠[]:=λe=>by subst e;simp at h0
 have hm:=h _ (yQ hne);have hu:=oI h;obtain⟨hw,hw2⟩:=lM hu;have hal:(bQ l).length=l.length:=by simp[bQ]
 unfold mb;rw[Mo h0 (by omega),Jj];refine aV (λi=>((bQ l).take i,((dN ((bQ l).take i):Nat):Int),(i:Int))) l.length (by simp[dN]) (λi hi=>?_) ?_
 ·dsimp only
  unfold oY;have hxi:=Z1 hi;have hai:(bQ l)[i]'(by omega)=l[i] - j8 l:=by simp[bQ]
  have hlt:=hu _ (Z1 (show i<(bQ l).length by omega));rw[hai] at hlt;have e2:=Du (n:=(l[i] - j8 l).toNat) (by omega);rw[show(((l[i] - j8 l).toNat:Nat):Int)=l[i] - j8 l by omega] at e2;rw[if_pos (by simpa using hi),ay hi,Jj,Dx (h _ hxi) hm (A5 hxi),aH (by simp;omega),Jj,e2,Jj,aU (by omega),Hi,tW (by omega),Z0 (by omega),hai]
 ·dsimp only
  unfold oY sZ
  have hpl:(cN (bQ l) (dN (bQ l))).length≤64*64:=by
   unfold cN;rw[fM,hal];have:=Zu hl hw;omega
  rw[if_neg (by simp),←hal,Z3,bD,s8,Jj,bm,aH (by simp[cd]),Jj,BG hu (by omega) hw,Jj,aH (by simp only[Z2,cd,Z5];omega)];have:((dN (bQ l):Nat):Int)%256=(dN (bQ l):Nat):=by omega
  rw[this];rfl
theorem Dy {l:List Ap}(h:∀v∈l,cX v.fInt)(h0:0<l.length)(hl:l.length≤64):yG l=some (nK (l.map (·.fInt))):=by
 have h':∀x∈l.map (·.fInt),cX x:=λx hx=>by obtain⟨v,hv,rfl⟩:=Zz.1 hx;exact h v hv
 have hne:l.map (·.fInt)≠[]:=λe=>by rw[List.map_eq_nil_iff] at e;subst e;simp at h0
 have hm:=h' _ (yQ hne);have hu:=oI h';obtain⟨hw,hw2⟩:=lM hu;have hal:(bQ (l.map (·.fInt))).length=l.length:=by simp[bQ]
 unfold yG;have h00:idx l 0=some l[0]:=ay (i:=0) h0;rw[h00,Jj]
 have hmin:j8 (l.map (·.fInt))=l.foldl (λm x=>if x.fInt<m then x.fInt else m) l[0].fInt:=by
  cases l with
  |nil=>simp at h0
  |cons a r=>simp[j8,List.foldl_map]
 refine aV (λi=>((l.take i).foldl (λm x=>if x.fInt<m then x.fInt else m) l[0].fInt,(i:Int))) l.length (by simp) (λi hi=>?_) ?_
 ·dsimp only
  unfold tO;rw[if_pos (by simpa using hi),ay hi,Jj,aU (by omega),iS hi]
 ·dsimp only
  unfold tO yc;rw[if_neg (by simp),Z3,←hmin]
  have:am (λs:(List Int×Int×Int)=>qf l (j8 (l.map (·.fInt))) s.1 s.2.1 s.2.2) ([],0,0)=some (nK (l.map (·.fInt))):=by
   refine aV (λi=>((bQ (l.map (·.fInt))).take i,((dN ((bQ (l.map (·.fInt))).take i):Nat):Int),(i:Int))) l.length (by simp[dN]) (λi hi=>?_) ?_
   ·dsimp only
    unfold qf;have hxi:=Z1 hi;have hai:(bQ (l.map (·.fInt)))[i]'(by omega)=l[i].fInt - j8 (l.map (·.fInt)):=by simp[bQ]
    have hlt:=hu _ (Z1 (show i<(bQ (l.map (·.fInt))).length by omega));rw[hai] at hlt;have e2:=Dp (n:=(l[i].fInt - j8 (l.map (·.fInt))).toNat) (by omega);rw[show(((l[i].fInt - j8 (l.map (·.fInt))).toNat:Nat):Int)=l[i].fInt - j8 (l.map (·.fInt)) by omega] at e2;rw[if_pos (by simpa using hi),ay hi,Jj,Dx (h _ hxi) hm (A5 (List.mem_map_of_mem hxi)),aH (by simp;omega),Jj,e2,Jj,aU (by omega),Hi,tW (by omega),Z0 (by omega),hai]
   ·dsimp only
    unfold qf yb
    have hpl:(cN (bQ (l.map (·.fInt))) (dN (bQ (l.map (·.fInt))))).length≤64*64:=by
     unfold cN;rw[fM,hal];have:=Zu hl hw;omega
    rw[if_neg (by simp),←hal,Z3,bD,wK,Jj,bm,aH (by simp[cd]),Jj,vI hu (by omega) hw,Jj,aH (by simp only[Z2,cd,Z5];omega)];have:((dN (bQ (l.map (·.fInt))):Nat):Int)%256=(dN (bQ (l.map (·.fInt))):Nat):=by omega
    rw[this];rfl
  rw[this];rfl
def ph (l:List Ap):List Int:=l.flatMap bv
def qR (kind:Int) (l:List Ap):List Int:=
 if kind=1 then xH l else if kind=2 then nJ (l.map (·.fInt)) else if kind=3 then ol l else if kind=4 then nK (l.map (·.fInt)) else ph l
def jP (l:List Ap):Bool:=l.all λv=>v.fKind==2
def enc (kind:Int) (l:List Ap):List Int×Int:=
 if kind<0∨4<kind then ([],62) else if 64<l.length then ([],61) else if l.all right=false then ([],60) else
 if (kind=2∨kind=4)∧jP l=false then ([],62) else if l=[] then ([],0) else (qR kind l,0)
theorem KZ {l:List Ap}(hl:l.length≤1048576):nl l=some (if jP l then (l.map (·.fInt),true) else ([],false)):=by
 unfold nl jP;refine Hf (λi=>((l.take i).map (·.fInt),(i:Int))) l (λv=>v.fKind==2) _ _ (by simp) (λi hi hp=>?_) (λi hi hp=>?_) ?_
 ·dsimp only
  unfold mu;rw[if_pos (by simpa using hi),ay hi,Jj,if_neg (by simpa using hp),aH (by simp;omega),Jj,aU (by omega),Z0 hi,Xy,Yb,Yg]
 ·dsimp only
  unfold mu;rw[if_pos (by simpa using hi),ay hi,Jj,if_pos (by simpa using hp)];rfl
 ·dsimp only
  unfold mu ug;rw[if_neg (by simp),Z3];rfl
theorem Es {l:List Ap}(hl:l.length≤1048576):et l eY=some (!l.all right):=by
 unfold et jW;have:=BE (f:=λs:Int=>eo l eY s) l (λv=> !right v) (λi=>(i:Int)) (-1) (λi hi hp=>?_) (λi hi hp=>?_) ?_
 ·rw [this,Jj]
  have e:l.any (λv=> !right v)= !l.all right:=by simp[List.any_eq_not_all_not]
  rw[e];cases l.all right<;>simp
 ·unfold eo eY
  rw[if_pos (by simpa using hi),ay hi,Jj,iZ,Jj,Jj,hp,if_neg (by decide),aU (by omega)]
 ·unfold eo eY
  rw[if_pos (by simpa using hi),ay hi,Jj,iZ,Jj,Jj,hp,if_pos rfl];rfl
 ·unfold eo lW
  rw[if_neg (by simp)];rfl
theorem rE {l:List Ap}(h:∀v∈l,VOK v)(hr:l.all right=true):∀v∈l,Rgt v:=λv hv=>Rgt.of (h v hv) (List.all_eq_true.1 hr v hv)
theorem tg {l:List Ap}(kind:Int)(h:∀v∈l,VOK v)(hl:l.length≤1048576):fj kind l=some (enc kind l):=by
 unfold fj enc
 have hj:∀b,gO kind l b=some (if b=true then ([],62) else if 64<l.length then ([],61) else if l.all right=false then ([],60) else if (kind=2∨kind=4)∧jP l=false then ([],62) else if l=[] then ([],0) else (qR kind l,0)):=by
  intro b;unfold gO;cases b
  ·simp only [Z7,if_false]
   by_cases h1:64<l.length
   ·rw[if_pos (decide_eq_true (by omega)),if_pos h1]
   rw[if_neg (by simp;omega),if_neg h1,Es hl,Jj];cases hr:l.all right
   ·rfl
   rw[if_neg (by decide),if_neg (by decide),KZ hl,Jj];have hR:=rE h hr
   have hj2:∀ns:List Int×Bool,(kind=2∨kind=4→ns.1=l.map (·.fInt))→eH kind l ns false=some (if l=[] then ([],0) else (qR kind l,0)):=by
    intro ns hns;unfold eH;rw[if_neg (by decide)]
    by_cases h0:l=[]
    ·subst h0;rfl
    have hpos:0<l.length:=Zh.2 h0;rw[if_neg (by simpa using h0),if_neg h0];unfold qR
    by_cases k1:kind=1
    ·rw[if_pos (by simpa using k1),A0 hR (by omega),if_pos k1];rfl
    rw[if_neg (by simpa using k1),if_neg k1]
    by_cases k2:kind=2
    ·rw[if_pos (by simpa using k2),hns (.inl k2),zL (by simpa using hpos) (by simp;omega),if_pos k2];rfl
    rw[if_neg (by simpa using k2),if_neg k2]
    by_cases k3:kind=3
    ·rw[if_pos (by simpa using k3),A4 hR (by omega) h0,if_pos k3];rfl
    rw[if_neg (by simpa using k3),if_neg k3]
    by_cases k4:kind=4
    ·rw[if_pos (by simpa using k4),hns (.inr k4),zO (λx hx=>by obtain⟨v,hv,rfl⟩:=Zz.1 hx;exact(h v hv).int) (by simpa using hpos) (by simp;omega),if_pos k4];rfl
    rw[if_neg (by simpa using k4),if_neg k4];refine aV (λi=>((l.take i).flatMap bv,(i:Int))) l.length (by simp) (λi hi=>?_) ?_
    ·dsimp only
     unfold jd;have h3:=jn (l:=l.take i) λv hv=>hR v (Ze hv);have h2:=(ek (hR _ (Z1 hi))).2;simp only[Zk] at h3;rw[if_pos (by simpa using hi),ay hi,Jj,qP (hR _ (Z1 hi)),Jj,aH (by omega),Jj,aU (by omega),mg hi]
    ·dsimp only
     unfold jd kR;rw[if_neg (by simp),Z3];rfl
   have hj2t:∀ns:List Int×Bool,eH kind l ns true=some ([],62):=λns=>rfl;cases hi:jP l
   ·simp only [Z7,if_false,Y5,if_true,and_true]
    by_cases k2:kind=2
    ·rw[if_pos (by simpa using k2),if_pos (.inl k2),hj2t]
    by_cases k4:kind=4
    ·have:(kind==4)=true:=by simpa using k4
     rw[if_neg (by simpa using k2),this,if_pos (.inr k4),hj2t]
    ·have:(kind==4)=false:=by simpa using k4
     rw[if_neg (by simpa using k2),this,if_neg (by omega),hj2 _ (by omega)]
   ·simp only [if_true,Xv,Z7,if_false,Bool.true_eq_false,and_false]
    exact hj2 _ λ_=>rfl
  ·rfl
 by_cases h0:kind<0
 ·rw[if_pos (by simpa using h0),if_pos (.inl h0),hj];rfl
 rw[if_neg (by simpa using h0),hj]
 by_cases h4:4<kind
 ·rw[if_pos (by simpa using h4),if_pos (show kind<0∨4<kind from .inr h4)]
 ·rw[if_neg (show ¬ (kind<0∨4<kind) by omega),if_neg (by simpa using h4)]
theorem F0 {l:List Ap}(kind:Int)(hl:l.length≤1048576):uR kind l=some (enc kind l).2:=by
 unfold uR enc
 have hj2:qL kind l=some (if l.all (λv=> !((decide (kind=2)||decide (kind=4))&&v.fKind != 2)) then 0 else 62):=by
  unfold qL;refine u3 l _ _ _ (λi hi hp=>?_) (λi hi hp=>?_) ?_
  ·unfold nV lp
   rw[if_pos (by simpa using hi),ay hi,Jj,aU (by omega)]
   by_cases k2:kind=2
   ·subst k2;simp at hp;simp[hp]
   by_cases k4:kind=4
   ·subst k4;simp at hp;simp[hp]
   ·simp[k2,k4]
  ·unfold nV lp
   rw[if_pos (by simpa using hi),ay hi,Jj]
   by_cases k2:kind=2
   ·subst k2;simp at hp;simp[hp]
   by_cases k4:kind=4
   ·subst k4;simp at hp;simp[hp]
   ·simp[k2,k4] at hp
  ·unfold nV vC
   rw[if_neg (by simp)];rfl
 have hj :∀ b, nW kind l b = some (if b = true then 62 else if 64 < l.length then 61 else if l.all right = false then 60 else if (kind = 2 ∨ kind = 4) ∧ jP l = false then 62 else 0) := by
  intro b;unfold nW;cases b
  ·simp only [Z7,if_false]
   by_cases h1:64<l.length
   ·rw[if_pos (decide_eq_true (by omega)),if_pos h1]
   rw[if_neg (by simp;omega),if_neg h1];have:=u3 (f:=λs:Int=>lq kind l s) l right 60 (if (kind=2∨kind=4)∧jP l=false then 62 else 0) (λi hi hp=>?_) (λi hi hp=>?_) ?_
   ·rw[this];cases l.all right<;>rfl
   ·unfold lq
    rw[if_pos (by simpa using hi),ay hi,Jj,pd,Jj,hp,if_neg (by decide),aU (by omega)]
   ·unfold lq
    rw[if_pos (by simpa using hi),ay hi,Jj,pd,Jj,hp];rfl
   ·unfold lq
    rw[if_neg (by simp),hj2];unfold jP
    by_cases hk:kind=2∨kind=4
    ·have e:(decide (kind=2)||decide (kind=4))=true:=by simpa using hk
     simp only[e,Ya,hk,true_and]
     have e2:(l.all λv=> !(v.fKind != 2))=l.all λv=>v.fKind==2:=by
      congr 1;funext v;cases hv:(v.fKind==2)<;>simp[bne,hv]
     rw[e2];cases l.all λv=>v.fKind==2<;>rfl
    ·have e:(decide (kind=2)||decide (kind=4))=false:=by simpa using hk
     simp[e,hk]
  ·rfl
 by_cases h0:kind<0
 ·rw[if_pos (by simpa using h0),if_pos (.inl h0),hj];rfl
 rw[if_neg (by simpa using h0),hj]
 by_cases h4:4<kind
 ·rw[if_pos (by simpa using h4),if_pos (show kind<0∨4<kind from .inr h4)]
 ·rw [if_neg (show ¬ (kind<0∨4<kind) by omega),if_neg (by simpa using h4)]
  congr 1
  repeat' split
  all_goals rfl
theorem qS {l:List Ap}(kind:Int)(h:∀v∈l,VOK v)(hl:l.length≤1048576):qv kind l=some (enc kind l):=by
 unfold qv;rw[F0 kind hl,Jj];unfold rY
 by_cases he:(enc kind l).2=0
 ·rw [if_neg (by simpa using he)]
  unfold enc at he ⊢;split at he
  ·cases he
  rename_i hk;rw[if_neg hk];split at he
  ·cases he
  rename_i hlen;rw[if_neg hlen];split at he
  ·cases he
  rename_i hr;rw[if_neg hr];split at he
  ·cases he
  rename_i hi;rw[if_neg hi];have hR:=rE h (by simpa using hr)
  by_cases h0:l=[]
  ·subst h0;rfl
  rw[if_neg h0,if_neg (by simpa using h0)];have hpos:0<l.length:=Zh.2 h0;unfold qR ie
  by_cases k1:kind=1
  ·rw [if_pos (by simpa using k1),Eo _ hl,if_pos k1,Jj]
   obtain⟨h1,h2,_⟩:=oH (l:=l);refine aV (λi=>(((bV l).take i).flatMap λr=>r.fMany::bv r.fValue,(i:Int))) (bV l).length (by simp) (λi hi=>?_) ?_
   ·dsimp only
    have hm:=h1 _ (Z1 hi);have hr:=hR _ hm.2.2
    have hb:=oG ((bV l).take i) (λr=>r.fMany::bv r.fValue) 67 λx hx=>by
     have:=(ek (hR _ (h1 x (Ze hx)).2.2)).2;simp;omega
    have hb':=(ek hr).2;simp only[Zk] at hb;have hg:((bV l).map lZ)[i]'(by simpa using hi)=lZ (bV l)[i]:=by simp
    unfold rW;rw[if_pos (by simpa using hi),ay (by simpa using hi),Jj,hg,bm,aH (by simp only[Z5];omega),Jj,Jj];unfold lZ;dsimp only;rw[pf hr,Jj,aH (by simp only[Z2,Z5];omega),Jj,aU (by omega),mg hi];have:(bV l)[i].fMany%256=(bV l)[i].fMany:=by omega
    rw[this];simp
   ·dsimp only
    unfold rW ie;rw[if_neg (by simp),Z3];rfl
  rw[if_neg (by simpa using k1),if_neg k1]
  by_cases k2:kind=2
  ·rw[if_pos (by simpa using k2),Dw hpos (by omega),if_pos k2];rfl
  rw[if_neg (by simpa using k2),if_neg k2]
  by_cases k3:kind=3
  ·rw[if_pos (by simpa using k3),Er hR (by omega) h0,if_pos k3];rfl
  rw[if_neg (by simpa using k3),if_neg k3]
  by_cases k4:kind=4
  ·rw[if_pos (by simpa using k4),Dy (λv hv=>(h v hv).int) hpos (by omega),if_pos k4];rfl
  rw[if_neg (by simpa using k4),if_neg k4];refine aV (λi=>((l.take i).flatMap bv,(i:Int))) l.length (by simp) (λi hi=>?_) ?_
  ·dsimp only
   unfold rX;have h3:=jn (l:=l.take i) λv hv=>hR v (Ze hv);have h2:=(ek (hR _ (Z1 hi))).2;simp only[Zk] at h3;rw[if_pos (by simpa using hi),ay hi,Jj,pf (hR _ (Z1 hi)),Jj,aH (by omega),Jj,aU (by omega),mg hi]
  ·dsimp only
   unfold rX ie;rw[if_neg (by simp),Z3];rfl
 ·rw [if_pos (by simpa using he),if_pos rfl]
  have:(enc kind l).1=[]:=by
   unfold enc at he ⊢
   repeat' split
   all_goals first|rfl|(exfalso;simp_all)
  congr 1;exact Yj this.symm rfl
theorem fD {kind:Int}{l:List Ap}{b:List Int}(h:enc kind l=(b,0)):(0≤kind∧kind≤4)∧l.length≤64∧l.all right=true∧((kind=2∨kind=4)→jP l=true)∧((l=[]∧b=[])∨(l≠[]∧b=qR kind l)):=by
 unfold enc at h;split at h
 ·cases h
 rename_i h1;split at h
 ·cases h
 rename_i h2;split at h
 ·cases h
 rename_i h3;split at h
 ·cases h
 rename_i h4;refine⟨by omega,by omega,by simpa using h3,λh5=>?_,?_⟩
 ·cases hi:jP l with
  |true=>rfl
  |false=>exact absurd ⟨h5,hi⟩ h4
 ·split at h
  ·rename_i h6;left;exact⟨h6,(Prod.mk.inj h).1.symm⟩
  ·rename_i h6;right;exact⟨h6,(Prod.mk.inj h).1.symm⟩
def PN (kind:Int)(b:List Int)(many:Nat)(g:List Ap)(ok:Bool):Prop:= ∀l:List Ap,(∀v∈l,Rgt v)→l.length=many→enc kind l=(b,0)→g=l∧ok=true
def kj (kind:Int)(b:List Int)(many:Nat)(x:List Ap×aj):Prop:=(∀v∈x.1,VOK v)∧x.1.length≤1048576∧PN kind b many x.1 x.2.fOk
theorem Et {l:List Ap}{k:Nat}(h:k<l.length):ph (l.drop k)=bv l[k]++ph (l.drop (k+1)):=by
 unfold ph;rw[Zg h,Zw]
theorem wQ {v:Ap}(h:Rgt v){r:List Int}{ok:Bool}{rest:List Int}(hr:r=bv v++rest)(hb:Byt r)(hl:r.length<140737488355328):dJ ⟨r,ok⟩=some (v,⟨rest,ok⟩):=by
 rw[Dn hb hl];dsimp only;rw[hr,qy h];dsimp only;rw[Xf]
theorem wR {r:aj}(hb:Byt r.fB)(hl:r.fB.length<140737488355328):∃v r',dJ r=some (v,r')∧Rgt v∧Byt r'.fB∧r'.fB.length≤r.fB.length∧(r.fOk=false→r'.fOk=false):=by
 rw[Dn hb hl];cases hp:cg r.fB with
 |none=>exact⟨_,_,rfl,.null,hb,Zm _,λ_=>rfl⟩
 |some x=>
  obtain⟨v,n⟩:=x;exact⟨_,_,rfl,(mM hb hp).1,hb.drop _,by simp,λh=>h⟩
theorem Eu {b:List Int}{many:Nat}(hb:Byt b)(hl:b.length<140737488355328)(hm:1≤many∧many≤64):∃x,bU ⟨b,true⟩ 0 (many:Int)=some x∧kj 0 b many x:=by
 unfold bU;rw[if_pos (by decide)];refine gB (I:=λs:List Ap×aj=>Byt s.2.fB∧s.2.fB.length<140737488355328∧(∀v∈s.1,Rgt v)∧s.1.length≤many∧∀l:List Ap,(∀v∈l,Rgt v)→l.length=many→b=ph l→s.1=l.take s.1.length∧s.2=⟨ph (l.drop s.1.length),true⟩) (μ:=λs=>many - s.1.length) (Q:=kj 0 b many) ?_ ⟨hb,hl,by simp,by simp,λl _ _ h=>⟨rfl,by rw[h];rfl⟩⟩;rintro ⟨acc,r⟩ ⟨h1,h2,h3,h4,h5⟩;dsimp only at*
 have hend:acc.length=many∨r.fOk=false→kj 0 b many (acc,r):=λh=>⟨λv hv=>(h3 v hv).ok,by dsimp only;omega,λl hr hlen he=>by
  obtain⟨_,_,_,_,he⟩:=fD he
  have he':b=ph l:=by
   rcases he with⟨e,_⟩|⟨_,e⟩
   ·subst e;simp at hlen;omega
   ·exact e
  obtain⟨g1,g2⟩:=h5 l hr hlen he';subst g2;rcases h with h|h
  ·rw[h,←hlen,Z3] at g1;exact⟨g1,rfl⟩
  ·cases h⟩
 unfold nA jY ci
 by_cases hlt:acc.length<many
 ·rw [if_pos (decide_eq_true (by omega))]
  cases hok:r.fOk with
  |false=>right;exact⟨_,rfl,hend (.inr hok)⟩
  | true =>
   left;rw[if_pos rfl];obtain⟨v,r',e1,e2,e3,e4,_⟩:=wR h1 h2;rw[e1,Jj,aH (by simp;omega),Jj];refine⟨_,rfl,⟨e3,by dsimp only;omega,λx hx=>?_,by simp;omega,λl hr hlen he=>?_⟩,by simp;omega⟩
   ·rcases Zc.1 hx with hx|hx
    ·exact h3 x hx
    ·have:x=v:=by simpa using hx
     subst this;exact e2
   ·obtain ⟨g1,g2⟩:=h5 l hr hlen he
    subst g2;have hk:acc.length<l.length:=by omega
    have:=wQ (hr _ (Z1 hk)) (ok:=true) (Et hk) h1 h2;rw[this] at e1;obtain⟨rfl,rfl⟩:=Prod.mk.inj (Option.some.inj e1);refine⟨?_,by simp⟩;simp only[Z2,Z5];rw[Z0 hk,←g1]
 ·right
  rw[if_neg (by simp;omega),if_neg (by decide)];exact⟨_,rfl,hend (.inl (by omega))⟩
theorem PO:∀n:_root_.Fin 256,rf 1 ((n.val:Nat):Int)=some (0,((n.val:Nat):Int)):=by decide+kernel
theorem Hj (v:Ap){n:Nat}(hn:n≤255):eZ [v] (n:Int)=some (Z8 n v):=by
 have hm:rf 1 (n:Int)=some (0,(n:Int)):=PO ⟨n,by omega⟩;have e1:X5.wrap ((([v]:List Ap).length:Nat):Int)=1:=by rw[bD];rfl
 have e2:X5.wrap (n:Int)=(n:Int):=by rw[bD];omega
 unfold eZ gX uY;rw[if_neg (by simp),e1,e2,hm,Jj,Jj];unfold ff gW;dsimp only;rw[if_neg (by simp),if_neg (by simp;omega)];rw[ak (by omega),u6 (by omega),Jj];refine oF (I:=λs:Int×List Ap=>∃k:Nat,s.1=(k:Int)∧k≤n∧(0<n→0<k)∧s.2=Z8 k v++Z8 (n - k) Ap.zero) (μ:=λs=>n - s.1.toNat) ?_ ?_
 ·rintro ⟨_,_⟩ ⟨k,rfl,hk,hk0,rfl⟩
  dsimp only;unfold gV gU;have hlen:(Z8 k v++Z8 (n - k) Ap.zero).length=n:=by simp;omega
  by_cases hlt:k<n
  ·left
   have hv1:vw (Z8 k v++Z8 (n - k) Ap.zero) (k:Int) ((Z8 k v++Z8 (n - k) Ap.zero).length:Int)=some (k,n - k):=by
    unfold vw;rw[if_pos (by omega),hlen];simp
   have hv2:vw (Z8 k v++Z8 (n - k) Ap.zero) 0 (k:Int)=some (0,k):=by
    unfold vw;rw[if_pos (by omega)];simp
   have hmn:Nat.ble (min k (n - k)) cO=true:=Nat.ble_eq_true_of_le (by unfold cO;omega);rw[if_pos (by rw[hlen];exact decide_eq_true (by omega)),hv1,Jj,hv2,Jj];dsimp only;rw[sg hmn,Jj]
   have hc:cpv (Z8 k v++Z8 (n - k) Ap.zero) (k,n - k) (0,k)=some (Z8 (k+min k (n - k)) v++Z8 (n - (k+min k (n - k))) Ap.zero):=by
    unfold cpv;rw[if_pos (by dsimp only;omega)];dsimp only;unfold spl
    have e3:((Z8 k v++Z8 (n - k) Ap.zero).drop 0).take (min k (n - k))=Z8 (min k (n - k)) v:=by
     rw[Xe,List.take_append_of_le_length (by simp;omega)];rw[List.take_replicate];congr 1;omega
    rw[e3,Xi (by simp),Xm,List.drop_append,List.drop_replicate,List.drop_replicate,Xm];have e4:k - (k+min k (n - k))=0:=by omega
    have e5:n - k - (k+min k (n - k) - k)=n - (k+min k (n - k)):=by omega
    rw[e4,e5,←Zi,←List.replicate_append_replicate];simp
   rw[hc,Jj];refine⟨_,rfl,⟨k+min k (n - k),?_,by omega,by omega,rfl⟩,?_⟩
   ·dsimp only;rw[ak (by omega)];omega
   ·dsimp only;rw [ak (by omega)]
    have:=hk0 (by omega);omega
  ·right
   have:k=n:=by omega
   subst this;rw[if_neg (by rw[hlen];simp)];simp
 ·refine ⟨min 1 n,by simp,by omega,by omega,?_⟩
  dsimp only;unfold cpy;rcases Nat.eq_zero_or_pos n with h|h
  ·subst h;rfl
  ·have:min 1 n=1:=by omega
   rw[this];have e:n=(n - 1)+1:=by omega
   rw[e,List.replicate_succ];simp
def tk1 (r:aj):List Int×aj:=match r.fB with|[]=>([0],⟨[],false⟩)|c::t=>([c],⟨t,r.fOk⟩)
theorem take_one (r:aj):cE r 1=some (tk1 r):=by
 have:=AW (r:=r) (n:=1) (by omega);rw[show((1:Nat):Int)=1 from rfl] at this;rw[this];obtain⟨b,ok⟩:=r;unfold tk1;cases b with
 |nil=>rfl
 |cons c t=>simp
theorem u7 (c:Int)(t:List Int)(ok:Bool):tk1 ⟨c::t,ok⟩=([c],⟨t,ok⟩):=rfl
theorem xI (r:aj)(h:Byt r.fB):∃c r1,tk1 r=([c],r1)∧(0≤c∧c<256)∧Byt r1.fB∧r1.fB.length≤r.fB.length∧(r1.fOk=false∨(r.fB=c::r1.fB∧r1.fOk=r.fOk)):=by
 obtain⟨b,ok⟩:=r;cases b with
 |nil=>exact⟨0,⟨[],false⟩,rfl,by decide,.nil,Zm _,.inl rfl⟩
 |cons c t=>exact⟨c,⟨t,ok⟩,rfl,h.head,h.tail,by simp,.inr ⟨rfl,rfl⟩⟩
def zP (rs:List aT):List Int:=rs.flatMap λr=>r.fMany::bv r.fValue
theorem zQ {rs:List aT}{j:Nat}(h:j<rs.length):gK (rs.take (j+1))=gK (rs.take j)++Z8 rs[j].fMany.toNat rs[j].fValue:=by
 unfold gK;rw[Z0 h,X9,Y8]
theorem wS (rs:List aT)(j:Nat):gK rs=gK (rs.take j)++gK (rs.drop j):=by
 unfold gK;rw[←X9,Zf]
theorem F1 {b:List Int}{many:Nat}(hb:Byt b)(hl:b.length<140737488355328)(hm:1≤many∧many≤64):∃x,bU ⟨b,true⟩ 1 (many:Int)=some x∧kj 1 b many x:=by
 unfold bU;rw[if_neg (by decide),if_pos (by decide)];refine gB (I:=λs:List Ap×aj=>Byt s.2.fB∧s.2.fB.length<140737488355328∧(∀v∈s.1,Rgt v)∧s.1.length≤many∧∀l:List Ap,(∀v∈l,Rgt v)→l.length=many→b=xH l→∃j,j≤(bV l).length∧s.1=gK ((bV l).take j)∧s.2=⟨zP ((bV l).drop j),true⟩) (μ:=λs=>if s.2.fOk then s.2.fB.length+1 else 0) (Q:=kj 1 b many) ?_ ⟨hb,hl,by simp,by simp,λl _ _ h=>⟨0,by omega,rfl,by rw[h];rfl⟩⟩;rintro ⟨acc,r⟩ ⟨h1,h2,h3,h4,h5⟩;dsimp only at*
 have hend:acc.length=many∨r.fOk=false→kj 1 b many (acc,r):=λh=>⟨λv hv=>(h3 v hv).ok,by dsimp only;omega,λl hr hlen he=>by
  obtain⟨_,_,_,_,he⟩:=fD he
  have he':b=xH l:=by
   rcases he with⟨e,_⟩|⟨_,e⟩
   ·subst e;simp at hlen;omega
   ·exact e
  obtain⟨j,g0,g1,g2⟩:=h5 l hr hlen he';subst g2;rcases h with h|h
  ·refine ⟨?_,rfl⟩
   have h6:=wS (bV l) j;rw[oH.2.2,←g1] at h6;have h7:=congrArg List.length h6;simp only[Z2] at h7;have h8:gK ((bV l).drop j)=[]:=Z9 (by omega);rw[h8,Xj] at h6;exact h6.symm
  ·cases h⟩
 unfold nB jZ ci
 by_cases hlt:acc.length<many
 ·rw [if_pos (decide_eq_true (by omega))]
  cases hok:r.fOk with
  |false=>right;exact⟨_,rfl,hend (.inr hok)⟩
  | true =>
   left;rw[if_pos rfl,take_one,Jj];obtain⟨rb,rok⟩:=r;dsimp only at*;subst hok;obtain⟨c,r1,e1,hc,hr1,hr2,hr3⟩:=xI ⟨rb,true⟩ h1;replace hr2:r1.fB.length<140737488355328:=by dsimp only at hr2;omega
   dsimp only at hr3;rw[e1];dsimp only;rw[dK,Jj];obtain⟨v,r',f1,f2,f3,f4,f5⟩:=wR hr1 hr2;obtain⟨cn,rfl⟩:=Zb hc.1
   have hn:(if (Za.wrap ((many:Int) - (acc.length:Int)))<(Za.wrap (cn:Int)) then Za.wrap ((many:Int) - (acc.length:Int)) else Za.wrap (cn:Int))=((min cn (many - acc.length):Nat):Int):=by
    rw[ak (by omega),ak (by omega)];split<;>omega
   rw[f1,Jj];dsimp only;rw[hn,Hj v (by omega),Jj,aH (by simp;omega),Jj];refine⟨_,rfl,⟨f3,by dsimp only;omega,λx hx=>?_,by simp;omega,λl hr hlen he=>?_⟩,?_⟩
   ·rcases Zc.1 hx with hx|hx
    ·exact h3 x hx
    ·have:=(Y2.1 hx).2
     subst this;exact f2
   ·obtain ⟨j,g0,g1,g2⟩:=h5 l hr hlen he
    obtain⟨rfl,_⟩:=aj.mk.inj g2;obtain⟨q1,q2,q3⟩:=oH (l:=l)
    have hj:j<(bV l).length:=by
     rcases Nat.lt_or_ge j (bV l).length with h|h
     ·exact h
     ·rw [Xh h,q3] at g1
      rw[g1] at hlt;omega
    have hd:zP ((bV l).drop j)=(bV l)[j].fMany::(bv (bV l)[j].fValue++zP ((bV l).drop (j+1))):=by
     unfold zP;rw[Zg hj,Zw];rfl
    have hm1:=q1 _ (Z1 hj)
    have hr4:((cn:Int)::r1.fB=(bV l)[j].fMany::(bv (bV l)[j].fValue++zP ((bV l).drop (j+1))))∧r1.fOk=true:=by
     rcases hr3 with h|⟨h,h'⟩
     ·exfalso
      rw[hd,u7] at e1;rw[←(Prod.mk.inj e1).2] at h;cases h
     ·rw[←hd,←h];exact⟨rfl,h'⟩
    obtain⟨hr5,hr6⟩:=hr4;obtain⟨hc1,hr7⟩:=List.cons.inj hr5;obtain⟨r1b,r1o⟩:=r1;dsimp only at*;subst hr6;have hv:=wQ (hr _ hm1.2.2) (ok:=true) hr7 hr1 hr2;rw[hv] at f1;obtain⟨rfl,rfl⟩:=Prod.mk.inj (Option.some.inj f1);refine⟨j+1,by omega,?_,by simp⟩;have hel:=zQ hj;have hsp:=wS (bV l) (j+1);rw[q3,hel,←g1] at hsp;have:=congrArg List.length hsp;simp only[Z2,Xm] at this;rw[hel,←g1];congr 2;omega
   ·dsimp only
    rcases hr3 with h|⟨h,h'⟩
    ·rw[if_neg (by rw[f5 h];decide)];simp
    ·have:=congrArg List.length h
     simp only[Z6] at this;simp only[if_true];split<;>omega
 ·right
  rw[if_neg (by simp;omega),if_neg (by decide)];exact⟨_,rfl,hend (.inl (by omega))⟩
theorem zR {r:aj}(hb:Byt r.fB):ge r=some (if r.fB.length<8 then (0,⟨[],false⟩) else (ez (r.fB.take 8),⟨r.fB.drop 8,r.fOk⟩)):=by
 have key:∀(t:List Int) (r':aj),Byt t→t.length=8→am (λs:(Int×Int)=>gC (t,r') s.1 s.2) (0,0)=some (ez t,r'):=by
  intro t r' ht hl;refine aV (λi=>(ez (t.take i),(i:Int))) 8 (by simp[ez]) (λi hi=>?_) ?_
  ·dsimp only
   unfold gC;have hi':i<t.length:=by omega
   have hbd:=AQ (t.take i) (ht.take i);have hci:=ht t[i] (Z1 hi')
   have hp:(256:Int)^(t.take i).length≤256^7:=by
    have:(t.take i).length≤7:=by simp;omega
    have h9:=Xn (show 0<256 by omega) this;have h8:=Int.ofNat_le.2 h9;simpa[Xs] using h8
   have hsh:=zH (x:=ez (t.take i)) (k:=8) (by omega);rw[show((8:Nat):Int)=8 from rfl] at hsh
   have e:ez (t.take (i+1))=ez (t.take i)*256+t[i]:=by
    rw[Z0 hi',tV]
   have e1:ez (t.take i)*2^8%18446744073709551616=ez (t.take i)*2^8:=by omega
   have e2:t[i]%18446744073709551616=t[i]:=by omega
   dsimp only;rw[if_pos (decide_eq_true (by omega)),ay hi',Jj,aU (by omega),hsh,bD,e,e1,e2,Ha 8 (by omega) (by omega) (by omega) (by omega)]
   rfl
  ·unfold gC mY
   dsimp only;rw[if_neg (by rw[hl];simp),Xh (by omega)];rfl
 unfold ge;have h8:=AW (r:=r) (n:=8) (by omega);rw[show((8:Nat):Int)=8 from rfl] at h8;rw[h8,Jj]
 by_cases h:r.fB.length<8
 ·rw[if_pos h,if_pos h,key _ _ (λc hc=>by rw[Y4 hc];decide) (by simp)];rfl
 ·rw[if_neg h,if_neg h,key _ _ (hb.take _) (by simp;omega)]
theorem Hk {r:aj}(hb:Byt r.fB):∃x,fa r=some x∧(Byt x.2.fB∧x.2.fB.length≤r.fB.length):=by
 unfold fa;refine gB (I:=λs:Int×Int×aj=>∃k:Nat,s.2.1=(k:Int)∧k≤76∧Byt s.2.2.fB∧s.2.2.fB.length≤r.fB.length) (μ:=λs=>77 - s.2.1.toNat) (Q:=λx:Int×aj=>Byt x.2.fB∧x.2.fB.length≤r.fB.length) ?_ ⟨0,rfl,by omega,hb,Zm _⟩;rintro ⟨z,_,r1⟩ ⟨k,rfl,hk,h1,h2⟩;dsimp only at*;unfold jX gY nz
 by_cases h70:(k:Int)<70
 ·rw [if_pos (decide_eq_true h70)]
  cases hok:r1.fOk with
  |false=>right;exact⟨_,rfl,h1,h2⟩
  | true =>
   rw[if_pos rfl,take_one,Jj];obtain⟨c,r2,e1,hc,hr1,hr2,_⟩:=xI r1 h1;rw[e1];dsimp only;rw[dK,Jj,uo,Jj]
   by_cases h128:c<128
   ·right;rw[if_pos (decide_eq_true h128)];exact⟨_,rfl,hr1,by dsimp only;omega⟩
   ·left;rw [if_neg (by simpa using h128)]
    refine⟨_,rfl,⟨k+7,?_,by omega,hr1,by dsimp only;omega⟩,?_⟩
    ·dsimp only;rw[ak (by omega)];rfl
    ·dsimp only;rw[ak (by omega)];omega
 ·right;rw[if_neg (by simpa using h70),if_neg (by decide)];exact⟨_,rfl,h1,h2⟩
theorem Mp:∀n:_root_.Fin 256,n.val&&&127=n.val%128:=by decide+kernel
theorem F2 (q:Nat):∃(c:Nat) (t:List Int),fq q=(c:Int)::t∧c<256∧c%128=q%128∧((c<128∧q<128∧t=[])∨(128≤c∧128≤q∧t=fq (q/128))):=by
 by_cases h:q<128
 ·exact⟨q,[],pW h,by omega,rfl,.inl ⟨h,h,rfl⟩⟩
 ·exact⟨q%128+128,_,sm h,by omega,by omega,.inr ⟨by omega,by omega,rfl⟩⟩
theorem Hl {z:Nat}(hz:z<18446744073709551616)(rest:List Int):fa ⟨fq z++rest,true⟩=some ((z:Int),⟨rest,true⟩):=by
 unfold fa;have h64:(2:Nat)^64=18446744073709551616:=by decide
 refine oF (I:=λs:Int×Int×aj=>∃i:Nat,i≤9∧s=(((z%2^(7*i):Nat):Int),((7*i:Nat):Int),⟨fq (z/2^(7*i))++rest,true⟩)) (μ:=λs=>77 - s.2.1.toNat) ?_ ⟨0,by omega,by simp[Nat.mod_one]⟩;rintro _ ⟨i,hi,rfl⟩;dsimp only;unfold jX gY;obtain⟨c,t,e1,hc,hcm,hcase⟩:=F2 (z/2^(7*i))
 have hqz:2^(7*i)*(z/2^(7*i)%128)+z%2^(7*i)≤z:=by
  have h1:=Nat.div_add_mod z (2^(7*i));have h2:2^(7*i)*(z/2^(7*i)%128)≤2^(7*i)*(z/2^(7*i)):=Nat.mul_le_mul_left _ (Nat.mod_le _ _);omega
 have hnext:z%2^(7*(i+1))=2^(7*i)*(z/2^(7*i)%128)+z%2^(7*i):=by
  rw[show 7*(i+1)=7*i+7 by omega,Nat.pow_add,Nat.mod_mul,show(2:Nat)^7=128 from rfl];omega
 have hdiv:z/2^(7*(i+1))=z/2^(7*i)/128:=by
  rw[show 7*(i+1)=7*i+7 by omega,Nat.pow_add,Nat.div_div_eq_div_mul]
 have hlt:z%2^(7*i)<2^(7*i):=Nat.mod_lt _ (Nat.pow_pos (by decide))
 have hor:bOr .u64 ((z%2^(7*i):Nat):Int) (ew .u64 (X5.wrap (dm .u8 (c:Int) 127)) ((7*i:Nat):Int))=((z%2^(7*(i+1)):Nat):Int):=by
  have h1:dm .u8 (c:Int) 127=((c%128:Nat):Int):=by
   have:=Mp ⟨c,hc⟩;simp only at this;rw[show(127:Int)=((127:Nat):Int) from rfl,Mi hc (by omega),this]
  rw[h1,hcm,bD,zH (by omega)]
  have h2:(((z/2^(7*i)%128:Nat):Int))%18446744073709551616=((z/2^(7*i)%128:Nat):Int):=by
   generalize z/2^(7*i)=q;omega
  have h3:(((z/2^(7*i)%128:Nat):Int))*2^(7*i)=((2^(7*i)*(z/2^(7*i)%128):Nat):Int):=by
   rw[Int.natCast_mul,Xs,Int.mul_comm];rfl
  rw[h2,h3]
  have h4:((2^(7*i)*(z/2^(7*i)%128):Nat):Int)%18446744073709551616=((2^(7*i)*(z/2^(7*i)%128):Nat):Int):=by
   generalize 2^(7*i)*(z/2^(7*i)%128)=u at*;omega
  rw[h4,I9 (by omega) (by omega),Nat.or_comm,←Xq hlt,hnext]
 rw[if_pos (decide_eq_true (by omega)),if_pos rfl,take_one,Jj,e1,Xb,u7];dsimp only;rw[dK,Jj,uo,Jj,hor];rcases hcase with⟨g1,g2,rfl⟩|⟨g1,g2,rfl⟩
 ·right
  rw[if_pos (decide_eq_true (by omega))]
  have:z%2^(7*(i+1))=z:=by
   apply Nat.mod_eq_of_lt;rw[show 7*(i+1)=7*i+7 by omega,Nat.pow_add,Nat.mul_comm];have:=(Nat.div_lt_iff_lt_mul (Nat.pow_pos (n:=7*i) (show 0<2 by decide))).1 g2;exact this
  rw[this];rfl
 ·left
  rw[if_neg (by simp;omega)];refine⟨_,rfl,⟨i+1,?_,?_⟩,?_⟩
  ·have h1:128*2^(7*i)≤z:=(Nat.le_div_iff_mul_le (Nat.pow_pos (by decide))).1 g2
   rcases Nat.lt_or_ge i 9 with h|h
   ·omega
   ·have:i=9:=by omega
    subst this;have:(128:Nat)*2^(7*9)=1180591620717411303424:=by decide
    omega
  ·rw [hdiv,ak (by omega)]
   congr 2
  ·dsimp only;rw[ak (by omega)];omega
theorem K0 {a:Int}(ha:cX a):dV .i64 a (-1)= -a - 1∧dV .i64 a 0=a:=by
 unfold dV;rw[jo,jo]
 have hb:((Zd 64 a).toNat:Int)=a%18446744073709551616:=by
  rw[Zl];omega
 constructor
 ·show (((Zd 64 a^^^Zd 64 (-1)).toNat:Nat)+9223372036854775808:Int)%18446744073709551616 - 9223372036854775808=_
  have h2:Zd 64 (-1)=BitVec.allOnes 64:=by decide
  rw[h2,BitVec.xor_allOnes,BitVec.toNat_not];have:=(Zd 64 a).isLt;have e:(2:Nat)^64=18446744073709551616:=by decide
  unfold cX at ha;omega
 ·show (((Zd 64 a^^^Zd 64 0).toNat:Nat)+9223372036854775808:Int)%18446744073709551616 - 9223372036854775808=_
  have h2:Zd 64 0=0#64:=by decide
  rw[h2,BitVec.xor_zero];unfold cX at ha;omega
theorem PP {d:Int}(h:cX d):dV .i64 (Za.wrap (aF .u64 (zig d:Int) 1)) (Za.wrap (0 - (Za.wrap (dm .u64 (zig d:Int) 1))))=d:=by
 have hz:=nI h;have h1:aF .u64 (zig d:Int) 1=((zig d/2:Nat):Int):=by have:=qm (x:=(zig d:Int)) (k:=1) (by omega);simpa using this
 have h2:dm .u64 (zig d:Int) 1=((zig d%2:Nat):Int):=by
  rw[show(1:Int)=((1:Nat):Int) from rfl,J1 hz (by omega),Nat.and_one_is_mod]
 rw[h1,h2,ak (n:=((zig d/2:Nat):Int)) (by omega),ak (n:=((zig d%2:Nat):Int)) (by omega)];have hr:cX ((zig d/2:Nat):Int):=by unfold cX;omega
 obtain⟨g1,g2⟩:=K0 hr;unfold zig at*
 by_cases hd:d<0
 ·rw [if_pos hd] at*
  have:(0 - (((-2*d - 1).toNat%2:Nat):Int))= -1:=by omega
  rw[this,show Za.wrap (-1)= -1 from by decide,g1];omega
 ·rw [if_neg hd] at*
  have:(0 - (((2*d).toNat%2:Nat):Int))=0:=by omega
  rw[this,show Za.wrap 0=0 from by decide,g2];omega
theorem Hm {n m:Int}(h:cX m):Za.wrap (n+Za.wrap (m - n))=m:=by
 rw[jo,jo];unfold cX at h;omega
theorem K1 {v:Ap}(h:Rgt v)(hk:v.fKind=2):v=iR v.fInt:=by
 cases h<;>first|rfl|(simp at hk)
theorem th {l:List Ap}(h:jP l=true)(hr:∀v∈l,Rgt v):∀v∈l,v=iR v.fInt∧cX v.fInt:=λv hv=>by
 have:=List.all_eq_true.1 h v hv;exact⟨K1 (hr v hv) (by simpa using this),(hr v hv).ok.int⟩
theorem Ev {b:List Int}{many:Nat}(hb:Byt b)(hl:b.length<140737488355328)(hm:1≤many∧many≤64):∃x,bU ⟨b,true⟩ 2 (many:Int)=some x∧kj 2 b many x:=by
 unfold bU;rw[if_neg (by decide),if_neg (by decide),if_pos (by decide),zR hb,Jj];unfold eG;rw[Jj,aH (by simp),Jj];generalize hx:(if ({ fB:=b,fOk:=true }:aj).fB.length<8 then ((0:Int),({ fB:=[],fOk:=false }:aj)) else (ez (({ fB:=b,fOk:=true }:aj).fB.take 8),⟨({ fB:=b,fOk:=true }:aj).fB.drop 8,true⟩))=x0
 have hx1:Byt x0.2.fB∧x0.2.fB.length<140737488355328:=by
  rw[←hx];dsimp only;split
  ·exact⟨.nil,by simp⟩
  ·exact⟨hb.drop _,by simp;omega⟩
 refine gB (I:=λs:List Ap×Int×aj=>Byt s.2.2.fB∧s.2.2.fB.length<140737488355328∧(∀v∈s.1,VOK v)∧s.1.length≤many∧∀l:List Ap,(∀v∈l,Rgt v)→l.length=many→jP l=true→b=nJ (l.map (·.fInt))→∃k,s.1.length=k+1∧s.1=l.take (k+1)∧s.2.1=(l.map (·.fInt)).getD k 0∧s.2.2=⟨((Zv (many - 1)).drop k).flatMap (jO (l.map (·.fInt))),true⟩) (μ:=λs=>many - s.1.length) (Q:=kj 2 b many) ?_ ⟨hx1.1,hx1.2,λv hv=>?_,by simp;omega,λl hr hlen hi he=>?_⟩
 ·rintro ⟨acc,n,r⟩ ⟨h1,h2,h3,h4,h5⟩
  dsimp only at*
  have hend:acc.length=many∨r.fOk=false→kj 2 b many (acc,r):=λh=>⟨h3,by dsimp only;omega,λl hr hlen he=>by
   obtain⟨_,_,_,hi,he⟩:=fD he
   have he':b=nJ (l.map (·.fInt)):=by
    rcases he with⟨e,_⟩|⟨_,e⟩
    ·subst e;simp at hlen;omega
    ·exact e
   obtain⟨k,g1,g2,g3,g4⟩:=h5 l hr hlen (hi (.inl rfl)) he';subst g4;rcases h with h|h
   ·rw[←g1,h,←hlen,Z3] at g2;exact⟨g2,rfl⟩
   ·cases h⟩
  unfold nC j0 ci
  by_cases hlt:acc.length<many
  ·rw [if_pos (decide_eq_true (by omega))]
   cases hok:r.fOk with
   |false=>right;exact⟨_,rfl,hend (.inr hok)⟩
   | true =>
    left;rw[if_pos rfl];obtain⟨⟨z,r'⟩,e1,e2,e3⟩:=Hk h1;rw[e1,Jj];unfold eG;rw[Jj,aH (by simp;omega),Jj];dsimp only at e2 e3 ⊢;refine⟨_,rfl,⟨e2,by dsimp only;omega,λx hx=>?_,by simp;omega,λl hr hlen hi he=>?_⟩,by simp;omega⟩
    ·rcases Zc.1 hx with hx|hx
     ·exact h3 x hx
     ·have:x=iR (Za.wrap (n+(dV .i64 (Za.wrap (aF .u64 z 1)) (Za.wrap (0 - (Za.wrap (dm .u64 z 1))))))):=by simpa using hx
      subst this;exact(Rgt.int _ (lz _)).ok
    ·obtain ⟨k,g1,g2,g3,g4⟩:=h5 l hr hlen hi he
     have hk:k+1<l.length:=by omega
     have hin:=th hi hr;have hns:∀i (h:i<l.length),(l.map (·.fInt)).getD i 0=l[i].fInt:=λi h=>by rw[A3 (by simpa using h)];simp
     have hd:(Zv (many - 1)).drop k=k::(Zv (many - 1)).drop (k+1):=by
      rw[Zg (by simp;omega)];simp
     rw[hd,Zw] at g4
     have hds:jO (l.map (·.fInt)) k=fq (zig (Za.wrap (l[k+1].fInt - l[k].fInt))):=by
      unfold jO;rw[hns _ hk,hns _ (by omega)]
     rw[hds] at g4;rw[g4,Hl (nI (lz _))] at e1;obtain⟨rfl,rfl⟩:=Prod.mk.inj (Option.some.inj e1);rw[PP (lz _),g3,hns _ (by omega),Hm (hin _ (Z1 hk)).2];refine⟨k+1,by simp;omega,?_,(hns _ hk).symm,rfl⟩;dsimp only;rw[Z0 hk,g2];congr 2;exact(hin _ (Z1 hk)).1.symm
  ·right
   rw[if_neg (by simp;omega),if_neg (by decide)];exact⟨_,rfl,hend (.inl (by omega))⟩
 ·have:v=iR (Za.wrap x0.1):=by simpa using hv
  subst this;exact(Rgt.int _ (lz _)).ok
 ·have h0:0<l.length:=by omega
  have hin:=th hi hr;have hns:∀i (h:i<l.length),(l.map (·.fInt)).getD i 0=l[i].fInt:=λi h=>by rw[A3 (by simpa using h)];simp
  have h64:=(hin _ (Z1 h0)).2
  have hb8:b=be8 (l[0].fInt%18446744073709551616)++(Zv (many - 1)).flatMap (jO (l.map (·.fInt))):=by
   rw[he];unfold nJ;rw[hns 0 h0,Zo,hlen]
  have hlen8: ¬ b.length<8:=by rw[hb8];simp[cd]
  dsimp only at hx;rw[if_neg hlen8] at hx;have h1:b.take 8=be8 (l[0].fInt%18446744073709551616):=by rw[hb8];exact Xi (cd _)
  have h2:b.drop 8=(Zv (many - 1)).flatMap (jO (l.map (·.fInt))):=by rw[hb8];exact List.drop_left' (cd _)
  rw[h1,h2,yK (by omega) (by omega)] at hx;subst hx;refine⟨0,rfl,?_,?_,rfl⟩
  ·dsimp only
   rw[Z0 h0,yL h64];simp only[List.take_zero,Zy];congr 1;exact(hin _ (Z1 h0)).1.symm
  ·dsimp only;rw[hns 0 h0,yL h64]
theorem BO (r:aj)(many w:Nat):(sj r many w).1.length=many∧(∀x∈(sj r many w).1,∃n:Nat,x=(n:Int)∧n<18446744073709551616):=by
  unfold sj;split
  ·exact⟨by simp,λx hx=>⟨0,(Y2.1 hx).2,by decide⟩⟩
  split
  ·exact⟨by simp,λx hx=>⟨0,(Y2.1 hx).2,by decide⟩⟩
  · rename_i h _
    refine⟨by simp,λx hx=>?_⟩;obtain⟨i,_,rfl⟩:=Zz.1 hx;refine⟨_,rfl,?_⟩;have h1:=mO (λk=>eF r.fB (i*w+k)) w;have h2:(2:Nat)^w≤2^64:=Xn (by decide) (by omega);have h3:(2:Nat)^64=18446744073709551616:=by decide
    unfold unp;omega
theorem yf {pl:List Int}{w:Nat}(hw:w≤64)(h:∀x∈pl,0≤x∧x<2^w):sj ⟨cN pl w,true⟩ pl.length w=(pl,⟨[],true⟩):=by
  have hl:(cN pl w).length=(pl.length*w+7)/8:=fM _ _ _;unfold sj;rw[if_neg (by omega),if_neg (by dsimp only;omega)];dsimp only;congr 1
  · apply List.ext_getElem
    ·simp
    · intro i h1 h2
      have:=FV pl w i [] h2 (h _ (Z1 h2));rw[Xj] at this;simp[this]
  ·rw[←hl,List.drop_length]
theorem F3 {b : List Int} {many : Nat} (hb : Byt b) (hl : b.length < 140737488355328) (hm : 1 ≤ many ∧ many ≤ 64) :∃ x, bU ⟨b, true⟩ 3 (many : Int) = some x ∧ kj 3 b many x := by
  unfold bU;rw[if_neg (by decide),if_neg (by decide),if_neg (by decide),if_pos (by decide),take_one,Jj];obtain⟨c,r1,e1,hc,hr1,hr2,hr3⟩:=xI ⟨b,true⟩ hb;rw[e1];dsimp only at*;rw[dK,Jj];obtain⟨cn,rfl⟩:=Zb hc.1
  refine gB (I:=λs:List Ap×Int×aj=>Byt s.2.2.fB∧s.2.2.fB.length<140737488355328∧(∀v∈s.1,Rgt v)∧s.1.length≤cn∧s.2.1=(s.1.length:Int)∧∀l:List Ap,(∀v∈l,Rgt v)→l.length=many→b=ol l→s.1=(aO l).take s.1.length∧cn=(aO l).length∧s.2.2=⟨((aO l).drop s.1.length).flatMap bv++cN (l.map λv=>(ft (aO l) v:Int)) (wid ((aO l).length - 1)),true⟩) (μ:=λs=>cn - s.1.length) (Q:=kj 3 b many) ?_ ⟨hr1,by dsimp only;omega,by simp,by simp,rfl,λl hr hlen he=>?_⟩
  · rintro ⟨W, wn, r⟩ ⟨h1, h2, h3, h4, hwn, h5⟩
    dsimp only at*;subst hwn;unfold nE
    by_cases hlt:W.length<cn
    · left
      rw[if_pos (decide_eq_true (by omega))];obtain⟨v,r',f1,f2,f3,f4,f5⟩:=wR h1 h2;rw[f1,Jj,aH (by simp;omega),Jj];refine⟨_,rfl,⟨f3,by dsimp only;omega,λx hx=>?_,by simp;omega,?_,λl hr hlen he=>?_⟩,by simp;omega⟩
      · rcases Zc.1 hx with hx | hx
        ·exact h3 x hx
        · have : x = v := by simpa using hx
          subst this;exact f2
      ·dsimp only;rw[bm];simp;omega
      · obtain ⟨g1, g2, g3⟩ := h5 l hr hlen he
        have hk:W.length<(aO l).length:=by omega
        obtain⟨w1,w2,w3⟩:=fp hr;rw[Zg hk,Zw,Zi] at g3;subst g3;have hv:=wQ (hr _ ((w2 _).1 (Z1 hk))) (ok:=true) rfl h1 h2;rw[hv] at f1;obtain⟨rfl,rfl⟩:=Prod.mk.inj (Option.some.inj f1);refine⟨?_,g2,by simp⟩;simp only[Z2,Z5];rw[Z0 hk,←g1]
    · right
      rw[if_neg (by simp;omega)];unfold nD
      have hmx:X5.wrap (Za.wrap ((if (W.length:Int)<1 then 1 else (W.length:Int)) - 1))=((W.length - 1:Nat):Int):=by
        rw[ak (by split<;>omega),bD];split<;>omega
      have hwid:wid (W.length - 1)≤64:=pg (Zs (show W.length - 1<256 by omega) (by decide));rw[hmx,len_eq (by omega),Jj,ye h1 (by omega),Jj];obtain⟨u1,u2⟩:=BO r many (wid (W.length - 1))
      have hex:∀l:List Ap,(∀v∈l,Rgt v)→l.length=many→b=ol l→W=aO l∧sj r many (wid (W.length - 1))=(l.map (λv=>(ft (aO l) v:Int)),⟨[],true⟩):=λl hr hlen he=>by
        obtain⟨g1,g2,g3⟩:=h5 l hr hlen he;obtain⟨w1,w2,w3⟩:=fp hr;have e2:W.length=(aO l).length:=by omega
        rw[e2,Z3] at g1;refine⟨g1,?_⟩;rw[e2,List.drop_length] at g3;simp only[List.flatMap_nil,Zy] at g3;rw[g3,e2,←hlen]
        have:=yf (pl:=l.map λv=>(ft (aO l) v:Int)) (w:=wid ((aO l).length - 1)) (by rw[←e2];exact hwid) (λx hx=>by
          obtain⟨v,hv,rfl⟩:=Zz.1 hx;have hp:=ox ((w2 v).2 hv);have hw2:=Do ((aO l).length - 1);refine⟨by omega,?_⟩;have:((ft (aO l) v:Nat):Int)<((2^wid ((aO l).length - 1):Nat):Int):=Int.ofNat_lt.2 (by omega)
          rwa[Xs] at this)
        rw[Zo] at this;exact this
      generalize sj r many (wid (W.length - 1))=U at*;obtain⟨pl,r2⟩:=U;dsimp only at*
      have hin:∃x,am (λs:(List Ap×Int)=>j5 W (pl,r2) s.1 s.2) ([],0)=some x∧kj 3 b many x:=by
        refine gB (I:=λs:List Ap×Int=>(∀v∈s.1,Rgt v)∧s.1.length≤many∧s.2=(s.1.length:Int)∧∀l:List Ap,(∀v∈l,Rgt v)→l.length=many→b=ol l→s.1=l.take s.1.length) (μ:=λs=>many - s.1.length) (Q:=kj 3 b many) ?_ ⟨by simp,by simp,rfl,λl _ _ _=>by simp⟩;rintro ⟨acc,an⟩ ⟨k1,k2,han,k3⟩;dsimp only at*;subst han;unfold j5 ci;dsimp only
        by_cases hlt2:acc.length<many
        · have hi : acc.length < pl.length := by omega
          obtain⟨n,hn1,hn2⟩:=u2 _ (Z1 hi);have e3:X5.wrap (W.length:Int)=(W.length:Int):=by rw[bD];omega
          rw[if_pos (decide_eq_true (by omega)),ay hi,Jj,e3,hn1]
          by_cases hge:W.length≤n
          · right
            rw[if_pos (decide_eq_true (by omega))];refine⟨_,rfl,by simp,by simp,λl hr hlen he=>?_⟩;exfalso;obtain⟨_,_,_,_,he⟩:=fD he
            have he':b=ol l:=by
              rcases he with⟨e,_⟩|⟨_,e⟩
              ·subst e;simp at hlen;omega
              ·exact e
            obtain⟨g1,g2⟩:=hex l hr hlen he';obtain⟨rfl,_⟩:=Prod.mk.inj g2;have hp:=ox (((fp hr).2.1 _).2 (Z1 (show acc.length<l.length by omega)));simp only[List.getElem_map] at hn1;rw[g1] at hge;omega
          · left
            rw[if_neg (by simp;omega),ay (by omega),Jj,aH (by simp;omega),Jj];refine⟨_,rfl,⟨λx hx=>?_,by simp;omega,?_,λl hr hlen he=>?_⟩,by simp;omega⟩
            · rcases Zc.1 hx with hx | hx
              ·exact k1 x hx
              · have : x = W[n] := by simpa using hx
                subst this;exact h3 _ (Z1 _)
            ·dsimp only;rw[aU (by omega)];simp
            · have q := k3 l hr hlen he
              obtain⟨g1,g2⟩:=hex l hr hlen he;obtain⟨rfl,_⟩:=Prod.mk.inj g2;have hk:acc.length<l.length:=by omega
              have hmem:=((fp hr).2.1 _).2 (Z1 hk);simp only[List.getElem_map] at hn1;have hnp:n=ft (aO l) l[acc.length]:=by omega
              subst g1;subst hnp;dsimp only;simp only[Z2,Z5];rw[Z0 hk,←q,yP hmem]
        · right
          rw[if_neg (by simp;omega)];refine⟨_,rfl,λv hv=>(k1 v hv).ok,by dsimp only;omega,λl hr hlen he=>?_⟩;obtain⟨_,_,_,_,he⟩:=fD he
          have he':b=ol l:=by
            rcases he with⟨e,_⟩|⟨_,e⟩
            ·subst e;simp at hlen;omega
            ·exact e
          have q:=k3 l hr hlen he';obtain⟨g1,g2⟩:=hex l hr hlen he';obtain⟨_,rfl⟩:=Prod.mk.inj g2;have:acc.length=l.length:=by omega
          rw[this,Z3] at q;exact⟨q,rfl⟩
      obtain⟨x,hx1,hx2⟩:=hin;rw[hx1];exact⟨x,rfl,hx2⟩
  · obtain ⟨w1, w2, w3⟩ := fp hr
    have hcons:b=(((aO l).length:Nat):Int)::((aO l).flatMap bv++cN (l.map λv=>(ft (aO l) v:Int)) (wid ((aO l).length - 1))):=he;subst hcons;rw[u7] at e1;obtain⟨e2,e3⟩:=Prod.mk.inj e1;refine⟨by simp,?_,?_⟩
    ·have:=(List.cons.inj e2).1;omega
    ·rw[←e3];rfl
theorem F4 {b : List Int} {many : Nat} {kind : Int} (hk : kind ≠ 0 ∧ kind ≠ 1 ∧ kind ≠ 2 ∧ kind ≠ 3) (hb : Byt b) (hm : 1 ≤ many ∧ many ≤ 64) :∃ x, bU ⟨b, true⟩ kind (many : Int) = some x ∧ kj kind b many x := by
  unfold bU;rw[if_neg (by simpa using hk.1),if_neg (by simpa using hk.2.1),if_neg (by simpa using hk.2.2.1),if_neg (by simpa using hk.2.2.2),zR hb,Jj];dsimp only;generalize hx:(if b.length<8 then ((0:Int),({ fB:=[],fOk:=false }:aj)) else (ez (b.take 8),⟨b.drop 8,true⟩))=x0
  have hx1:Byt x0.2.fB:=by
    rw[←hx];split
    ·exact .nil
    ·exact hb.drop _
  rw[take_one,Jj];obtain⟨c,r1,e1,hc,hr1,hr2,hr3⟩:=xI x0.2 hx1;rw[e1];dsimp only;obtain⟨cn,rfl⟩:=Zb hc.1;rw[dK,Jj,ak (by omega),ye hr1 (by omega),Jj];obtain⟨u1,u2⟩:=BO r1 many cn
  have hex:∀l:List Ap,(∀v∈l,Rgt v)→l.length=many→jP l=true→b=nK (l.map (·.fInt))→x0.1=j8 (l.map (·.fInt))%18446744073709551616∧sj r1 many cn=(bQ (l.map (·.fInt)),⟨[],true⟩):=λl hr hlen hi he=>by
    have hin:=th hi hr;have h':∀x∈l.map (·.fInt),cX x:=λx hx=>by obtain⟨v,hv,rfl⟩:=Zz.1 hx;exact(hin v hv).2
    have hu:=oI h';obtain⟨hw,hw2⟩:=lM hu
    have he2:b=be8 (j8 (l.map (·.fInt))%18446744073709551616)++((dN (bQ (l.map (·.fInt))):Nat):Int)::cN (bQ (l.map (·.fInt))) (dN (bQ (l.map (·.fInt)))):=by
      rw[he];unfold nK;simp
    have h8: ¬ b.length<8:=by rw[he2];simp[cd]
    rw[if_neg h8] at hx;have h1:b.take 8=be8 (j8 (l.map (·.fInt))%18446744073709551616):=by rw[he2];exact Xi (cd _)
    have h2:b.drop 8=((dN (bQ (l.map (·.fInt))):Nat):Int)::cN (bQ (l.map (·.fInt))) (dN (bQ (l.map (·.fInt)))):=by rw[he2];exact List.drop_left' (cd _)
    rw[h1,h2,yK (by omega) (by omega)] at hx;subst hx;dsimp only at e1;rw[u7] at e1;obtain⟨e3,e4⟩:=Prod.mk.inj e1;have e5:cn=dN (bQ (l.map (·.fInt))):=by have:=(List.cons.inj e3).1;omega
    subst e4;refine⟨rfl,?_⟩
    have:=yf (pl:=bQ (l.map (·.fInt))) (w:=dN (bQ (l.map (·.fInt)))) hw (λx hx=>by
      have h3:=hu x hx;have h4:=Do x.toNat;have h5:=hw2 x hx;have h6:(2:Nat)^wid x.toNat≤2^dN (bQ (l.map (·.fInt))):=Xn (by decide) h5;refine⟨h3.1,?_⟩;have:((x.toNat:Nat):Int)<((2^dN (bQ (l.map (·.fInt))):Nat):Int):=Int.ofNat_lt.2 (by omega);rw[Xs] at this;have e:((x.toNat:Nat):Int)=x:=by omega
      rw[e] at this
      exact this)
    have hal:(bQ (l.map (·.fInt))).length=many:=by simp[bQ,hlen]
    rw[hal] at this;rw[e5];exact this
  generalize sj r1 many cn=U at*;obtain⟨pl,r2⟩:=U;obtain⟨n0,rn⟩:=x0;dsimp only at*;refine gB (I:=λs:List Ap×Int=>(∀v∈s.1,Rgt v)∧s.1.length≤many∧s.2=(s.1.length:Int)∧∀l:List Ap,(∀v∈l,Rgt v)→l.length=many→jP l=true→b=nK (l.map (·.fInt))→s.1=l.take s.1.length) (μ:=λs=>many - s.1.length) (Q:=kj kind b many) ?_ ⟨by simp,by simp,rfl,λl _ _ _ _=>by simp⟩;rintro ⟨acc,an⟩ ⟨k1,k2,han,k3⟩;dsimp only at*;subst han;unfold nF ci;dsimp only
  by_cases hlt2:acc.length<many
  · have hi : acc.length < pl.length := by omega
    left;unfold eG;rw[if_pos (decide_eq_true (by omega)),ay hi,Jj,Jj,aH (by simp;omega),Jj];refine⟨_,rfl,⟨λx hx=>?_,by simp;omega,?_,λl hr hlen hi2 he=>?_⟩,by simp;omega⟩
    · rcases Zc.1 hx with hx | hx
      ·exact k1 x hx
      · have : x = iR (Za.wrap (X5.wrap (n0 + pl[acc.length]))) := by simpa using hx
        subst this;exact .int _ (lz _)
    ·dsimp only;rw[aU (by omega)];simp
    · have q := k3 l hr hlen hi2 he
      obtain⟨g1,g2⟩:=hex l hr hlen hi2 he;obtain⟨rfl,_⟩:=Prod.mk.inj g2;have hin:=th hi2 hr;have hk:acc.length<l.length:=by omega
      have h1:=hin _ (Z1 hk);dsimp only;simp only[Z2,Z5];rw[Z0 hk,←q];congr 1
      have e9:Za.wrap (X5.wrap (n0+(bQ (l.map (·.fInt)))[acc.length]))=l[acc.length].fInt:=by
        have:(bQ (l.map (·.fInt)))[acc.length]=l[acc.length].fInt - j8 (l.map (·.fInt)):=by simp[bQ]
        rw[this,g1,bD,jo];have:=h1.2;unfold cX at this;omega
      rw[e9];congr 1;exact h1.1.symm
  · right
    rw[if_neg (by simp;omega)];refine⟨_,rfl,λv hv=>(k1 v hv).ok,by dsimp only;omega,λl hr hlen he=>?_⟩;obtain⟨hk5,_,_,hi2,he⟩:=fD he;have hk4:kind=4:=by omega
    subst hk4
    have he':b=nK (l.map (·.fInt)):=by
      rcases he with⟨e,_⟩|⟨_,e⟩
      ·subst e;simp at hlen;omega
      ·exact e
    have q:=k3 l hr hlen (hi2 (.inr rfl)) he';obtain⟨g1,g2⟩:=hex l hr hlen (hi2 (.inr rfl)) he';obtain⟨_,rfl⟩:=Prod.mk.inj g2;have:acc.length=l.length:=by omega
    rw[this,Z3] at q;exact⟨q,rfl⟩
theorem BP {b:List Int}{many:Nat}(kind:Int)(hb:Byt b)(hl:b.length<140737488355328)(hm:1≤many∧many≤64):∃x,bU ⟨b,true⟩ kind (many:Int)=some x∧kj kind b many x:=by
  by_cases h0:kind=0
  ·subst h0;exact Eu hb hl hm
  by_cases h1:kind=1
  ·subst h1;exact F1 hb hl hm
  by_cases h2:kind=2
  ·subst h2;exact Ev hb hl hm
  by_cases h3:kind=3
  ·subst h3;exact F3 hb hl hm
  ·exact F4 ⟨h0,h1,h2,h3⟩ hb hm
open Option renaming bind_some→Jj,getD_some→Xd,bind_assoc→Xz
open List renaming take_succ_eq_append_getElem→Z0,getElem_mem→Z1,length_append→Z2,take_length→Z3,getElem?_eq_getElem→Z4,length_singleton→Z5,length_cons→Z6,replicate→Z8,eq_nil_of_length_eq_zero→Z9,mem_append→Zc,mem_of_mem_take→Ze,take_append_drop→Zf,drop_eq_getElem_cons→Zg,length_pos_iff→Zh,append_assoc→Zi,pairwise_cons→Zj,length_take→Zk,pairwise_append→Zn,length_map→Zo,mem_cons→Zp,getD_eq_getElem?_getD→Zt,range→Zv,flatMap_cons→Zw,foldl_cons→Zx,nil_append→Zy,mem_map→Zz,mem_singleton→X4,mem_of_getLast?→X6,pairwise_iff_getElem→X7,getElem?_eq_some_iff→X8,flatMap_append→X9,cons_append→Xb,drop_zero→Xe,drop_left→Xf,getElem?_drop→Xg,take_of_length_le→Xh,take_left'→Xi,append_nil→Xj,foldl_append→Xk,length_range→Xl,length_replicate→Xm,dropLast_concat_getLast→Xp,getElem?_append_right→Xu,getLast?_eq_none_iff→Xw,getLast?_eq_getElem?→Xx,map_append→Xy,getElem?_append_left→Y0,mem_replicate→Y2,eq_of_mem_replicate→Y4,drop_drop→Y6,flatMap_singleton→Y8,map_cons→Yb,singleton_append→Yc,getElem?_eq_none→Yd,range_succ→Yf,map_nil→Yg
open Nat renaming le_refl→Zm,lt_of_lt_of_le→Zs,mul_le_mul→Zu,strongRecOn→Xa,testBit_xor→Xc,pow_le_pow_right→Xn,eq_of_testBit_eq→Xo,two_pow_add_eq_or_of_lt→Xq,mod_two_eq_zero_or_one→Xt,testBit_succ→Y7,xor_comm→Yi
open Bool renaming false_eq_true→Z7,not_true→Xv,not_false→Y5,not_eq_true→Y9,true_and→Ya
open Int renaming eq_ofNat_of_zero_le→Zb,tmod_eq_emod_of_nonneg→Zq,tdiv_eq_ediv_of_nonneg→Zr,fdiv_eq_ediv_of_nonneg→X3,natCast_pow→Xs,toNat_natCast→Y1,emod_eq_of_lt→Y3,le_of_lt→Yh
open BitVec renaming ofInt→Zd,toNat_ofInt→Zl
open Prod renaming ext→Yj
open IntKind renaming i64→Za,u64→X5,u32→Xr,u8→Ye
open Classical in
noncomputable def dec (kind:Int) (b:List Int) (many:Int):List Ap×Int:=
 if kind<0∨4<kind then ([],62) else if many<0∨64<many then ([],61) else
 if h:∃l:List Ap,(∀v∈l,Rgt v)∧(l.length:Int)=many∧enc kind l=(b,0) then (h.choose,0) else ([],60)
theorem Dz {a b:List Int}(ha:a.length≤4611686018427387903):gn a b=some (decide (a=b)):=by
 unfold gn
 by_cases h:a.length=b.length
 ·rw [if_neg (by simp; omega)]
  have:=u3 (f:=λs:Int=>gc a b s) (a.zip b) (λp=>p.1==p.2) false true (λi hi hp=>?_) (λi hi hp=>?_) ?_
  ·rw [this]
   have e:(a.zip b).all (λp=>p.1==p.2)=decide (a=b):=by
    clear this ha
    induction a generalizing b with
    |nil=>cases b with
     |nil=>rfl
     |cons _ _=>simp at h
    | cons x a ih => cases b with
     |nil=>simp at h
     |cons y b=>
      rw[List.zip_cons_cons,List.all_cons,ih (by simpa using h)]
      by_cases e:x=y
      ·simp[e]
      ·simp[e]
   rw[e];cases decide (a=b)<;>rfl
  ·simp only [List.length_zip] at hi
   simp only[List.getElem_zip,beq_iff_eq] at hp;unfold gc;rw[if_pos (decide_eq_true (by omega)),ay (by omega),Jj,ay (by omega),Jj,if_neg (by simpa using hp),aU (by omega)]
  ·simp only [List.length_zip] at hi
   simp only[List.getElem_zip,beq_eq_false_iff_ne] at hp;unfold gc;rw[if_pos (decide_eq_true (by omega)),ay (by omega),Jj,ay (by omega),Jj,if_pos (by simpa using hp)];rfl
  ·unfold gc o9
   rw[if_neg (by simp;omega)];rfl
 ·rw [if_pos (by simp;omega)]
  have:a≠b:=λe=>h (by rw[e]);simp[this]
theorem B9 {kind:Int}{l:List Ap}:(enc kind l).2=0→l.all right=true∧l.length≤64:=λh=>by
 have:enc kind l=((enc kind l).1,0):=Yj rfl h;obtain⟨_,h1,h2,_⟩:=fD this;exact⟨h2,h1⟩
theorem rl (l:List Int)(w:Nat):(cN l w).length=(l.length*w+7)/8:=fM _ _ _
theorem Jl {kind:Int}{l:List Ap}(h:∀v∈l,Rgt v)(hl:l.length≤64):(qR kind l).length≤100000:=by
 obtain⟨w1,w2,w3⟩:=fp h;unfold qR;split
 ·obtain ⟨h1,h2,_⟩:=oH (l:=l)
  have:=oG (bV l) (λr=>r.fMany::bv r.fValue) 67 λx hx=>by
   have:=(ek (h _ (h1 x hx).2.2)).2;simp;omega
  unfold xH;omega
 split
 ·have:=oG (Zv ((l.map (·.fInt)).length - 1)) (jO (l.map (·.fInt))) 10 fun x _=>lL (nI (lz _))
  unfold nJ;simp only[Z2,cd,Xl,Zo] at*;omega
 split
 ·have h1:=jn (l:=aO l) fun v hv=>h v ((w2 v).1 hv)
  have hwid:wid ((aO l).length - 1)≤64:=pg (Zs (show(aO l).length - 1<64 by omega) (by decide));have:=Zu hl hwid;unfold ol;simp only[Z6,Z2,rl,Zo];omega
 split
 ·by_cases hi: ∀x∈l.map (·.fInt),cX x
  ·have hu:=oI hi
   have:=Zu hl (lM hu).1;have hal:(bQ (l.map (·.fInt))).length=l.length:=by simp[bQ]
   unfold nK;simp only[Z2,cd,Z5,rl,hal];omega
  ·exfalso
   apply hi;intro x hx;obtain⟨v,hv,rfl⟩:=Zz.1 hx;exact(h v hv).ok.int
 ·have:=jn h
  unfold ph;omega
theorem E3 (kind:Int){l:List Ap}(h:∀v∈l,VOK v):(enc kind l).1.length≤100000:=by
 unfold enc
 repeat' split
 all_goals first|exact Nat.zero_le _|skip
 rename_i h2 h3 _ _;exact Jl (rE h (by simpa using h3)) (by omega)
theorem Hn {kind:Int} {b:List Int} {many:Nat} {g:List Ap} {ok:Bool} (hk:0≤kind∧kind≤4) (hm:many≤64) (hg: ∀v∈g,VOK v) (hx: ∀l:List Ap,(∀v∈l,Rgt v)→l.length=many→enc kind l=(b,0)→g=l∧ok=true):
  (if (!ok)=true∨(enc kind g).2≠0∨g.length≠many∨(enc kind g).1≠b then ([],60) else (g,0))=dec kind b (many:Int):=by
 unfold dec;rw[if_neg (show ¬ (kind<0∨4<kind) by omega),if_neg (show ¬ ((many:Int)<0∨64<(many:Int)) by omega)]
 by_cases h:∃l:List Ap,(∀v∈l,Rgt v)∧(l.length:Int)=(many:Int)∧enc kind l=(b,0)
 ·rw [dif_pos h]
  obtain⟨c1,c2,c3⟩:=h.choose_spec;obtain⟨e1,e2⟩:=hx _ c1 (by omega) c3;rw[←e1] at c2 c3;rw[if_neg,e1];rintro (h1|h1|h1|h1)
  ·rw[e2] at h1;cases h1
  ·rw[c3] at h1;exact h1 rfl
  ·omega
  ·rw[c3] at h1;exact h1 rfl
 ·rw [dif_neg h,if_pos]
  apply Classical.byContradiction;intro hn;apply h;have n2:(enc kind g).2=0:=Classical.byContradiction λh=>hn (.inr (.inl h));have n3:g.length=many:=Classical.byContradiction λh=>hn (.inr (.inr (.inl h)));have n4:(enc kind g).1=b:=Classical.byContradiction λh=>hn (.inr (.inr (.inr h)));exact⟨g,rE hg (B9 n2).1,by omega,Yj n4 n2⟩
theorem wT {kind many:Int}{b:List Int}(h:kind<0∨4<kind):dec kind b many=([],62):=by unfold dec;rw[if_pos h]
theorem wU {kind many:Int}{b:List Int}(hk: ¬ (kind<0∨4<kind))(h:many<0∨64<many):dec kind b many=([],61):=by unfold dec;rw[if_neg hk,if_pos h]
theorem Ho {b:List Int}(kind many:Int)(hb:Byt b)(hl:b.length≤1048576):lr kind b many=some (dec kind b many):=by
 have jt1:kX kind b many true=some ([],62):=rfl;have jt2:kW kind b many true=some ([],61):=rfl;unfold lr
 by_cases h0:kind<0
 ·rw[if_pos (by simpa using h0),jt1,wT (.inl h0)]
 by_cases h4:4<kind
 ·rw[if_neg (by simpa using h0),decide_eq_true h4,jt1,wT (.inr h4)]
 have hk: ¬ (kind<0∨4<kind):=by omega
 rw[if_neg (by simpa using h0),decide_eq_false h4];unfold kX;rw[if_neg (by decide)]
 by_cases m0:many<0
 ·rw[if_pos (by simpa using m0),jt2,wU hk (.inl m0)]
 by_cases m64:64<many
 ·rw[if_neg (by simpa using m0),decide_eq_true m64,jt2,wU hk (.inr m64)]
 rw[if_neg (by simpa using m0),decide_eq_false m64];unfold kW;rw[if_neg (by decide)];obtain⟨n,rfl⟩:=Zb (show 0≤many by omega);have j4:∀g x,jf g x=some (if x=true then ([],60) else (g,0)):=λg x=>by cases x<;>rfl
 have key:∀(g:List Ap) (r:aj),(∀v∈g,VOK v)→g.length≤1048576→kV kind b (n:Int) g r=some (if (!r.fOk)=true∨(enc kind g).2≠0∨g.length≠n∨(enc kind g).1≠b then ([],60) else (g,0)):=by
  intro g r hg hgl;unfold kV;rw[tg kind hg hgl,Jj]
  by_cases e1:(!r.fOk)=true
  ·rw[if_pos e1,j4,if_pos rfl,if_pos (.inl e1)]
  by_cases e2:(enc kind g).2=0
  ·by_cases e3:g.length=n
   ·rw [if_neg e1,if_neg (by simpa using e2),if_neg (by simpa using by omega),Dz (by have:=E3 kind hg;omega),Jj,j4]
    by_cases e4:(enc kind g).1=b
    ·rw [if_neg (by simpa using e4),if_neg]
     rintro (h|h|h|h)
     ·exact e1 h
     ·exact h e2
     ·exact h e3
     ·exact h e4
    ·rw[if_pos (by simpa using e4),if_pos (.inr (.inr (.inr e4)))]
   ·rw[if_neg e1,if_neg (by simpa using e2),if_pos (by simp;omega),j4,if_pos rfl,if_pos (.inr (.inr (.inl e3)))]
  ·rw[if_neg e1,if_pos (by simpa using e2),j4,if_pos rfl,if_pos (.inr (.inl e2))]
 by_cases n0:n=0
 ·subst n0
  rw[if_neg (by decide),key _ _ (by simp) (by simp),Hn (by omega) (by omega) (by simp) λl _ h2 _=>⟨(Z9 h2).symm,rfl⟩]
 ·obtain ⟨x,hx1,hx2,hx3,hx4⟩:=BP (b:=b) (many:=n) kind hb (by omega) (by omega)
  rw[if_pos (by simp;omega),hx1,Jj,key _ _ hx2 hx3,Hn (by omega) (by omega) hx2 hx4]
theorem Jm {kind:Int}{l:List Ap}(h:∀v∈l,Rgt v)(hl:l.length≤64):Byt (qR kind l):=by
 obtain⟨w1,w2,w3⟩:=fp h
 have fl:∀{α:Type} (xs:List α) (f:α→List Int),(∀x∈xs,Byt (f x))→Byt (xs.flatMap f):=λxs f hf c hc=>by
  obtain⟨x,hx,hc⟩:=List.mem_flatMap.1 hc;exact hf x hx c hc
 unfold qR;split
 ·obtain ⟨h1,h2,_⟩:=oH (l:=l)
  exact fl _ _ λx hx=> .cons (by have:=h1 x hx;omega) (sh (h _ (h1 x hx).2.2))
 split
 ·exact Byt.app (wL _) (fl _ _ λx _=>Hh _)
 split
 ·exact .cons (by omega) (.app (fl _ _ λv hv=>sh (h v ((w2 v).1 hv))) (zI _ _))
 split
 ·have hi:∀x∈l.map (·.fInt),cX x:=λx hx=>by
   obtain⟨v,hv,rfl⟩:=Zz.1 hx;exact(h v hv).ok.int
  have:=(lM (oI hi)).1;exact .app (.app (wL _) (.cons (by omega) .nil)) (zI _ _)
 ·exact fl _ _ λv hv=>sh (h v hv)
theorem xJ (kind:Int){l:List Ap}(h:∀v∈l,VOK v):Byt (enc kind l).1:=by
 unfold enc
 repeat' split
 all_goals first|exact .nil|skip
 rename_i h2 h3 _ _;exact Jm (rE h (by simpa using h3)) (by omega)
theorem up {kind:Int}{l:List Ap}{b:List Int}(h:∀v∈l,VOK v)(he:enc kind l=(b,0)):∀v∈l,Rgt v:=rE h (fD he).2.2.1
theorem K2 {kind:Int}{l l':List Ap}{b:List Int}(h:∀v∈l,Rgt v)(h':∀v∈l',Rgt v)(hl:l'.length=l.length)(he:enc kind l=(b,0))(he':enc kind l'=(b,0)):l'=l:=by
 by_cases h0:l.length=0
 ·rw[Z9 h0,Z9 (hl.trans h0)]
 have hb:Byt b:=by have:=xJ kind λv hv=>(h v hv).ok;rw[he] at this;exact this
 have hbl:b.length≤100000:=by have:=E3 kind λv hv=>(h v hv).ok;rw[he] at this;exact this
 obtain⟨x,_,_,_,hx⟩:=BP (b:=b) (many:=l.length) kind hb (by omega) ⟨by omega,(fD he).2.1⟩;rw[←(hx l h rfl he).1,←(hx l' h' hl he').1]
theorem K3 {kind:Int}{l:List Ap}{b:List Int}(h:∀v∈l,VOK v)(he:enc kind l=(b,0)):dec kind b (l.length:Int)=(l,0):=by
 have hR:=up h he;obtain⟨k1,k2,_⟩:=fD he;unfold dec;rw[if_neg (show ¬ (kind<0∨4<kind) by omega),if_neg (show ¬ ((l.length:Int)<0∨64<(l.length:Int)) by omega)];have hx:∃l':List Ap,(∀v∈l',Rgt v)∧(l'.length:Int)=(l.length:Int)∧enc kind l'=(b,0):=⟨l,hR,rfl,he⟩
 rw[dif_pos hx];obtain⟨c1,c2,c3⟩:=hx.choose_spec;rw[K2 hR c1 (by omega) he c3]
theorem Hp (kind:Int)(b:List Int)(many:Int):(∃l:List Ap,dec kind b many=(l,0)∧(∀v∈l,Rgt v)∧(l.length:Int)=many∧enc kind l=(b,0))∨(∃e,dec kind b many=([],e)∧e≠0):=by
 unfold dec;split
 ·right;exact⟨62,rfl,by decide⟩
 split
 ·right;exact⟨61,rfl,by decide⟩
 split
 ·rename_i h
  left;exact⟨_,rfl,h.choose_spec⟩
 ·right;exact⟨60,rfl,by decide⟩
def zS (l:List Ap)(s:Int×Int)(k:Nat):Int×Int:=if (enc (k:Int) l).2=0∧(s.2<0∨((enc (k:Int) l).1.length:Int)<s.2) then ((k:Int),((enc (k:Int) l).1.length:Int)) else s
def it (l:List Ap)(n:Nat):Int×Int:=(Zv n).foldl (zS l) (0,-1)
def A6 (l:List Ap):Int:=(it l 5).1
theorem u9 (l:List Ap)(n:Nat):it l (n+1)=zS l (it l n) n:=by simp[it,Yf]
theorem F5 (l:List Ap)(n:Nat):((it l n).2<0∧(it l n).1=0∧∀k:Nat,k<n→(enc (k:Int) l).2≠0)∨(0≤(it l n).2∧(∃k:Nat,k<n∧(it l n).1=(k:Int))∧(enc (it l n).1 l).2=0∧(it l n).2=((enc (it l n).1 l).1.length:Int)∧∀k:Nat,k<n→(enc (k:Int) l).2=0→(it l n).2≤((enc (k:Int) l).1.length:Int)):=by
 induction n with
 |zero=>left;exact⟨show((-1:Int))<0 by decide,rfl,λk hk=>by omega⟩
 | succ n ih =>
  rw[u9];generalize it l n=s at*;unfold zS
  by_cases h:(enc (n:Int) l).2=0∧(s.2<0∨((enc (n:Int) l).1.length:Int)<s.2)
  ·rw [if_pos h]
   right;refine⟨by dsimp only;omega,⟨n,by omega,rfl⟩,h.1,rfl,λk hk he=>?_⟩;dsimp only;rcases ih with⟨i1,_,i2⟩|⟨i1,_,_,i4,i5⟩
   ·by_cases e:k=n
    ·subst e;omega
    ·exact absurd he (i2 k (by omega))
   ·by_cases e:k=n
    ·subst e;omega
    ·have:=i5 k (by omega) he
     omega
  ·rw [if_neg h]
   rcases ih with⟨i1,i0,i2⟩|⟨i1,⟨k0,i20,i21⟩,i3,i4,i5⟩
   ·left
    refine⟨i1,i0,λk hk he=>?_⟩
    by_cases e:k=n
    ·subst e;exact h ⟨he,.inl i1⟩
    ·exact i2 k (by omega) he
   ·right
    refine⟨i1,⟨k0,by omega,i21⟩,i3,i4,λk hk he=>?_⟩
    by_cases e:k=n
    ·subst e
     rcases Int.lt_or_le ((enc (k:Int) l).1.length:Int) s.2 with h2|h2
     ·exact absurd ⟨he,.inr h2⟩ h
     ·exact h2
    ·exact i5 k (by omega) he
theorem K4 {l:List Ap}(h:∀v∈l,VOK v)(hl:l.length≤1048576):qe l=some (A6 l):=by
 unfold qe;refine aV (λi=>((it l i).1,(it l i).2,(i:Int))) 5 rfl (λi hi=>?_) ?_
 ·dsimp only
  rw[u9];generalize it l i=s;unfold uj mD pM zS;rw[if_pos (decide_eq_true (by omega)),tg _ h hl,Jj,aU (by omega)]
  by_cases e:(enc (i:Int) l).2=0
  ·rw [if_pos (by simpa using e)]
   by_cases e2:s.2<0
   ·rw[if_pos (decide_eq_true e2),if_pos rfl,if_pos ⟨e,.inl e2⟩]
   ·rw [if_neg (by simpa using e2)]
    by_cases e3:((enc (i:Int) l).1.length:Int)<s.2
    ·rw[if_pos (decide_eq_true e3),if_pos ⟨e,.inr e3⟩]
    ·rw[if_neg (by simpa using e3),if_neg (λh=>by rcases h.2 with h|h<;>contradiction)]
  ·rw[if_neg (by simpa using e),if_neg (by decide),if_neg (λh=>e h.1)]
 ·rfl
theorem Ew {l:List Ap}(h:∀v∈l,VOK v)(hl:l.length≤1048576):AN l=some (A6 l):=by
 unfold AN;refine aV (λi=>((it l i).1,(it l i).2,(i:Int))) 5 rfl (λi hi=>?_) ?_
 ·dsimp only
  rw[u9];generalize it l i=s;unfold zC re uX zS;rw[if_pos (decide_eq_true (by omega)),qS _ h hl,Jj,aU (by omega)]
  by_cases e:(enc (i:Int) l).2=0
  ·rw [if_pos (by simpa using e)]
   by_cases e2:s.2<0
   ·rw[if_pos (decide_eq_true e2),if_pos rfl,if_pos ⟨e,.inl e2⟩]
   ·rw [if_neg (by simpa using e2)]
    by_cases e3:((enc (i:Int) l).1.length:Int)<s.2
    ·rw[if_pos (decide_eq_true e3),if_pos ⟨e,.inr e3⟩]
    ·rw[if_neg (by simpa using e3),if_neg (λh=>by rcases h.2 with h|h<;>contradiction)]
  ·rw[if_neg (by simpa using e),if_neg (by decide),if_neg (λh=>e h.1)]
 ·rfl
theorem K5 {l:List Ap}:(enc 0 l).2≠0→∀k:Int,0≤k∧k≤4→(enc k l).2≠0:=by
 intro h k hk;unfold enc at*;rw[if_neg (show ¬ ((0:Int)<0∨4<(0:Int)) by omega)] at h;rw[if_neg (show ¬ (k<0∨4<k) by omega)];split
 ·decide
 split
 ·decide
 rename_i h1 h2;rw[if_neg h1,if_neg h2,if_neg (λh=>by omega)] at h;exfalso;apply h;split<;>rfl
theorem R6 {l:List Ap}:(enc (A6 l) l).2=(enc 0 l).2∧(enc (A6 l) l).1.length≤(enc 0 l).1.length:=by
 unfold A6;rcases F5 l 5 with⟨_,q1,_⟩|⟨_,⟨k,q0,q01⟩,q1,q2,q3⟩
 ·rw[q1];exact⟨rfl,Zm _⟩
 ·have e:(enc 0 l).2=0:=Classical.byContradiction fun hn=>K5 hn (it l 5).1 (by omega) q1
  have:=q3 0 (by omega) e;rw[show((0:Nat):Int)=0 from rfl] at this;exact⟨by rw[q1,e],by omega⟩
def U32 (x:Int):Prop:=0≤x∧x<4294967296
theorem DA (x:Int):U32 (Xr.wrap x):=by rw[lK];unfold U32;omega
theorem A7 (x y:Int):U32 (dV .u32 x y):=DA _
theorem PQ (x:Int):∃n:Nat,dm .u32 x 15=(n:Int)∧n<16:=by
 unfold dm;rw[lK,BitVec.toNat_and];have h2:(Zd Xr.bits 15).toNat=15:=by decide
 rw[h2];have:(Zd Xr.bits x).toNat&&&15≤15:=Nat.and_le_right;exact⟨_,by rw[Y3 (by omega) (by omega)],by omega⟩
theorem Mq {t:List Int}(h:t.length=16)(ht:∀x∈t,U32 x)(x:Int):∃(j:Nat) (y:Int),ix t (dm .u32 x 15)=some j∧t[j]? =some y∧U32 y:=by
 obtain⟨n,h1,h2⟩:=PQ x;have hn:n<t.length:=by omega
 exact⟨n,t[n],by rw[h1];exact od hn,Z4 hn,ht _ (Z1 hn)⟩
theorem Hq {b t:List Int}(hl:b.length<4611686018427387904)(h:t.length=16)(ht:∀x∈t,U32 x):∃n,mc b t=some n∧U32 n:=by
 unfold mc;refine gB (λs=>U32 s.1∧∃i:Nat,s.2=(i:Int)∧i≤b.length) (λs=>((b.length:Int) - s.2).toNat) U32 ?_ ⟨⟨by decide,by decide⟩,0,rfl,by omega⟩;rintro ⟨x,i'⟩ ⟨hx,i,hi,hi'⟩;dsimp only at hi;subst hi;dsimp only;unfold oZ
 by_cases hlt:i<b.length
 ·left
  rw[if_pos (by simpa using hlt),ay hlt,Jj];obtain⟨j,y,h1,h2,h3⟩:=Mq h ht (dV .u32 x (Xr.wrap b[i]));rw[h1,Jj,h2,Jj];obtain⟨j',z,k1,k2,k3⟩:=Mq h ht (dV .u32 y (aF .u32 (dV .u32 x (Xr.wrap b[i])) 4));rw[k1,Jj,k2,Jj,aU (by omega)];exact⟨_,rfl,⟨A7 _ _,i+1,rfl,by omega⟩,by dsimp only;omega⟩
 ·right
  rw[if_neg (by simpa using hlt)];exact⟨_,rfl,A7 _ _⟩
theorem Mr {b:List Int}(hl:b.length<4611686018427387904):∃n,ic b=some n∧U32 n:=by
 unfold ic;refine gB (λs=>(∃i:Nat,s.1=(i:Int)∧i≤16)∧s.2.length=16∧∀x∈s.2,U32 x) (λs=>(16 - s.1).toNat) U32 ?_ ⟨⟨0,rfl,by omega⟩,by simp,λx hx=>by rw[Y4 hx];exact⟨by decide,by decide⟩⟩;rintro ⟨i',t⟩ ⟨⟨i,hi,hi'⟩,ht,hu⟩;dsimp only at hi ht hu;subst hi;dsimp only;unfold o4
 by_cases hlt:i<16
 ·left
  rw[if_pos (by simpa using by omega)]
  have:∃r,am (λs:(Int×Int)=>md (i:Int) t s.1 s.2) (Xr.wrap (i:Int),0)=some r∧∃v,U32 v∧r= .inl (((i+1:Nat):Int),t.set i v):=by
   refine gB (λs=>U32 s.1∧∃i:Nat,s.2=(i:Int)∧i≤4) (λs=>(4 - s.2).toNat) _ ?_ ⟨DA _,0,rfl,by omega⟩;rintro ⟨x,q'⟩ ⟨hx,q,hq,hq'⟩;dsimp only at hq;subst hq;dsimp only;unfold md
   by_cases hql:q<4
   ·left
    rw[if_pos (by simpa using by omega),aU (by omega)];exact⟨_,rfl,⟨A7 _ _,q+1,rfl,by omega⟩,by dsimp only;omega⟩
   ·right
    rw[if_neg (by simpa using by omega)];unfold rO rN;have hit:i<t.length:=by omega
    rw[od hit,Jj,Z4 hit,Jj,aU (by omega)];exact⟨_,rfl,x,hx,rfl⟩
  obtain⟨r,h1,v,hv,rfl⟩:=this;refine⟨_,h1,⟨⟨i+1,rfl,by omega⟩,by simpa using ht,λx hx=>?_⟩,by dsimp only;omega⟩;rcases List.mem_or_eq_of_mem_set hx with h|h
  ·exact hu x h
  ·rw[h];exact hv
 ·right
  rw[if_neg (by simpa using by omega)];obtain⟨n,h1,h2⟩:=Hq hl ht hu;exact⟨n,by rw[h1];rfl,h2⟩
noncomputable def lQ (b:List Int):Int:=(ic b).getD 0
theorem wV {b:List Int}(hl:b.length<4611686018427387904):ic b=some (lQ b)∧U32 (lQ b):=by
 obtain⟨n,h1,h2⟩:=Mr hl;unfold lQ;rw[h1];exact⟨rfl,h2⟩
def be4 (n:Int):List Int:=[n/2^24%256,n/2^16%256,n/2^8%256,n%256]
theorem A8 (n:Int):Byt (be4 n):=by
 unfold be4;exact .cons (by omega) (.cons (by omega) (.cons (by omega) (.cons (by omega) .nil)))
theorem dU (n:Int):(be4 n).length=4:=rfl
theorem zT {x:Int}{k:Nat}(hk:k≤32):aF .u32 x (k:Int)=x/2^k:=by
 unfold aF;rw[X3 _ (Yh (Int.pow_pos (by decide)))];congr 2;simp[IntKind.bits];omega
theorem F6 {x:Int}{k:Nat}(hk:k≤64):aF .i64 x (k:Int)=x/2^k:=by
 unfold aF;rw[X3 _ (Yh (Int.pow_pos (by decide)))];congr 2;simp[IntKind.bits];omega
noncomputable def mQ (b:List Int):List Int:=b++be4 (lQ b)
theorem BQ {b:List Int}(hl:b.length≤1000000000000):kx b=some (mQ b):=by
 unfold kx;rw[(wV (b:=b) (by omega)).1,Jj,bm,bm,bm,bm];have e1:=zT (x:=lQ b) (k:=24) (by omega);have e2:=zT (x:=lQ b) (k:=16) (by omega);have e3:=zT (x:=lQ b) (k:=8) (by omega);rw[show((24:Nat):Int)=24 from rfl] at e1;rw[show((16:Nat):Int)=16 from rfl] at e2;rw[show((8:Nat):Int)=8 from rfl] at e3;rw[e1,e2,e3,aH (by simp;omega),Jj]
 rfl
theorem Hr {v:Ap}(h:Rgt v):qt v=some (bv v):=by
 unfold qt;rw[um (l:=[v]) (λx hx=>by rw[X4.1 hx];exact h) (by simp),Jj];simp only[u5,Z5,Zw,List.flatMap_nil,Xj];rw[td,Jj]
def pi:List Ap→Ap
 |[]=>ld
 |v::l=>l.foldl (λm x=>if ltV x m then x else m) v
def pj:List Ap→Ap
 |[]=>ld
 |v::l=>l.foldl (λm x=>if ltV m x then x else m) v
theorem va (a b:Ap):0<kF a b↔ltV b a=true:=by
 unfold kF;split
 ·rename_i h;simp[sk h]
 ·split
  ·rename_i h;simp[h]
  ·rename_i h;simp at h;simp[h]
theorem wW {f:Ap→Ap→Ap} (hf: ∀m x,f m x=m∨f m x=x): ∀(l:List Ap) (v:Ap),l.foldl f v∈v::l
 |[],v=>by simp
 | x :: l, v => by
  have:=wW hf l (f v x);rw[Zx];rcases hf v x with h|h
  ·rw [h] at this ⊢
   rcases Zp.1 this with h'|h'
   ·rw[h'];simp
   ·simp[h']
  ·rw [h] at this ⊢
   simp[this]
theorem vb {l:List Ap}(h:l≠[]):pi l∈l:=by
 cases l with
 |nil=>exact absurd rfl h
 |cons v l=>exact wW (λm x=>by split<;>simp) l v
theorem vc {l:List Ap}(h:l≠[]):pj l∈l:=by
 cases l with
 |nil=>exact absurd rfl h
 |cons v l=>exact wW (λm x=>by split<;>simp) l v
theorem F7 {l:List Ap}(h:l≠[])(hl:l.length≤1048576):f9 l cC=some (pi l):=by
 cases l with
 |nil=>exact absurd rfl h
 |cons v r=>
 unfold f9;rw[if_neg (by simp;omega)];unfold mV;rw[dK,Jj];refine aV (λi=>(((i+1:Nat):Int),(r.take i).foldl (λm x=>if ltV x m then x else m) v)) r.length (by simp) (λi hi=>?_) ?_
 ·dsimp only
  unfold jy;have hi':i+1<(v::r).length:=by simp;omega
  simp only[Z6] at hl;rw[if_pos (by simpa using by omega),ay hi',Jj,eO,Jj];rw[iS hi];unfold jx;have e:(v::r)[i+1]=r[i]:=rfl;rw[e,aU (by omega)]
  by_cases hc:ltV r[i] ((r.take i).foldl (λm x=>if ltV x m then x else m) v)=true
  ·rw[if_pos (decide_eq_true ((lf _ _).2 hc)),Jj,if_pos hc]
  ·rw[if_neg (by simpa using λh=>hc ((lf _ _).1 h)),if_neg hc]
 ·unfold jy mU
  dsimp only;rw[if_neg (by simp),Z3]
  rfl
theorem F8 {l:List Ap}(h:l≠[])(hl:l.length≤1048576):ga l cC=some (pj l):=by
 cases l with
 |nil=>exact absurd rfl h
 |cons v r=>
 unfold ga;rw[if_neg (by simp;omega)];unfold mX;rw[dK,Jj];refine aV (λi=>(((i+1:Nat):Int),(r.take i).foldl (λm x=>if ltV m x then x else m) v)) r.length (by simp) (λi hi=>?_) ?_
 ·dsimp only
  unfold jA;have hi':i+1<(v::r).length:=by simp;omega
  simp only[Z6] at hl;rw[if_pos (by simpa using by omega),ay hi',Jj,eO,Jj];rw[iS hi];unfold jz;have e:(v::r)[i+1]=r[i]:=rfl;rw[e,aU (by omega)]
  by_cases hc:ltV ((r.take i).foldl (λm x=>if ltV m x then x else m) v) r[i]=true
  ·rw[if_pos (decide_eq_true ((va _ _).2 hc)),Jj,if_pos hc]
  ·rw[if_neg (by simpa using λh=>hc ((va _ _).1 h)),if_neg hc]
 ·unfold jA mW
  dsimp only;rw[if_neg (by simp),Z3]
  rfl
def fu (l:List Ap):Nat:=(l.filter λv=>v.fKind==0).length
def F9 (kind:Int)(l:List Ap):bO:=⟨kind,(l.length:Int),pi l,pj l,(fu l:Int),0⟩
theorem vd (i:bO): ∀(l:List Ap) (n:Nat),n+l.length≤1048576→em (fun (s:bO) (x:Ap)=>fk s x) { i with fNulls:=(n:Int) } l=some ({ i with fNulls:=((n+fu l:Nat):Int) },true)
 |[],n,_=>by simp[em,fu]
 | v :: l, n, h => by
  simp only[Z6] at h;simp only[em]
  by_cases hv:(v.fKind==0)=true
  ·have e:fk { i with fNulls:=(n:Int) } v=some ({ i with fNulls:=((n+1:Nat):Int) },true):=by
    unfold fk;rw[if_pos hv,aU (by omega)]
   rw[e,Jj,if_pos rfl,vd i l (n+1) (by omega)];simp only[fu,List.filter_cons,hv,if_true,Z6];congr 4;omega
  ·have e:fk { i with fNulls:=(n:Int) } v=some ({ i with fNulls:=(n:Int) },true):=by
    unfold fk;rw[if_neg hv]
   rw[e,Jj,if_pos rfl,vd i l n (by omega)];simp only[fu,List.filter_cons,hv,Z7,if_false]
theorem sq (l:List Ap):fu l≤l.length:=List.length_filter_le _ _
theorem E4 {l:List Ap}(kind:Int)(h:l≠[])(hl:l.length≤1048576):kS kind l=some (F9 kind l):=by
 unfold kS jt;rw[F7 h hl,Jj,F8 h hl,Jj,Jj];rw[show(⟨kind,(l.length:Int),pi l,pj l,0,0⟩:bO)={ (⟨kind,(l.length:Int),pi l,pj l,0,0⟩:bO) with fNulls:=((0:Nat):Int) } from rfl,vd _ l 0 (by omega),Jj,if_pos rfl,Nat.zero_add]
 rfl
theorem Hs {kind:Int}{l:List Ap}(h:∀v∈l,Rgt v)(hl:l.length≤64):(qR kind l).length≤60000:=by
 obtain⟨w1,w2,w3⟩:=fp h;unfold qR;split
 ·obtain ⟨h1,h2,_⟩:=oH (l:=l)
  have:=oG (bV l) (λr=>r.fMany::bv r.fValue) 67 λx hx=>by
   have:=(ek (h _ (h1 x hx).2.2)).2;simp;omega
  unfold xH;omega
 split
 ·have:=oG (Zv ((l.map (·.fInt)).length - 1)) (jO (l.map (·.fInt))) 10 fun x _=>lL (nI (lz _))
  unfold nJ;simp only[Z2,cd,Xl,Zo] at*;omega
 split
 ·have h1:=jn (l:=aO l) fun v hv=>h v ((w2 v).1 hv)
  have hwid:wid ((aO l).length - 1)≤64:=pg (Zs (show(aO l).length - 1<64 by omega) (by decide));have:=Zu hl hwid;unfold ol;simp only[Z6,Z2,rl,Zo];omega
 split
 ·by_cases hi: ∀x∈l.map (·.fInt),cX x
  ·have hu:=oI hi
   have:=Zu hl (lM hu).1;have hal:(bQ (l.map (·.fInt))).length=l.length:=by simp[bQ]
   unfold nK;simp only[Z2,cd,Z5,rl,hal];omega
  ·exfalso
   apply hi;intro x hx;obtain⟨v,hv,rfl⟩:=Zz.1 hx;exact(h v hv).ok.int
 ·have:=jn h
  unfold ph;omega
theorem ve {kind:Int}{l:List Ap}{b:List Int}(h:∀v∈l,VOK v)(he:enc kind l=(b,0)):b.length≤60000:=by
 obtain⟨_,h2,_,_,h4⟩:=fD he;rcases h4 with⟨_,rfl⟩|⟨_,rfl⟩
 ·simp
 ·exact Hs (up h he) h2
def be2 (n:Nat):List Int:=[((n/256:Nat):Int),((n%256:Nat):Int)]
def fW (k m z:Int)(v w:Ap)(d:List Int):List Int:=k::m::z::(bv v++(bv w++(be2 d.length++d)))
def kG (kind:Int)(l:List Ap):Int:=if kind= -1 then A6 l else kind
def iu (k:Int)(l:List Ap):List Int:=fW k (l.length:Int) (fu l:Int) (pi l) (pj l) (enc k l).1
noncomputable def wr (kind:Int) (l:List Ap):List Int×Int:=
 if l=[] then ([],70) else if (enc (kG kind l) l).2≠0 then ([],(enc (kG kind l) l).2) else (mQ (iu (kG kind l) l),0)
theorem BR {k m z:Int}{v w:Ap}{d:List Int}(hk:0≤k∧k≤4)(hm:1≤m∧m≤64)(hz:0≤z∧z≤m)(hv:Rgt v)(hw:Rgt w)(hd:Byt d)(hl:d.length<65536):Byt (fW k m z v w d):=by
 unfold fW be2;refine .cons (by omega) (.cons (by omega) (.cons (by omega) (.app (sh hv) (.app (sh hw) (.app (.cons (by omega) (.cons (by omega) .nil)) hd)))))
theorem qC {k m z:Int}{v w:Ap}{d:List Int}:(fW k m z v w d).length=5+(bv v).length+(bv w).length+d.length:=by
 unfold fW be2;simp;omega
theorem Jn {l:List Ap}(kind:Int)(h:∀v∈l,VOK v)(hl:l.length≤1048576):nv kind l=some (wr kind l):=by
 have key:∀k,l≠[]→mE l k=some (if (enc k l).2≠0 then ([],(enc k l).2) else (mQ (iu k l),0)):=by
  intro k hne;unfold mE;rw[tg k h hl,Jj]
  by_cases he:(enc k l).2=0
  ·have he':enc k l=((enc k l).1,0):=Yj rfl he
   obtain⟨hk,h64,_⟩:=fD he';have hR:=up h he';have hmin:=hR _ (vb hne);have hmax:=hR _ (vc hne);have hdl:=ve h he';have hdb:=xJ k h;have hn:=sq l;have h0:0<l.length:=Zh.2 hne;have l1:=(ek hmin).2;have l2:=(ek hmax).2;rw[if_neg (by simpa using he),if_neg (by simpa using he),E4 k hne hl,Jj];have e8:=F6 (x:=((enc k l).1.length:Int)) (k:=8) (by omega);rw[show((8:Nat):Int)=8 from rfl] at e8;simp only[F9];rw[Hr hmin,Jj,aH (by simp;omega),Jj,Hr hmax,Jj,aH (by simp;omega),Jj,aH (by simp;omega),Jj,aH (by simp;omega),Jj]
   have e:([Ye.wrap k,Ye.wrap (l.length:Int),Ye.wrap (fu l:Int)]++bv (pi l)++bv (pj l)++[Ye.wrap (aF .i64 ((enc k l).1.length:Int) 8),Ye.wrap ((enc k l).1.length:Int)]++(enc k l).1)=iu k l:=by
    unfold iu fW be2;rw[bm,bm,bm,bm,bm,e8];have a1:k%256=k:=by omega
    have a2:(l.length:Int)%256=(l.length:Int):=by omega
    have a3:(fu l:Int)%256=(fu l:Int):=by omega
    have a4:((enc k l).1.length:Int)/2^8%256=(((enc k l).1.length/256:Nat):Int):=by omega
    have a5:((enc k l).1.length:Int)%256=(((enc k l).1.length%256:Nat):Int):=by omega
    rw[a1,a2,a3,a4,a5];simp
   have s2:(iu k l).length≤1000000000000:=by unfold iu;rw[qC];omega
   rw[e,BQ s2,Jj]
  ·rw[if_pos (by simpa using he),if_pos he]
 unfold nv wr
 by_cases hne:l=[]
 ·subst hne;rfl
 ·have h0:0<l.length:=Zh.2 hne
  rw[if_neg (by simp;omega),if_neg hne];unfold kG
  by_cases hk:kind= -1
  ·rw[if_pos (by simpa using hk),if_pos hk,K4 h hl,Jj,key _ hne]
  ·rw[if_neg (by simpa using hk),if_neg hk,key _ hne]
theorem yR {b:List Int}(hb:Byt b)(hl:b.length<140737488355328):lI b=some (match cg b with|some (v,n)=>(v,b.drop n,true)|none=>(ld,[],false)):=by
 unfold lI
 have step:∀k,1≤k→k≤b.length→k≤66→mG b (k:Int)=match cg (b.take k) with|some (v,n)=>(if n=k then some (.inr (v,b.drop k,true)) else some (.inl ((k+1:Nat):Int)))|none=>some (.inl ((k+1:Nat):Int)):=by
  intro k h1 h2 h3;have hs:=dI (xs:=b) (lo:=0) (hi:=k) (by omega) h2;rw[show((0:Nat):Int)=0 from rfl] at hs;unfold mG mF;rw[if_pos (by simpa using by omega),if_pos (by simp;omega),hs,Jj,aH (by simp;omega),Jj,Xe,Yc,te (hb.take _),Jj,fC h2,aU (by omega)];have hlen:(b.take k).length=k:=by simp;omega
  cases hp:cg (b.take k) with
  |none=>rfl
  |some x=>
   obtain⟨v,n⟩:=x;simp only[hlen]
   by_cases e:n=k
   ·rw[if_pos e,if_pos e];rfl
   ·rw[if_neg e,if_neg e];rfl
 cases hp:cg b with
 | some x =>
  obtain⟨v,n⟩:=x;have hn:=si hb hp;refine aV (λi=>((i+1:Nat):Int)) (n - 1) rfl (λi hi=>?_) ?_
  ·rw [step (i+1) (by omega) (by omega) (by omega)]
   cases hq:cg (b.take (i+1)) with
   |none=>rfl
   |some y=>
    obtain⟨v',n'⟩:=y;obtain⟨h1,h2⟩:=rj hb hq;rw[hp] at h1;simp only[Option.some.injEq,Prod.mk.injEq] at h1;omega
  ·have e:n - 1+1=n:=by omega
   rw[e,step n (by omega) (by omega) (by omega),vH hb hp (Zm _)];simp
 | none =>
  refine aV (λi=>((i+1:Nat):Int)) (min b.length 66) rfl (λi hi=>?_) ?_
  ·rw [step (i+1) (by omega) (by omega) (by omega)]
   cases hq:cg (b.take (i+1)) with
   |none=>rfl
   |some y=>
    obtain⟨v',n'⟩:=y;obtain⟨h1,h2⟩:=rj hb hq;rw[hp] at h1;cases h1
  ·have e0:mF b ((min b.length 66+1:Nat):Int) false=some (.inr (ld,[],false)):=rfl
   unfold mG;split
   ·have:decide (((min b.length 66+1:Nat):Int)≤66)=false:=by
     rename_i h;simp at h ⊢;omega
    rw[this,e0]
   ·exact e0
theorem orI {a b:Nat}(ha:a<65536)(hb:b<65536):bOr .i64 (a:Int) (b:Int)=((a|||b:Nat):Int):=by
 unfold bOr
 have h1:(Zd Za.bits (a:Int)).toNat=a:=by
  show(Zd 64 (a:Int)).toNat=a;rw[Zl];omega
 have h2:(Zd Za.bits (b:Int)).toNat=b:=by
  show(Zd 64 (b:Int)).toNat=b;rw[Zl];omega
 rw[BitVec.toNat_or,h1,h2];have:a|||b<2^16:=Nat.or_lt_two_pow (by simpa using ha) (by simpa using hb)
 have e:(2:Nat)^16=65536:=by decide
 rw[ak (by omega)]
theorem Ht {x y:Int}(hx:0≤x∧x<256)(hy:0≤y∧y<256):bOr .i64 (ew .i64 (Za.wrap x) 8) (Za.wrap y)=((x.toNat*256+y.toNat:Nat):Int):=by
 rw[un hx,un hy];obtain⟨a,rfl⟩:=Zb hx.1;obtain⟨b,rfl⟩:=Zb hy.1
 have e:ew .i64 (a:Int) 8=((2^8*a:Nat):Int):=by
  unfold ew;have:(2:Int)^(min (8:Int).toNat Za.bits)=256:=by decide
  rw[this,ak (by omega)];omega
 rw[e,orI (by omega) (by omega),←Xq (by omega)];simp only[Y1];omega
structure Blk (b:List Int) (k m z:Int) (v w:Ap) (d r:List Int):Prop where
 eq:b=fW k m z v w d++r
 hk:0≤k∧k≤4
 hm:1≤m∧m≤64
 hz:0≤z∧z≤m
 hv:Rgt v
 hw:Rgt w
 hd:d.length<65536
 hr:4≤r.length
def Cr (k m z:Int)(v w:Ap)(d:List Int):bO:=⟨k,m,v,w,z,((fW k m z v w d).length+4:Nat)⟩
theorem Blk.parts {b:List Int}{k m z k' m' z':Int}{v w:Ap}{d r:List Int}(h:Blk (k::m::z::b) k' m' z' v w d r):k=k'∧m=m'∧z=z'∧cg b=some (v,(bv v).length)∧cg (b.drop (bv v).length)=some (w,(bv w).length)∧(b.drop (bv v).length).drop (bv w).length=be2 d.length++(d++r):=by
 have:=h.eq;unfold fW at this;simp only[Xb,List.cons.injEq,Zi] at this;obtain⟨h1,h2,h3,h4⟩:=this;refine⟨h1,h2,h3,?_,?_,?_⟩
 ·rw[h4,qy h.hv]
 ·rw[h4,Xf,qy h.hw]
 ·rw[h4,Xf,Xf]
theorem Blk.one {b:List Int}{k m z k' m' z':Int}{v w v' w':Ap}{d r d' r':List Int}(h:Blk b k m z v w d r)(h':Blk b k' m' z' v' w' d' r'):k=k'∧m=m'∧z=z'∧v=v'∧w=w'∧d=d'∧r=r':=by
 have e:=h.eq;unfold fW at e;simp only[Xb] at e;rw[e] at h h';obtain⟨a1,a2,a3,a4,a5,a6⟩:=h.parts;obtain⟨b1,b2,b3,b4,b5,b6⟩:=h'.parts;rw[a4] at b4;simp only[Option.some.injEq,Prod.mk.injEq] at b4;obtain⟨rfl,_⟩:=b4;rw[a5] at b5;simp only[Option.some.injEq,Prod.mk.injEq] at b5;obtain⟨rfl,_⟩:=b5;rw[a6] at b6;unfold be2 at b6;simp only[Xb,Zy,List.cons.injEq] at b6;have hlen:d.length=d'.length:=by omega
 obtain⟨c1,c2⟩:=List.append_inj b6.2.2 hlen;exact⟨b1,b2,b3,rfl,rfl,c1,c2⟩
abbrev DB:bO:=⟨0,0,Ap.zero,Ap.zero,0,0⟩
theorem K6 {b:List Int} (hb:Byt b) (hl:b.length≤1000000000000):
  (∃k m z v w d r,Blk b k m z v w d r∧jI b=some (Cr k m z v w d,d,true))∨(jI b=some (DB,[],false)∧∀k m z v w d r,¬ Blk b k m z v w d r):=by
 have fq:∀{b:List Int},b.length<3→∀k m z v w d r,¬ Blk b k m z v w d r:=by
  intro b hs k m z v w d r h;have:=h.eq;rw[this] at hs;simp[qC] at hs;omega
 have bad:∀b,gw b true=some (DB,[],false):=λb=>rfl
 match b,hb,hl with
 |[],_,_=>exact .inr ⟨rfl,fq (by simp)⟩
 |[_],_,_=>exact .inr ⟨rfl,fq (by simp)⟩
 |[_,_],_,_=>exact .inr ⟨rfl,fq (by simp)⟩
 | k :: m :: z :: t, hb, hl =>
  have b0:=hb.head;have b1:=hb.tail.head;have b2:=hb.tail.tail.head;have bt:Byt t:=hb.tail.tail.tail;simp only[Z6] at hl;have i0:idx (k::m::z::t) 0=some k:=dK _ _;have i1:idx (k::m::z::t) 1=some m:=BF _ _ _;have i2:idx (k::m::z::t) 2=some z:=ay (xs:=k::m::z::t) (i:=2) (by simp);have e3:sub (k::m::z::t) 3 ((k::m::z::t).length:Int)=some t:=fC (xs:=k::m::z::t) (k:=3) (by simp)
  have hr0:jI (k::m::z::t)=if 4<k∨m=0∨64<m∨m<z then some (DB,[],false) else gw (k::m::z::t) false:=by
   unfold jI;rw[if_neg (by simp;omega),i0,Jj,i1,Jj,Jj,i2,Jj,Jj]
   by_cases c1:4<k
   ·rw[if_pos (by simpa using c1),if_pos (.inl c1)];rfl
   rw[if_neg (by simpa using c1)]
   by_cases c2:m=0
   ·rw[if_pos (by simpa using c2),if_pos (.inr (.inl c2))];rfl
   rw[if_neg (by simpa using c2)]
   by_cases c3:64<m
   ·rw[if_pos (by simpa using c3),if_pos (.inr (.inr (.inl c3)))];rfl
   rw[if_neg (by simpa using c3)]
   by_cases c4:m<z
   ·rw[if_pos (.inr (.inr (.inr c4))),decide_eq_true c4];rfl
   rw[if_neg (by omega),decide_eq_false c4]
  rw[hr0]
  by_cases c:4<k∨m=0∨64<m∨m<z
  ·rw [if_pos c]
   refine .inr ⟨rfl,λk' m' z' v w d r h=>?_⟩;obtain⟨rfl,rfl,rfl,_⟩:=h.parts;have:=h.hk;have:=h.hm;have:=h.hz;omega
  rw[if_neg c];unfold gw;rw[if_neg (by decide),i0,Jj,i1,Jj,i2,Jj,e3,Jj,yR bt (by omega),Jj];cases hp:cg t with
  |none=>
   have hf:∃x,lI ([]:List Int)=some x:=⟨_,yR (b:=[]) .nil (by simp)⟩
   obtain⟨x,hx⟩:=hf;simp only;rw[hx,Jj];refine .inr ⟨rfl,λk' m' z' v w d r h=>?_⟩;have:=h.parts.2.2.2.1;rw[hp] at this;cases this
  | some q =>
   obtain⟨v,n1⟩:=q;have hbd1:=si bt hp;simp only;rw[yR (bt.drop _) (by simp;omega),Jj];cases hp2:cg (t.drop n1) with
   |none=>
    refine .inr ⟨rfl,λk' m' z' v' w d r h=>?_⟩;obtain⟨_,_,_,h1,h2,_⟩:=h.parts;rw[hp] at h1;simp only[Option.some.injEq,Prod.mk.injEq] at h1;rw[←h1.2,hp2] at h2;cases h2
   | some q2 =>
    obtain⟨w,n2⟩:=q2;have hbd2:=si (bt.drop _) hp2;simp only[Xv,Z7,if_false];obtain⟨hRv,t1,ht1,hn1⟩:=mM bt hp;obtain⟨hRw,t2,ht2,hn2⟩:=mM (bt.drop _) hp2;have htt:(t.drop n1).drop n2=t2:=by rw[ht2,hn2,Xf]
    have hbt2:Byt t2:=by rw[←htt];exact(bt.drop _).drop _
    have hd1:t.drop n1=t1:=by rw[ht1,hn1,Xf]
    have hteq:t=bv v++(bv w++t2):=by rw[ht1,←ht2,hd1]
    have hno:t2.length<2→∀k' m' z' v' w' d r,¬ Blk (k::m::z::t) k' m' z' v' w' d r:=by
     intro h2 k' m' z' v' w' d r h;obtain⟨_,_,_,p1,p2,p3⟩:=h.parts;rw[hp] at p1;simp only[Option.some.injEq,Prod.mk.injEq] at p1;rw[←p1.2,hp2] at p2;simp only[Option.some.injEq,Prod.mk.injEq] at p2;rw[←p1.2,←p2.2,htt] at p3;rw[p3] at h2;simp[be2] at h2;omega
    unfold nY;simp only[htt]
    match t2,hteq,htt,hbt2,hno,ht2 with
    |[],_,_,_,hno,_=>exact .inr ⟨by rw[if_pos (by decide)],hno (by simp)⟩
    |[_],_,_,_,hno,_=>exact .inr ⟨by rw[if_pos (by simp)],hno (by simp)⟩
    | x :: y :: rest, hteq, htt, hbt2, hno, ht2 =>
     have bx:=hbt2.head;have by_:=hbt2.tail.head;obtain⟨n,hn⟩:∃n,n=x.toNat*256+y.toNat:=⟨_,rfl⟩
     have e2:sub (x::y::rest) 2 ((x::y::rest).length:Int)=some rest:=fC (xs:=x::y::rest) (k:=2) (by simp);have hlr:rest.length≤t.length:=by rw[hteq];simp;omega
     rw[if_neg (by simp;omega),dK,Jj,BF,Jj,e2,Jj,Ht bx by_,←hn,ak (by omega)];have hsmall:n<65536:=by omega
     by_cases hrl:rest.length<n+4
     ·rw [if_pos (by simpa using by omega)]
      refine .inr ⟨rfl,λk' m' z' v' w' d r h=>?_⟩;obtain⟨_,_,_,p1,p2,p3⟩:=h.parts;rw[hp] at p1;simp only[Option.some.injEq,Prod.mk.injEq] at p1;rw[←p1.2,hp2] at p2;simp only[Option.some.injEq,Prod.mk.injEq] at p2;rw[←p1.2,←p2.2,htt] at p3;unfold be2 at p3;simp only[Xb,Zy,List.cons.injEq] at p3;have h4:=h.hr;have h5:rest.length=d.length+r.length:=by rw[p3.2.2];simp
      omega
     ·have e4:=dI (xs:=rest) (lo:=0) (hi:=n) (by omega) (by omega)
      rw[show((0:Nat):Int)=0 from rfl,Xe] at e4;rw[if_neg (by simpa using by omega),e4,Jj];have hdl:(rest.take n).length=n:=by simp;omega
      have hB:Blk (k::m::z::t) k m z v w (rest.take n) (rest.drop n):=by
       refine⟨?_,by omega,by omega,by omega,hRv,hRw,by omega,by simp;omega⟩;rw[hteq];unfold fW be2;rw[hdl];have q1:((n/256:Nat):Int)=x:=by omega
       have q2:((n%256:Nat):Int)=y:=by omega
       rw[q1,q2];simp
      refine .inl ⟨k,m,z,v,w,rest.take n,rest.drop n,hB,?_⟩
      have hlen:(k::m::z::t).length=3+(bv v).length+(bv w).length+2+rest.length:=by
       rw[hteq];simp;omega
      rw[hlen];unfold Cr;rw[qC,hdl,ak (show -9223372036854775808≤k∧_ by omega),ak (show -9223372036854775808≤m∧_ by omega),ak (show -9223372036854775808≤z∧_ by omega)]
      have q3:Za.wrap (((3+(bv v).length+(bv w).length+2+rest.length:Nat):Int) - (rest.length:Int))=((5+(bv v).length+(bv w).length:Nat):Int):=by
       rw[ak (by simp only[Z6] at hlen;omega)];omega
      have q4:Za.wrap (((5+(bv v).length+(bv w).length:Nat):Int)+(n:Int))=((5+(bv v).length+(bv w).length+n:Nat):Int):=by
       rw[ak (by simp only[Z6] at hlen;omega)];omega
      have q5:Za.wrap (((5+(bv v).length+(bv w).length+n:Nat):Int)+4)=((5+(bv v).length+(bv w).length+n+4:Nat):Int):=by
       rw[ak (by simp only[Z6] at hlen;omega)];omega
      rw[q3,q4,q5]
theorem Jo {b:List Int}(hb:Byt b)(hl:b.length≤1000000000000){k m z:Int}{v w:Ap}{d r:List Int}(h:Blk b k m z v w d r):jI b=some (Cr k m z v w d,d,true):=by
 rcases K6 hb hl with⟨k',m',z',v',w',d',r',h1,h2⟩|⟨_,h2⟩
 ·obtain ⟨rfl,rfl,rfl,rfl,rfl,rfl,_⟩:=h.one h1
  exact h2
 ·exact absurd h (h2 _ _ _ _ _ _ _)
noncomputable def Ga (k m z:Int) (v w:Ap) (d r:List Int):List Ap×Int×Int:=
 if r.take 4=be4 (lQ (fW k m z v w d)) then
  if (dec k d m).2≠0 then ([],0,70)
  else if (fu (dec k d m).1:Int)=z∧pi (dec k d m).1=v∧pj (dec k d m).1=w then ((dec k d m).1,((fW k m z v w d).length+4:Nat),0) else ([],0,70)
 else ([],0,71)
theorem Jp {b:List Int}(hb:Byt b)(hl:b.length≤1000000000000){k m z:Int}{v w:Ap}{d r:List Int}(h:Blk b k m z v w d r):kY b=some (Ga k m z v w d r):=by
 unfold kY;rw[Jo hb hl h,Jj];have hbe:=h.eq;have hr:=h.hr;have hd:=h.hd;have hbody:Byt (fW k m z v w d):=by rw[hbe] at hb;exact hb.left
 have hdb:Byt d:=by
  have:=hbody;unfold fW at this;exact this.tail.tail.tail.right.right.right
 have hbl:b.length=(fW k m z v w d).length+r.length:=by rw[hbe,Z2]
 obtain⟨n,hn⟩:∃n,n=(fW k m z v w d).length:=⟨_,rfl⟩
 have t1:b.take n=fW k m z v w d:=by rw[hbe,hn,List.take_left]
 have t2:b.take (n+4)=fW k m z v w d++r.take 4:=by
  rw[hbe,hn,List.take_append,Xh (Nat.le_add_right _ _),Nat.add_sub_cancel_left]
 have s1:=dI (xs:=b) (lo:=0) (hi:=n) (by omega) (by omega);have s2:=dI (xs:=b) (lo:=0) (hi:=n+4) (by omega) (by omega);rw[show((0:Nat):Int)=0 from rfl,Xe] at s1 s2;have hw:Za.wrap (((n+4:Nat):Int) - 4)=(n:Int):=by rw[ak (by omega)];omega
 unfold Cr;simp only[←hn,Xv,Z7,if_false];rw[hw,s1,Jj];unfold ke;rw[t1,aH (by simp;omega),Jj,Zy,Jj,BQ (by omega),Jj,s2,Jj,t2,Dz (by unfold mQ;simp[dU];omega),Jj];unfold Ga mQ
 by_cases c1:r.take 4=be4 (lQ (fW k m z v w d))
 ·rw [if_pos c1,c1,decide_eq_true rfl]
  simp only[Xv,Z7,if_false];rw[Ho _ _ hdb (by omega),Jj]
  by_cases c2:(dec k d m).2=0
  ·rw [if_neg (by simpa using c2),if_neg (by simpa using c2)]
   rcases Hp k d m with⟨l,e,g1,g2,g3⟩|⟨e,g1,g2⟩
   ·rw [e]
    simp only;have hm:=h.hm;have hne:l≠[]:=λe=>by rw[e] at g2;simp at g2;omega
    rw[E4 k hne (by omega),Jj];simp only[F9]
    by_cases a1:(fu l:Int)=z<;>by_cases a2:pi l=v<;>by_cases a3:pj l=w<;>simp[jC,a1,a2,a3,hn]
   ·rw[g1] at c2;exact absurd c2 g2
  ·rw[if_pos (by simpa using c2),if_pos c2]
 ·have c1': ¬ (fW k m z v w d++be4 (lQ (fW k m z v w d))=fW k m z v w d++r.take 4):=fun h=>c1 (List.append_cancel_left h).symm
  rw[if_neg c1,decide_eq_false c1']
  rfl
theorem DC {l:List Ap}{kind:Int}(h:∀v∈l,VOK v)(hw:(wr kind l).2=0):∃k,l≠[]∧(∀v∈l,Rgt v)∧enc k l=((enc k l).1,0)∧k=kG kind l∧wr kind l=(mQ (iu k l),0)∧∀t,Blk (mQ (iu k l)++t) k (l.length:Int) (fu l:Int) (pi l) (pj l) (enc k l).1 (be4 (lQ (iu k l))++t):=by
 unfold wr at hw
 by_cases hne:l=[]
 ·rw[if_pos hne] at hw;cases hw
 rw[if_neg hne] at hw
 by_cases he:(enc (kG kind l) l).2=0
 ·have he':enc (kG kind l) l=((enc (kG kind l) l).1,0):=Yj rfl he
  obtain⟨hk,h64,_⟩:=fD he';have hR:=up h he';have hn:=sq l;have h0:0<l.length:=Zh.2 hne;have hdl:=ve h he';refine⟨kG kind l,hne,hR,he',rfl,by unfold wr;rw[if_neg hne,if_neg (by simpa using he)],λt=>⟨by unfold mQ iu;simp,hk,by omega,by omega,hR _ (vb hne),hR _ (vc hne),by omega,by simp[dU]⟩⟩
 ·rw[if_pos (by simpa using he)] at hw;exact absurd hw he
theorem Hu {l:List Ap}{kind:Int}(h:∀v∈l,VOK v)(hw:(wr kind l).2=0):Byt (wr kind l).1∧(wr kind l).1.length≤100000:=by
 obtain⟨k,hne,hR,he,_,hw,hB⟩:=DC h hw;obtain⟨hk,h64,_⟩:=fD he;have hn:=sq l;have h0:0<l.length:=Zh.2 hne;have hdl:=ve h he;have hmin:=hR _ (vb hne);have hmax:=hR _ (vc hne);have l1:=(ek hmin).2;have l2:=(ek hmax).2;rw[hw];unfold mQ;refine⟨.app (BR hk ⟨by omega,by omega⟩ ⟨by omega,by omega⟩ hmin hmax (xJ k h) (by omega)) (A8 _),?_⟩;simp only[Z2,dU];unfold iu;rw[qC];omega
theorem K7 {l:List Ap}{kind:Int}(h:∀v∈l,VOK v)(hw:(wr kind l).2=0){t:List Int}(ht:Byt t)(hl:t.length≤900000000000):kY ((wr kind l).1++t)=some (l,((wr kind l).1.length:Int),0):=by
 obtain⟨hby,hle⟩:=Hu h hw;obtain⟨k,hne,hR,he,_,hw,hB⟩:=DC h hw;rw[hw] at hby hle ⊢;simp only at hby hle ⊢;rw[Jp (hby.app ht) (by simp only[Z2];omega) (hB t)];have hd:=K3 h he;unfold Ga;rw[hd,if_pos (by rw[Xi (dU _)];rfl),if_neg (by simp),if_pos ⟨rfl,rfl,rfl⟩];have:(mQ (iu k l)).length=(iu k l).length+4:=by unfold mQ;simp[dU]
 rw[this];rfl
open Option renaming bind_some→Jj,getD_some→Xd,bind_assoc→Xz
open List renaming take_succ_eq_append_getElem→Z0,getElem_mem→Z1,length_append→Z2,take_length→Z3,getElem?_eq_getElem→Z4,length_singleton→Z5,length_cons→Z6,replicate→Z8,eq_nil_of_length_eq_zero→Z9,mem_append→Zc,mem_of_mem_take→Ze,take_append_drop→Zf,drop_eq_getElem_cons→Zg,length_pos_iff→Zh,append_assoc→Zi,pairwise_cons→Zj,length_take→Zk,pairwise_append→Zn,length_map→Zo,mem_cons→Zp,getD_eq_getElem?_getD→Zt,range→Zv,flatMap_cons→Zw,foldl_cons→Zx,nil_append→Zy,mem_map→Zz,mem_singleton→X4,mem_of_getLast?→X6,pairwise_iff_getElem→X7,getElem?_eq_some_iff→X8,flatMap_append→X9,cons_append→Xb,drop_zero→Xe,drop_left→Xf,getElem?_drop→Xg,take_of_length_le→Xh,take_left'→Xi,append_nil→Xj,foldl_append→Xk,length_range→Xl,length_replicate→Xm,dropLast_concat_getLast→Xp,getElem?_append_right→Xu,getLast?_eq_none_iff→Xw,getLast?_eq_getElem?→Xx,map_append→Xy,getElem?_append_left→Y0,mem_replicate→Y2,eq_of_mem_replicate→Y4,drop_drop→Y6,flatMap_singleton→Y8,map_cons→Yb,singleton_append→Yc,getElem?_eq_none→Yd,range_succ→Yf,map_nil→Yg
open Nat renaming le_refl→Zm,lt_of_lt_of_le→Zs,mul_le_mul→Zu,strongRecOn→Xa,testBit_xor→Xc,pow_le_pow_right→Xn,eq_of_testBit_eq→Xo,two_pow_add_eq_or_of_lt→Xq,mod_two_eq_zero_or_one→Xt,testBit_succ→Y7,xor_comm→Yi
open Bool renaming false_eq_true→Z7,not_true→Xv,not_false→Y5,not_eq_true→Y9,true_and→Ya
open Int renaming eq_ofNat_of_zero_le→Zb,tmod_eq_emod_of_nonneg→Zq,tdiv_eq_ediv_of_nonneg→Zr,fdiv_eq_ediv_of_nonneg→X3,natCast_pow→Xs,toNat_natCast→Y1,emod_eq_of_lt→Y3,le_of_lt→Yh
open BitVec renaming ofInt→Zd,toNat_ofInt→Zl
open Prod renaming ext→Yj
open IntKind renaming i64→Za,u64→X5,u32→Xr,u8→Ye
end Go.Proofs.YthbonoagbeilkaaGreat.Hay
/- The checksum, bit by bit and by half bytes (plain numbers). -/
namespace Go.Proofs.YthbonoagbeilkaaGreat.Hay
open Option renaming bind_some→Jj,getD_some→Xd,bind_assoc→Xz
open List renaming take_succ_eq_append_getElem→Z0,getElem_mem→Z1,length_append→Z2,take_length→Z3,getElem?_eq_getElem→Z4,length_singleton→Z5,length_cons→Z6,replicate→Z8,eq_nil_of_length_eq_zero→Z9,mem_append→Zc,mem_of_mem_take→Ze,take_append_drop→Zf,drop_eq_getElem_cons→Zg,length_pos_iff→Zh,append_assoc→Zi,pairwise_cons→Zj,length_take→Zk,pairwise_append→Zn,length_map→Zo,mem_cons→Zp,getD_eq_getElem?_getD→Zt,range→Zv,flatMap_cons→Zw,foldl_cons→Zx,nil_append→Zy,mem_map→Zz,mem_singleton→X4,mem_of_getLast?→X6,pairwise_iff_getElem→X7,getElem?_eq_some_iff→X8,flatMap_append→X9,cons_append→Xb,drop_zero→Xe,drop_left→Xf,getElem?_drop→Xg,take_of_length_le→Xh,take_left'→Xi,append_nil→Xj,foldl_append→Xk,length_range→Xl,length_replicate→Xm,dropLast_concat_getLast→Xp,getElem?_append_right→Xu,getLast?_eq_none_iff→Xw,getLast?_eq_getElem?→Xx,map_append→Xy,getElem?_append_left→Y0,mem_replicate→Y2,eq_of_mem_replicate→Y4,drop_drop→Y6,flatMap_singleton→Y8,map_cons→Yb,singleton_append→Yc,getElem?_eq_none→Yd,range_succ→Yf,map_nil→Yg
open Nat renaming le_refl→Zm,lt_of_lt_of_le→Zs,mul_le_mul→Zu,strongRecOn→Xa,testBit_xor→Xc,pow_le_pow_right→Xn,eq_of_testBit_eq→Xo,two_pow_add_eq_or_of_lt→Xq,mod_two_eq_zero_or_one→Xt,testBit_succ→Y7,xor_comm→Yi
open Bool renaming false_eq_true→Z7,not_true→Xv,not_false→Y5,not_eq_true→Y9,true_and→Ya
open Int renaming eq_ofNat_of_zero_le→Zb,tmod_eq_emod_of_nonneg→Zq,tdiv_eq_ediv_of_nonneg→Zr,fdiv_eq_ediv_of_nonneg→X3,natCast_pow→Xs,toNat_natCast→Y1,emod_eq_of_lt→Y3,le_of_lt→Yh
open BitVec renaming ofInt→Zd,toNat_ofInt→Zl
open Prod renaming ext→Yj
open IntKind renaming i64→Za,u64→X5,u32→Xr,u8→Ye
def zU:Nat:=3988292384
def gD (x:Nat):Nat:=(x/2)^^^(if x.testBit 0 then zU else 0)
theorem Jq (a b:Nat):(a^^^b)/2=a/2^^^b/2:=by
 apply Xo;intro i;rw[Xc,←Y7,←Y7,←Y7,Xc]
theorem tj (a b:Nat):gD (a^^^b)=gD a^^^gD b:=by
 unfold gD;rw[Jq,Xc];apply Xo;intro i;cases a.testBit 0<;>cases b.testBit 0<;>simp[Xc]<;>cases (a/2).testBit i<;>cases (b/2).testBit i<;>simp
theorem rp (x:Nat):gD (2*x)=x:=by
 unfold gD;simp
def gL (x:Nat):Nat:=gD (gD (gD (gD x)))
theorem wX (x:Nat):gL x=gL (x%16)^^^(x/16):=by
 have h:x=(2*(2*(2*(2*(x/16)))))^^^(x%16):=by
  have e2:2*(2*(2*(2*(x/16))))=2^4*(x/2^4):=by
   have e:(2:Nat)^4=16:=rfl;rw[e];omega
  rw[e2,show x%16=x%2^4 from rfl];apply Xo;intro i;rw[Xc,Nat.testBit_two_pow_mul,Nat.testBit_div_two_pow,Nat.testBit_mod_two_pow]
  by_cases hi:i<4
  ·have: ¬ 4≤i:=by omega
   simp[hi,this]
  ·have h4:4≤i:=by omega
   have h5:i - 4+4=i:=by omega
   simp[hi,h4,h5]
 conv=>lhs;rw[h]
 unfold gL;rw[tj,tj,tj,tj,rp,rp,rp,rp,Yi]
def wY (x:Nat):Nat:=gL (gL x)
theorem J4 {a b:Nat}(ha:a<4294967296)(hb:b<4294967296):dm .u32 (a:Int) (b:Int)=((a&&&b:Nat):Int):=by
 unfold dm;rw[lK]
 have h1:(Zd Xr.bits (a:Int)).toNat=a:=by
  show(Zd 32 (a:Int)).toNat=a;rw[Zl];omega
 have h2:(Zd Xr.bits (b:Int)).toNat=b:=by
  show(Zd 32 (b:Int)).toNat=b;rw[Zl];omega
 rw[BitVec.toNat_and,h1,h2];have:a&&&b≤a:=Nat.and_le_left;omega
theorem tl {a b:Nat}(ha:a<4294967296)(hb:b<4294967296):dV .u32 (a:Int) (b:Int)=((a^^^b:Nat):Int):=by
 unfold dV;rw[lK]
 have h1:(Zd Xr.bits (a:Int)).toNat=a:=by
  show(Zd 32 (a:Int)).toNat=a;rw[Zl];omega
 have h2:(Zd Xr.bits (b:Int)).toNat=b:=by
  show(Zd 32 (b:Int)).toNat=b;rw[Zl];omega
 rw[BitVec.toNat_xor,h1,h2];have:a^^^b<2^32:=Nat.xor_lt_two_pow (by simpa using ha) (by simpa using hb);have e:(2:Nat)^32=4294967296:=by decide
 omega
theorem zV {a b:Nat}(ha:a<4294967296)(hb:b<4294967296):a^^^b<4294967296:=by
 have:a^^^b<2^32:=Nat.xor_lt_two_pow (by simpa using ha) (by simpa using hb);simpa using this
theorem pX {x:Nat}(h:x<4294967296):gD x<4294967296:=by
 unfold gD;exact zV (by omega) (by split<;>decide)
theorem oJ {x:Nat}(h:x<4294967296):gL x<4294967296:=pX (pX (pX (pX h)))
theorem Jr (x:Nat):x&&&1=(x.testBit 0).toNat:=by
 rw[Nat.and_one_is_mod,Nat.testBit_zero];rcases Xt x with h|h<;>simp[h]
theorem Ex {x:Nat}(hx:x<4294967296):dV .u32 (aF .u32 (x:Int) 1) (Xr.wrap (3988292384*dm .u32 (x:Int) 1))=((gD x:Nat):Int):=by
 have e1:=zT (x:=(x:Int)) (k:=1) (by omega);rw[show((1:Nat):Int)=1 from rfl] at e1;have e2:=J4 (a:=x) (b:=1) hx (by omega);rw[show((1:Nat):Int)=1 from rfl] at e2;rw[e1,e2,Jr,lK];have e3:(x:Int)/2^1=((x/2:Nat):Int):=by omega
 have e4:3988292384*(((x.testBit 0).toNat:Nat):Int)%4294967296=((if x.testBit 0 then zU else 0:Nat):Int):=by
  cases x.testBit 0<;>simp[zU]
 rw[e3,e4,tl (by omega) (by split<;>decide)]
 rfl
def qU (n:Nat):List Int:=(Zv 16).map λj=>if j<n then ((gL j:Nat):Int) else 0
theorem sr (n:Nat):(qU n).length=16:=by simp[qU]
theorem xK {n j:Nat}(h:j<16):(qU n)[j]? =some (if j<n then ((gL j:Nat):Int) else 0):=by
 unfold qU;rw[List.getElem?_map,List.getElem?_range h];rfl
theorem Js {n:Nat}(h:n<16):(qU n).set n ((gL n:Nat):Int)=qU (n+1):=by
 apply List.ext_getElem?
 intro j;rw[List.getElem?_set]
 by_cases hj:j<16
 ·rw [xK hj,xK hj]
  by_cases e:n=j
  ·subst e;rw[if_pos rfl,if_pos (by rw[sr];exact h),if_pos (by omega)]
  ·rw [if_neg e]
   by_cases h1:j<n
   ·rw[if_pos h1,if_pos (by omega)]
   ·rw[if_neg h1,if_neg (by omega)]
 ·have h1:(qU n)[j]? =none:=Yd (by rw [sr];omega)
  have h2:(qU (n+1))[j]? =none:=Yd (by rw[sr];omega);rw[h1,h2,if_neg (by omega)]
def l5 (l:List Int):Nat:=l.foldl (λc x=>wY (c^^^x.toNat)) 4294967295
def DD (l:List Int):Nat:=4294967295^^^l5 l
theorem vf {l:List Int}(h:Byt l):l5 l<4294967296:=by
 unfold l5
 have:∀(l:List Int) (c:Nat),Byt l→c<4294967296→l.foldl (λc x=>wY (c^^^x.toNat)) c<4294967296:=by
  intro l
  induction l with
  |nil=>intro c _ h;exact h
  |cons x l ih=>
   intro c hb hc;have:=hb.head;exact ih _ hb.tail (oJ (oJ (zV hc (by omega))))
 exact this l _ h (by decide)
theorem Hv {n:Nat}(h:n<4294967296):dm .u32 (n:Int) 15=((n%16:Nat):Int):=by
 have:=J4 (a:=n) (b:=15) h (by omega);rw[show((15:Nat):Int)=15 from rfl] at this;rw[this,show(15:Nat)=2^4 - 1 from rfl,Nat.and_two_pow_sub_one_eq_mod]
theorem Ms {n:Nat}:aF .u32 (n:Int) 4=((n/16:Nat):Int):=by
 have:=zT (x:=(n:Int)) (k:=4) (by omega);rw[show((4:Nat):Int)=4 from rfl] at this;rw[this];omega
theorem Hw (n:Nat)(h:n<4294967296):ix (qU 16) (dm .u32 (n:Int) 15)=some (n%16)∧(qU 16)[n%16]? =some ((gL (n%16):Nat):Int):=by
 rw[Hv h];refine⟨od (by rw[sr];omega),?_⟩;rw[xK (by omega),if_pos (by omega)]
theorem DE {b:List Int}(hb:Byt b)(hl:b.length<4611686018427387904):ic b=some ((DD b:Nat):Int):=by
 have hj1:mc b (qU 16)=some ((DD b:Nat):Int):=by
  unfold mc;refine aV (λi=>(((l5 (b.take i):Nat):Int),(i:Int))) b.length rfl (λi hi=>?_) ?_
  ·dsimp only
   unfold oZ;have hc:=vf (hb.take i);have hx:=hb _ (Z1 hi);obtain⟨x,hx'⟩:=Zb hx.1;have e0:Xr.wrap b[i]=(x:Int):=by rw[lK];omega
   obtain⟨c,hcc⟩:∃c,c=l5 (b.take i)^^^x:=⟨_,rfl⟩
   have hclt:c<4294967296:=by rw[hcc];exact zV hc (by omega)
   have hnext:l5 (b.take (i+1))=wY c:=by
    rw[Z0 hi];unfold l5 at hcc ⊢;rw[Xk,hcc];simp[hx']
   obtain⟨t1,t2⟩:=Hw c hclt;have h4:=oJ (x:=c%16) (by omega)
   have e1:dV .u32 ((gL (c%16):Nat):Int) ((c/16:Nat):Int)=((gL c:Nat):Int):=by
    rw[tl h4 (by omega),←wX]
   obtain⟨u1,u2⟩:=Hw (gL c) (oJ hclt);have h5:=oJ (x:=gL c%16) (by omega)
   have e2:dV .u32 ((gL (gL c%16):Nat):Int) ((gL c/16:Nat):Int)=((wY c:Nat):Int):=by
    rw[tl h5 (by have:=oJ hclt;omega),←wX];rfl
   rw[if_pos (by simpa using hi),ay hi,Jj,e0,tl hc (by omega),←hcc,t1,Jj,t2,Jj,Ms,e1,u1,Jj,u2,Jj,Ms,e2,aU (by omega),hnext]
  ·dsimp only
   unfold oZ wk;rw[if_neg (by simp),Z3]
   have e:Au .u32 ((l5 b:Nat):Int)=((DD b:Nat):Int):=by
    have:=tl (a:=4294967295) (b:=l5 b) (by omega) (vf hb);unfold DD;rw[←this];rfl
   rw[e];rfl
 unfold ic;refine aV (λi=>((i:Int),qU i)) 16 (by decide) (λi hi=>?_) ?_
 ·dsimp only
  unfold o4;rw[if_pos (by simpa using by omega)];have e0:Xr.wrap (i:Int)=((i:Nat):Int):=by rw[lK];omega
  rw[e0];refine aV (λq=>(((Nat.repeat gD q i:Nat):Int),(q:Int))) 4 rfl (λq hq=>?_) ?_
  ·dsimp only
   unfold md
   have hlt:∀q,Nat.repeat gD q i<4294967296:=by
    intro q
    induction q with
    |zero=>show i<_;omega
    |succ q ih=>exact pX ih
   rw[if_pos (by simpa using by omega),Ex (hlt q),aU (by omega)]
   rfl
  ·dsimp only
   unfold md rO rN;rw[if_neg (by decide),od (by rw[sr];exact hi),Jj,xK hi,Jj,aU (by omega)];have:Nat.repeat gD 4 i=gL i:=rfl;rw[this,Js hi]
   rfl
 ·dsimp only
  unfold o4;rw[if_neg (by decide),hj1]
  rfl
open Option renaming bind_some→Jj,getD_some→Xd,bind_assoc→Xz
open List renaming take_succ_eq_append_getElem→Z0,getElem_mem→Z1,length_append→Z2,take_length→Z3,getElem?_eq_getElem→Z4,length_singleton→Z5,length_cons→Z6,replicate→Z8,eq_nil_of_length_eq_zero→Z9,mem_append→Zc,mem_of_mem_take→Ze,take_append_drop→Zf,drop_eq_getElem_cons→Zg,length_pos_iff→Zh,append_assoc→Zi,pairwise_cons→Zj,length_take→Zk,pairwise_append→Zn,length_map→Zo,mem_cons→Zp,getD_eq_getElem?_getD→Zt,range→Zv,flatMap_cons→Zw,foldl_cons→Zx,nil_append→Zy,mem_map→Zz,mem_singleton→X4,mem_of_getLast?→X6,pairwise_iff_getElem→X7,getElem?_eq_some_iff→X8,flatMap_append→X9,cons_append→Xb,drop_zero→Xe,drop_left→Xf,getElem?_drop→Xg,take_of_length_le→Xh,take_left'→Xi,append_nil→Xj,foldl_append→Xk,length_range→Xl,length_replicate→Xm,dropLast_concat_getLast→Xp,getElem?_append_right→Xu,getLast?_eq_none_iff→Xw,getLast?_eq_getElem?→Xx,map_append→Xy,getElem?_append_left→Y0,mem_replicate→Y2,eq_of_mem_replicate→Y4,drop_drop→Y6,flatMap_singleton→Y8,map_cons→Yb,singleton_append→Yc,getElem?_eq_none→Yd,range_succ→Yf,map_nil→Yg
open Nat renaming le_refl→Zm,lt_of_lt_of_le→Zs,mul_le_mul→Zu,strongRecOn→Xa,testBit_xor→Xc,pow_le_pow_right→Xn,eq_of_testBit_eq→Xo,two_pow_add_eq_or_of_lt→Xq,mod_two_eq_zero_or_one→Xt,testBit_succ→Y7,xor_comm→Yi
open Bool renaming false_eq_true→Z7,not_true→Xv,not_false→Y5,not_eq_true→Y9,true_and→Ya
open Int renaming eq_ofNat_of_zero_le→Zb,tmod_eq_emod_of_nonneg→Zq,tdiv_eq_ediv_of_nonneg→Zr,fdiv_eq_ediv_of_nonneg→X3,natCast_pow→Xs,toNat_natCast→Y1,emod_eq_of_lt→Y3,le_of_lt→Yh
open BitVec renaming ofInt→Zd,toNat_ofInt→Zl
open Prod renaming ext→Yj
open IntKind renaming i64→Za,u64→X5,u32→Xr,u8→Ye
theorem K8 {b:List Int}(hb:Byt b)(hl:b.length<4611686018427387904):lQ b=((DD b:Nat):Int):=by
 unfold lQ;rw[DE hb hl];rfl
theorem E5 {b:List Int}(hb:Byt b)(hl:b.length<4611686018427387904):zD b=some (lQ b):=by
 rw[K8 hb hl];unfold zD;refine aV (λi=>(((l5 (b.take i):Nat):Int),(i:Int))) b.length rfl (λi hi=>?_) ?_
 ·dsimp only
  unfold wy;have hc:=vf (hb.take i);have hx:=hb _ (Z1 hi);obtain⟨x,hx'⟩:=Zb hx.1;have e0:Xr.wrap b[i]=(x:Int):=by rw[lK];omega
  obtain⟨c,hcc⟩:∃c,c=l5 (b.take i)^^^x:=⟨_,rfl⟩
  have hclt:c<4294967296:=by rw[hcc];exact zV hc (by omega)
  have hnext:l5 (b.take (i+1))=wY c:=by
   rw[Z0 hi];unfold l5 at hcc ⊢;rw[Xk,hcc];simp[hx']
  rw[if_pos (by simpa using hi),ay hi,Jj,e0,tl hc (by omega),←hcc];refine aV (λq=>(((Nat.repeat gD q c:Nat):Int),(q:Int))) 8 rfl (λq hq=>?_) ?_
  ·dsimp only
   have hlt:∀q,Nat.repeat gD q c<4294967296:=by
    intro q
    induction q with
    |zero=>exact hclt
    |succ q ih=>exact pX ih
   have hq0:=hlt q;obtain⟨y,hy⟩:∃y,y=Nat.repeat gD q c:=⟨_,rfl⟩
   have hs:Nat.repeat gD (q+1) c=gD y:=by rw[hy];rfl
   rw[←hy] at hq0 ⊢;unfold ww wv;have e1:((y:Int)).tmod 2=((y%2:Nat):Int):=by rw[Zq (by omega)];omega
   have e2:((y:Int)).tdiv 2=((y/2:Nat):Int):=by rw[Zr (by omega)];omega
   have e3:Xr.wrap ((y/2:Nat):Int)=((y/2:Nat):Int):=by rw[lK];omega
   rw[if_pos (by simpa using by omega),e1,e2,e3,aU (by omega),hs];unfold gD;rw[Nat.testBit_zero];rcases Xt y with h|h
   ·rw[h,Yi];simp
   ·rw [h]
    have e4:dV .u32 ((y/2:Nat):Int) 3988292384=((y/2^^^zU:Nat):Int):=tl (a:=y/2) (b:=zU) (by omega) (by decide);rw[e4];rfl
  ·dsimp only
   unfold ww BD;rw[if_neg (by decide),aU (by omega),hnext]
   rfl
 ·dsimp only
  unfold wy BB;rw[if_neg (by simp),Z3];have e:=tl (a:=l5 b) (b:=4294967295) (vf hb) (by omega);rw[show((4294967295:Nat):Int)=4294967295 from rfl] at e;rw[e,Yi]
  rfl
def dR (n:Int):Nat→Int
 |0=>n
 |k+1=>dR n k/256
theorem A9 {n:Int} (h:0≤n∧n<18446744073709551616): ∀k,0≤dR n k∧dR n k<18446744073709551616
 |0=>h
 |k+1=>by have:=A9 h k;unfold dR;omega
theorem rq {n:Int}(h:0≤n∧n<4294967296):oE n 4=some (be4 n):=by
 unfold oE
 have inner:∀(acc:List Int) (i:Nat),acc.length≤1000→i<10→o7 n acc (i:Int)=some (.inl (acc++[dR n i%256],(i:Int) - 1)):=by
  intro acc i hal hi;unfold o7;rw[if_pos (by simp)];refine aV (λq=>(dR n q,(q:Int))) i rfl (λq hq=>?_) ?_
  ·dsimp only
   unfold rZ;have hb:=A9 (n:=n) (by omega) q
   have e:X5.wrap ((dR n q).tdiv 256)=dR n (q+1):=by
    rw[bD,Zr hb.1];have:dR n (q+1)=dR n q/256:=rfl;omega
   rw[if_pos (by simpa using hq),e,aU (by omega)]
  ·dsimp only
   unfold rZ wB wA;have hb:=A9 (n:=n) (by omega) i
   have e:Ye.wrap ((dR n i).tmod 256)=dR n i%256:=by
    rw[bm,Zq hb.1];omega
   rw[if_neg (by simp),e,aH (by simp;omega),Jj,ak (by omega)]
   rfl
 have h3:=inner [] 3 (by simp) (by omega);have h2:=inner ([]++[dR n 3%256]) 2 (by simp) (by omega);have h1:=inner ([]++[dR n 3%256]++[dR n 2%256]) 1 (by simp) (by omega);have h0:=inner ([]++[dR n 3%256]++[dR n 2%256]++[dR n 1%256]) 0 (by simp) (by omega);rw[show Za.wrap (4 - 1)=((3:Nat):Int) from rfl];rw[bP (s':=([]++[dR n 3%256],((2:Nat):Int))) (by dsimp only;rw[h3];rfl)];rw[bP (s':=([]++[dR n 3%256]++[dR n 2%256],((1:Nat):Int))) (by dsimp only;rw[h2];rfl)];rw[bP (s':=([]++[dR n 3%256]++[dR n 2%256]++[dR n 1%256],((0:Nat):Int))) (by dsimp only;rw[h1];rfl)]
 rw[bP (s':=([]++[dR n 3%256]++[dR n 2%256]++[dR n 1%256]++[dR n 0%256],-1)) (by dsimp only;rw[h0];rfl)];refine a7 ?_;dsimp only;unfold o7 wz;rw[if_neg (by decide)];have e3:dR n 3=n/2^24:=by unfold dR dR dR dR;omega
 have e2:dR n 2=n/2^16:=by unfold dR dR dR;omega
 have e1:dR n 1=n/2^8:=by unfold dR dR;omega
 rw[e3,e2,e1]
 rfl
def Hx (kind:Int)(l:List Ap):du:=⟨kind,(l.length:Int),pi l,pj l,(fu l:Int),0⟩
theorem Gb {l:List Ap}{i:Nat}(h:i<l.length):fu (l.take (i+1))=fu (l.take i)+if (l[i].fKind==0)=true then 1 else 0:=by
 unfold fu;rw[Z0 h,List.filter_append,Z2];congr 1
 by_cases hv:(l[i].fKind==0)=true
 ·rw[if_pos hv];simp at hv;simp[hv]
 ·rw[if_neg hv];simp at hv;simp[hv]
theorem Jt {l:List Ap}(kind:Int)(h:l≠[])(hl:l.length≤1048576):yH kind l=some (Hx kind l):=by
 cases hlr:l with
 |nil=>exact absurd hlr h
 |cons v r=>
 rw[←hlr];have i0:idx l 0=some v:=by rw[hlr];exact dK _ _
 unfold yH;rw[i0,Jj,Jj];refine aV (λi=>((i:Int),(⟨kind,(l.length:Int),(l.take i).foldl (λm x=>if ltV x m then x else m) v,(l.take i).foldl (λm x=>if ltV m x then x else m) v,(fu (l.take i):Int),0⟩:du))) l.length rfl (λi hi=>?_) ?_
 ·dsimp only
  obtain⟨a,ha⟩:∃a,a=(l.take i).foldl (λm x=>if ltV x m then x else m) v:=⟨_,rfl⟩
  obtain⟨b,hb⟩:∃b,b=(l.take i).foldl (λm x=>if ltV m x then x else m) v:=⟨_,rfl⟩
  have hn:=sq (l.take i);simp only[Zk] at hn;rw[iS hi,iS hi,Gb hi,←ha,←hb]
  have j3:∀x y,qg l (i:Int) ⟨kind,(l.length:Int),x,y,(fu (l.take i):Int),0⟩=some (.inl (((i+1:Nat):Int),⟨kind,(l.length:Int),x,y,((fu (l.take i)+if (l[i].fKind==0)=true then 1 else 0:Nat):Int),0⟩)):=by
   intro x y;unfold qg tP;rw[ay hi,Jj,aU (by omega)]
   by_cases hv:(l[i].fKind==0)=true
   ·rw [if_pos hv,if_pos hv]
    dsimp only;rw[aU (by omega)]
   ·rw[if_neg hv,if_neg hv];rfl
  have j2:∀x,qh l (i:Int) ⟨kind,(l.length:Int),x,b,(fu (l.take i):Int),0⟩=some (.inl (((i+1:Nat):Int),⟨kind,(l.length:Int),x,if ltV b l[i] then l[i] else b,((fu (l.take i)+if (l[i].fKind==0)=true then 1 else 0:Nat):Int),0⟩)):=by
   intro x;unfold qh;rw[ay hi,Jj,pT,Jj]
   by_cases hc:ltV b l[i]=true
   ·rw[if_pos (decide_eq_true ((va _ _).2 hc)),Jj,if_pos hc];exact j3 _ _
   ·rw[if_neg (by simpa using λh=>hc ((va _ _).1 h)),if_neg hc];exact j3 _ _
  unfold tQ;rw[if_pos (by simpa using hi),ay hi,Jj,pT,Jj]
  by_cases hc:ltV l[i] a=true
  ·rw[if_pos (decide_eq_true ((lf _ _).2 hc)),Jj,if_pos hc];exact j2 _
  ·rw[if_neg (by simpa using λh=>hc ((lf _ _).1 h)),if_neg hc];exact j2 _
 ·dsimp only
  unfold tQ yd;rw[if_neg (by simp),Z3]
  have e1:l.foldl (λm x=>if ltV x m then x else m) v=pi l:=by
   rw[hlr];simp only[pi,Zx]
   have:ltV v v=false:=by
    cases hvv:ltV v v with
    |false=>rfl
    |true=>have:=sk hvv;rw[hvv] at this;cases this
   rw[this];rfl
  have e2:l.foldl (λm x=>if ltV m x then x else m) v=pj l:=by
   rw[hlr];simp only[pj,Zx]
   have:ltV v v=false:=by
    cases hvv:ltV v v with
    |false=>rfl
    |true=>have:=sk hvv;rw[hvv] at this;cases this
   rw[this];rfl
  rw[e1,e2]
  rfl
theorem Hy {l:List Ap}(kind:Int)(h:∀v∈l,VOK v)(hl:l.length≤1048576):yI kind l=some (wr kind l):=by
 have key:∀k,l≠[]→qi l k=some (if (enc k l).2≠0 then ([],(enc k l).2) else (mQ (iu k l),0)):=by
  intro k hne;unfold qi;rw[qS k h hl,Jj]
  by_cases he:(enc k l).2=0
  ·rw [if_neg (by simpa using he),if_neg (by simpa using he)]
   have he':enc k l=((enc k l).1,0):=Yj rfl he;obtain⟨hk,h64,_⟩:=fD he';have hR:=up h he';have hdl:=ve h he';have hn:=sq l;have h0:0<l.length:=Zh.2 hne;have hmin:=hR _ (vb hne);have hmax:=hR _ (vc hne);have l1:=(ek hmin).2;have l2:=(ek hmax).2;rw[Jt k hne hl,Jj];simp only[Hx];rw[pf hmin,Jj,aH (by simp;omega),Jj,pf hmax,Jj,aH (by simp;omega),Jj,aH (by simp;omega),Jj,aH (by simp;omega),Jj];have a1:Ye.wrap k=k:=by rw[bm];omega
   have a2:Ye.wrap (l.length:Int)=(l.length:Int):=by rw[bm];omega
   have a3:Ye.wrap (fu l:Int)=(fu l:Int):=by rw[bm];omega
   have a4:Ye.wrap (Za.wrap (((enc k l).1.length:Int).tdiv 256))=(((enc k l).1.length/256:Nat):Int):=by
    rw[Zr (by omega),ak (by omega),bm];omega
   have a5:Ye.wrap (((enc k l).1.length:Int).tmod 256)=(((enc k l).1.length%256:Nat):Int):=by
    rw[Zq (by omega),bm];omega
   have e:(([Ye.wrap k,Ye.wrap (l.length:Int),Ye.wrap (fu l:Int)]++bv (pi l)++bv (pj l)++[Ye.wrap (Za.wrap (((enc k l).1.length:Int).tdiv 256)),Ye.wrap (((enc k l).1.length:Int).tmod 256)])++(enc k l).1)=iu k l:=by
    unfold iu fW be2;rw[a1,a2,a3,a4,a5];simp
   have hbb:Byt (iu k l):=BR hk ⟨by omega,by omega⟩ ⟨by omega,by omega⟩ hmin hmax (xJ k h) (by omega);have s2:(iu k l).length≤1000000000:=by unfold iu;rw[qC];omega
   have hu:=(wV (b:=iu k l) (by omega)).2;unfold U32 at hu;rw[e,E5 hbb (by omega),Jj,bD,Y3 hu.1 (by omega),rq hu,Jj,aH (by rw[dU];omega),Jj]
   rfl
  ·rw[if_pos (by simpa using he),if_pos he]
 unfold yI wr
 by_cases hne:l=[]
 ·subst hne;rfl
 ·have h0:0<l.length:=Zh.2 hne
  rw[if_neg (by simp;omega),if_neg hne];unfold kG
  by_cases hk:kind= -1
  ·rw[if_pos (by simpa using hk),if_pos hk,Ew h hl,Jj,key _ hne]
  ·rw[if_neg (by simpa using hk),if_neg hk,key _ hne]
theorem Ju {n:Int}(h:U32 n):ez (be4 n)=n:=by
 unfold U32 at h;unfold be4 ez;simp only[Zx,List.foldl_nil];omega
set_option linter.unusedVariables false
set_option linter.unusedSimpArgs false
section
variable {α:Type}
theorem Mt {xs:List α}{i:Nat}(h:i<xs.length):ix xs (i:Int)=some i:=by
  unfold ix;rw[if_pos (by omega)];simp
theorem vg {xs A B:List α}{x:α}{i:Int}(e:xs=A++x::B)(hi:i=(A.length:Int)):ix xs i=some A.length:=by
  subst e hi;unfold ix;rw[if_pos (by simp;omega)];simp
theorem pk {xs A B:List α}{x:α}(e:xs=A++x::B):xs[A.length]? =some x:=by subst e;simp
theorem zW {xs A B:List α}{x:α}(y:α)(e:xs=A++x::B):xs.set A.length y=A++y::B:=by subst e;simp
theorem J5 {β:Type}{xs A B:List α}{x:α}{i:Int}{k:Nat→α→Option β}(e:xs=A++x::B)(hi:i=(A.length:Int)):((ix xs i).bind λj=>(xs[j]?).bind λx=>k j x)=k A.length x:=by
  rw[vg e hi,Jj,pk e,Jj]
def swp (xs:List α) (i j:Int):Option (List α):=
  (ix xs i).bind λa=>(xs[a]?).bind λx=>(ix xs j).bind λb=>(xs[b]?).bind λy=>(ix xs j).bind λc=>(xs[c]?).bind λ_=>
  (ix (xs.set c x) i).bind λd=>((xs.set c x)[d]?).bind λ_=>some ((xs.set c x).set d y)
theorem Hz {A B C xs:List α}{x y:α}{i j:Int}(e:xs=A++x::(B++y::C))(hi:i=(A.length:Int))(hj:j=(A.length:Int)+1+B.length):swp xs i j=some (A++y::(B++x::C)):=by
  have e2:xs=(A++x::B)++y::C:=by rw[e];simp
  have hj:j=((A++x::B).length:Int):=by rw[hj];simp;omega
  unfold swp;rw[vg e hi,Jj,pk e,Jj,vg e2 hj,Jj,pk e2,Jj,Jj,pk e2,Jj];have e3:=zW x e2;rw[e3];have e4:(A++x::B)++x::C=A++x::(B++x::C):=by simp
  rw[vg e4 hi,Jj,pk e4,Jj,zW y e4]
theorem HA {A B C xs:List α}{x y:α}{i j:Int}(e:xs=A++x::(B++y::C))(hi:i=(A.length:Int))(hj:j=(A.length:Int)+1+B.length):swp xs j i=some (A++y::(B++x::C)):=by
  have e2:xs=(A++x::B)++y::C:=by rw[e];simp
  have hj:j=((A++x::B).length:Int):=by rw[hj];simp;omega
  unfold swp;rw[vg e2 hj,Jj,pk e2,Jj,vg e hi,Jj,pk e,Jj,Jj,pk e,Jj];have e3:=zW y e;rw[e3];have e4:A++y::(B++y::C)=(A++y::B)++y::C:=by simp
  have hj2:j=((A++y::B).length:Int):=by rw[hj];simp
  have e5:(A++x::B).length=(A++y::B).length:=by simp
  rw[vg e4 hj2,Jj,pk e4,Jj,zW x e4];simp
theorem Ba {n:Nat}{S:List α}(h:S.length=n+1):∃S' s,S=S'++[s]∧S'.length=n:=by
  have hn:S≠[]:=by intro e;rw[e] at h;cases h
  refine⟨S.dropLast,S.getLast hn,(Xp hn).symm,by simp[h]⟩
theorem Stb.perm {lt:α→α→Bool}(h:Swo lt){l l':List α}(hs:Stb lt l l'):l'.Perm l:=by
  classical
  rw[List.perm_iff_count];intro a;rw[←List.count_filter (p:=eqv lt a) (kJ h a),hs.flt a,List.count_filter (kJ h a)]
theorem Stb.len {lt:α→α→Bool}(h:Swo lt){l l':List α}(hs:Stb lt l l'):l'.length=l.length:=(hs.perm h).length_eq
theorem Stb.app {lt:α→α→Bool} {l l' m m':List α} (h1:Stb lt l l') (h2:Stb lt (l'++m) m'):Stb lt (l++m) m':=
  h2.trans λa=>by simp[h1.flt]
end
def Cmp {α:Type}(lt:α→α→Bool)(p:α→α→Option Int):Prop:= ∀x y,∃c,p x y=some c∧decide (c<0)=lt x y
section
variable {lt:aa→aa→Bool}{p:aa→aa→Option Int}
theorem Mu (h : Swo lt) (hp : Cmp lt p) (L R : List aa) (v : aa) (a x6 : Int) (ha : a = (L.length : Int)) (hx : -9223372036854775808 ≤ x6 + 1 ∧ x6 + 1 ≤ 9223372036854775807) :
    ∀(n:Nat) (S1 S2:List aa) (j:Int) (xs:List aa),S1.length=n→j=(L.length:Int)+S1.length→xs=L++S1++v::(S2++R)→Srt lt (S1++S2)→(∀s∈S2,lt v s=true)→j<4611686018427387904→
    ∃T,am (λs:(Int×List aa)=>aZ a p x6 s.1 s.2) (j,xs)=some (.inl (x6+1,L++T++R))∧Stb lt (S1++S2++[v]) T:=by
  intro n
  induction n with
  | zero =>
    intro S1 S2 j xs hn hj hxs hs hv hb;obtain rfl:=Z9 hn;refine⟨v::S2,?_,?_⟩
    · apply a7
      simp only[aZ];rw[if_neg (by simp;simp at hj;omega)];simp only[aY,cz,ak hx];simp[hxs]
    ·simpa using Stb.ins h (S1:=[]) hs hv (by simp)
  | succ n ih =>
    intro S1 S2 j xs hn hj hxs hs hv hb;obtain⟨S1',s,rfl,hn'⟩:=Ba hn;rw[Z2,Z5] at hj;have e1:xs=(L++S1')++s::([]++v::(S2++R)):=by rw[hxs];simp
    have e2:xs=(L++(S1'++[s]))++v::(S2++R):=hxs;have hj1:j - 1=((L++S1').length:Int):=by rw[Z2];omega
    have hj2:j=((L++(S1'++[s])).length:Int):=by simp;omega
    have hw:Za.wrap (j - 1)=j - 1:=ak (by omega);obtain⟨c,hc,hd⟩:=hp v s
    have hb2:aZ a p x6 j xs=aY x6 j xs (lt v s):=by
      simp only[aZ];rw[if_pos (by simp;omega),J5 e2 hj2,hw,J5 e1 hj1,hc,Jj,hd]
    cases hl:lt v s with
    | true =>
      have hst:aZ a p x6 j xs=some (.inl (j - 1,(L++S1')++v::([]++s::(S2++R)))):=by
        have h1:(swp xs (j - 1) j)=_:=Hz e1 hj1 (by rw[←hj1];simp)
        have h2:aY x6 j xs true=(swp xs (j - 1) j).bind λr=>some (.inl (j - 1,r)):=by
          simp only[aY,swp,Xz,Jj,hw,if_true]
        rw[hb2,hl,h2,h1,Jj]
      obtain⟨T,h1,h2⟩:=ih S1' (s::S2) (j - 1) _ hn' (by omega) rfl (by simpa using hs) (by
        intro x hx;rcases Zp.1 hx with rfl|hx
        ·exact hl
        ·exact hv x hx) (by omega)
      refine⟨T,?_,by simpa using h2⟩;rw[bP hst];simpa using h1
    | false =>
      refine⟨S1'++[s]++v::S2,?_,?_⟩
      · apply a7
        show aZ a p x6 j xs=_;rw[hb2,hl];simp only[aY,cz,ak hx];simp[hxs]
      · refine Stb.ins h hs hv (CU h ?_ hl)
        unfold Srt at hs ⊢;rw[Zn] at hs;exact hs.1
theorem K9 (h:Swo lt) (hp:Cmp lt p) (L R:List aa) (a b:Int) (ha:a=(L.length:Int)) (hb:b<4611686018427387904):
    ∀(Y S0 S:List aa) (j:Int) (xs:List aa),Stb lt S0 S→j=(L.length:Int)+S.length→b=(L.length:Int)+S.length+Y.length→xs=L++S++(Y++R)→
    ∃T,am (λs:(Int×List aa)=>bj a b p s.1 s.2) (j,xs)=some (L++T++R)∧Stb lt (S0++Y) T:=by
  intro Y
  induction Y with
  | nil =>
    intro S0 S j xs hs hj hb' hxs;refine⟨S,?_,by simpa using hs⟩;apply a7;simp only[bj];rw[if_neg (by simp;simp at hb';omega)];simp[hxs]
  | cons v Y ih =>
    intro S0 S j xs hs hj hb' hxs;rw[Z6] at hb';obtain⟨T,h1,h2⟩:=Mu h hp L (Y++R) v a j ha (by omega) S.length S [] j xs rfl hj (by rw[hxs];simp) (by simpa using hs.srt) (by simp) (by omega)
    have hst:bj a b p j xs=some (.inl (j+1,L++T++(Y++R))):=by
      simp only[bj];rw[if_pos (by simp;omega)];exact h1
    rw[Xj] at h2;have hlT:=h2.len h;rw[Z2,Z5] at hlT;obtain⟨T',h3,h4⟩:=ih (S0++[v]) T (j+1) _ (hs.app h2) (by omega) (by omega) rfl;refine⟨T',?_,by simpa using h4⟩;rw[bP hst,h3]
theorem HB (h:Swo lt) (hp:Cmp lt p) (L X R:List aa) {a b:Int} {xs:List aa} (ha:a=(L.length:Int)) (hb:b=(L.length:Int)+X.length) (hn:b<4611686018427387904) (hxs:xs=L++X++R):
    ∃T,cf xs a b p=some (L++T++R)∧Stb lt X T:=by
  unfold cf;rw[ak (by omega)];cases X with
  | nil =>
    refine⟨[],?_,⟨List.Pairwise.nil,λ_=>rfl⟩⟩;apply a7;simp only[bj];rw[if_neg (by simp;simp at hb;omega)];simp[hxs]
  | cons v X =>
    rw[Z6] at hb;obtain⟨T,h1,h2⟩:=K9 h hp L R a b ha hn X [v] [v] (a+1) xs ⟨by simp[Srt],λ_=>rfl⟩ (by simp;omega) (by simp;omega) (by rw[hxs];simp);exact⟨T,h1,by simpa using h2⟩
end
set_option linter.unusedVariables false
set_option linter.unusedSimpArgs false
section
variable {lt:aa→aa→Bool}{p:aa→aa→Option Int}
theorem Jv (p1 p2 p3:Int): ∀(U2 V2 A V1 B U1 C:List aa) (i:Int) (xs:List aa),V2.length=U2.length→V1.length=U1.length→i=(V1.length:Int)→p1=(A.length:Int)→
  p2=(A.length:Int)+V1.length+U2.length+B.length→p3=i+U2.length→xs=A++V1++U2++B++U1++V2++C→p2+p3<4611686018427387904→
  am (λs:(Int×List aa)=>bF p1 p2 p3 s.1 s.2) (i,xs)=some (A++(V1++V2)++B++(U1++U2)++C):=by
 intro U2
 induction U2 with
 |nil=>
  intro V2 A V1 B U1 C i xs h1 h2 h3 h4 h5 h6 hxs hb;obtain rfl:=Z9 (h1.trans rfl);apply a7;simp only[bF];rw[if_neg (by simp;simp at h6;omega)];simp[hxs]
 | cons u U2 ih =>
  intro V2 A V1 B U1 C i xs h1 h2 h3 h4 h5 h6 hxs hb;cases V2 with
  |nil=>cases h1
  | cons v V2 =>
   rw[Z6,Z6] at h1;rw[Z6] at h5 h6;have e1:xs=(A++V1)++u::((U2++B++U1)++v::(V2++C)):=by rw[hxs];simp
   have hi:p1+i=((A++V1).length:Int):=by rw[Z2];omega
   have hj:p2+i=((A++V1).length:Int)+1+(U2++B++U1).length:=by simp only[Z2];omega
   have hst:bF p1 p2 p3 i xs=some (.inl (i+1,(A++V1)++v::((U2++B++U1)++u::(V2++C)))):=by
    have h1:=HA e1 hi hj
    have h2:bF p1 p2 p3 i xs=(swp xs (p2+i) (p1+i)).bind λr=>some (.inl (i+1,r)):=by
     simp only[bF,swp,Xz,Jj];rw[if_pos (by simp;omega),ak (by omega),ak (by omega),ak (by omega)]
    rw[h2,h1,Jj]
   rw[bP hst,ih V2 A (V1++[v]) B (U1++[u]) C (i+1) _ (by omega) (by simp;omega) (by simp;omega) h4 (by simp;omega) (by omega) (by simp) hb];simp
theorem DF {A U B V C xs:List aa} {p1 p2 p3:Int} (h1:V.length=U.length) (h2:p1=(A.length:Int)) (h3:p2=(A.length:Int)+U.length+B.length) (h4:p3=(U.length:Int)) (hxs:xs=A++U++B++V++C) (hb:p2+p3<4611686018427387904):
  ce xs p1 p2 p3 p=some (A++V++B++U++C):=by
 unfold ce;have:=Jv p1 p2 p3 U V A [] B [] C 0 xs h1 rfl rfl h2 (by simp;omega) (by omega) (by simpa using hxs) hb;simpa using this
theorem Jw (m:Int): ∀(n:Nat) (X Y A C:List aa) (i j:Int) (xs:List aa),X.length+Y.length=n→0<X.length→0<Y.length→i=(X.length:Int)→j=(Y.length:Int)→m=(A.length:Int)+X.length→
  xs=A++X++Y++C→m+j<2305843009213693952→i<2305843009213693952→
  am (λs:(Int×Int×List aa)=>bB m p s.1 s.2.1 s.2.2) (i,j,xs)=some (A++Y++X++C):=by
 intro n
 induction n using Xa with
 | _ n ih =>
  intro X Y A C i j xs hn hX hY hi hj hm hxs hb hb2
  by_cases hij:i=j
  ·apply a7
   simp only[bB];rw[if_neg (by simp[hij])];simp only[d7];rw[ak (by omega),DF (A:=A) (U:=X) (B:=[]) (V:=Y) (C:=C) (by omega) (by omega) (by simp;omega) hi (by simp[hxs]) (by omega)];simp
  ·by_cases hlt:j<i
   ·have hX2:X=X.take Y.length++X.drop Y.length:=(Zf _ _).symm
    have hst:bB m p i j xs=some (.inl (i - j,j,(A++Y)++X.drop Y.length++X.take Y.length++C)):=by
     simp only[bB]
     rw [if_pos (by simp [hij]),if_pos (by simp [hlt]),ak (by omega),DF (A:=A) (U:=X.take Y.length) (B:=X.drop Y.length) (V:=Y) (C:=C) (by simp;omega) (by omega) (by simp;omega) (by simp;omega)
      (by rw[hxs];simp) (by omega),Jj,ak (by omega)]
    rw[bP hst,ih (n - Y.length) (by omega) (X.drop Y.length) (X.take Y.length) (A++Y) C (i - j) j _ (by simp;omega) (by simp;omega) (by simp;omega) (by simp;omega) (by simp;omega) (by simp;omega) rfl (by omega) (by omega)];simp
   ·have hY2:Y=Y.take (Y.length - X.length)++Y.drop (Y.length - X.length):=(Zf _ _).symm
    have hst:bB m p i j xs=some (.inl (i,j - i,A++Y.drop (Y.length - X.length)++Y.take (Y.length - X.length)++(X++C))):=by
     simp only[bB]
     rw [if_pos (by simp [hij]),if_neg (by simp;omega),ak (n:=m - i) (by omega),ak (n:=m+j) (by omega),ak (n:=m+j - i) (by omega),
      DF (A:=A) (U:=X) (B:=Y.take (Y.length - X.length)) (V:=Y.drop (Y.length - X.length)) (C:=C) (by simp;omega) (by omega) (by simp;omega) (by omega)
      (by rw[hxs];simp) (by omega),Jj,ak (by omega)]
     simp
    rw[bP hst,ih (n - X.length) (by omega) (Y.drop (Y.length - X.length)) (Y.take (Y.length - X.length)) A (X++C) i (j - i) _ (by simp;omega) (by simp;omega) (by simp;omega) (by simp;omega) (by simp;omega) (by simp;omega) rfl (by omega) (by omega)];simp
theorem Mv {A X Y C xs:List aa} {a m b:Int} (hX:0<X.length) (hY:0<Y.length) (ha:a=(A.length:Int)) (hm:m=a+X.length) (hb:b=m+Y.length) (hxs:xs=A++X++Y++C) (hn:b<2305843009213693952):
  cB xs a m b p=some (A++Y++X++C):=by
 unfold cB;rw[ak (by omega),ak (by omega)];exact Jw m _ X Y A C _ _ xs rfl hX hY (by omega) (by omega) (by omega) hxs (by omega) (by omega)
theorem Jx (e:Int) (he:e<4611686018427387904) (x:aa) (Q:List aa): ∀(Bs pre:List aa) (k:Int) (xs:List aa),k=(pre.length:Int)→e - 1=k+Bs.length→xs=pre++x::(Bs++Q)→
  am (λs:(Int×List aa)=>bJ e s.1 s.2) (k,xs)=some (pre++Bs++x::Q):=by
 intro Bs
 induction Bs with
 |nil=>
  intro pre k xs hk h1 hxs;apply a7;simp only[bJ];rw[ak (by omega),if_neg (by simp;simp at h1;omega)];simp[dP,hxs]
 | cons b Bs ih =>
  intro pre k xs hk h1 hxs;rw[Z6] at h1;have e1:xs=pre++x::([]++b::(Bs++Q)):=by rw[hxs];simp
  have hst:bJ e k xs=some (.inl (k+1,pre++b::([]++x::(Bs++Q)))):=by
   have h2:=HA e1 hk (j:=k+1) (by simp;omega)
   have h3:bJ e k xs=(swp xs (k+1) k).bind λr=>some (.inl (k+1,r)):=by
    simp only[bJ,swp,Xz,Jj];rw[ak (n:=e - 1) (by omega),if_pos (by simp;omega),ak (by omega)]
   rw[h3,h2,Jj]
  rw[bP hst,ih (pre++[b]) (k+1) _ (by simp;omega) (by omega) (by simp)];simp
theorem Jy (e:Int) (y:aa) (pre:List aa) (he:e=(pre.length:Int)): ∀(n:Nat) (As Q:List aa) (k:Int) (xs:List aa),As.length=n→k=e+As.length→xs=pre++As++y::Q→k<4611686018427387904→
  am (λs:(Int×List aa)=>bK e s.1 s.2) (k,xs)=some (pre++y::(As++Q)):=by
 intro n
 induction n with
 |zero=>
  intro As Q k xs hn hk hxs hb;obtain rfl:=Z9 hn;apply a7;simp only[bK];rw[if_neg (by simp;simp at hk;omega)];simp[dQ,hxs]
 | succ n ih =>
  intro As Q k xs hn hk hxs hb;obtain⟨As',s,rfl,hn'⟩:=Ba hn;rw[Z2,Z5] at hk;have e1:xs=(pre++As')++s::([]++y::Q):=by rw[hxs];simp
  have hst:bK e k xs=some (.inl (k - 1,(pre++As')++y::([]++s::Q))):=by
   have h2:=Hz e1 (i:=k - 1) (j:=k) (by simp;omega) (by simp;omega)
   have h3:bK e k xs=(swp xs (k - 1) k).bind λr=>some (.inl (k - 1,r)):=by
    simp only[bK,swp,Xz,Jj];rw[if_pos (by simp;omega),ak (by omega)]
   rw[h3,h2,Jj]
  rw[bP hst,ih As' (s::Q) (k - 1) _ hn' (by omega) (by simp) (by omega)];simp
end
theorem xL {β:Type} {F:Int×Int→Option ((Int×Int)⊕β)} (g:Nat→Bool) (lo0 hi0:Nat) (K:Nat→Option β)
  (hgo:∀lo hi:Nat,lo0≤lo→lo<hi→hi≤hi0→F (lo,hi)=some (.inl (if g ((lo+hi)/2) then (((lo+hi)/2+1:Nat),hi) else (lo,((lo+hi)/2:Nat)))))
  (hend:∀s:Nat,lo0≤s→s≤hi0→F (s,s)=(K s).map Sum.inr) (h:lo0≤hi0):
  ∃s:Nat,lo0≤s∧s≤hi0∧(s=lo0∨g (s - 1)=true)∧(s=hi0∨g s=false)∧am F ((lo0:Int),(hi0:Int))=K s:=by
 have key: ∀(n lo hi:Nat),hi - lo=n→lo0≤lo→lo≤hi→hi≤hi0→(lo=lo0∨g (lo - 1)=true)→(hi=hi0∨g hi=false)→
   ∃s:Nat,lo0≤s∧s≤hi0∧(s=lo0∨g (s - 1)=true)∧(s=hi0∨g s=false)∧am F ((lo:Int),(hi:Int))=K s:=by
  intro n
  induction n using Xa with
  | _ n ih =>
   intro lo hi hn h1 h2 h3 h4 h5
   by_cases hlt:lo<hi
   ·have hst:=hgo lo hi h1 hlt h3
    cases hg:g ((lo+hi)/2) with
    |true=>
     rw[hg,if_pos rfl] at hst;rw[bP hst];exact ih (hi - ((lo+hi)/2+1)) (by omega) _ _ rfl (by omega) (by omega) h3 (Or.inr (by simpa using hg)) h5
    |false=>
     rw[hg,if_neg (by simp)] at hst;rw[bP hst];exact ih ((lo+hi)/2 - lo) (by omega) _ _ rfl h1 (by omega) (by omega) h4 (Or.inr hg)
   ·obtain rfl:lo=hi:=by omega
    refine⟨lo,h1,h3,h4,h5,?_⟩;rw[pD,hend lo h1 h3];cases K lo<;>rfl
 exact key _ lo0 hi0 rfl (Zm _) h (Zm _) (Or.inl rfl) (Or.inl rfl)
theorem uq {x:Int}(h:0≤x∧x<9223372036854775808):Za.wrap (aF .u64 (X5.wrap (Za.wrap x)) 1)=x/2:=by
 rw[ak (n:=x) (by omega),bD,Y3 (by omega) (by omega)];have:aF .u64 x ((1:Nat):Int)=x/2^1:=qm (by decide);rw[show(1:Int)=((1:Nat):Int) from rfl,this,ak (by omega)]
 rfl
section
variable {α:Type}
theorem ur {β:Type}{xs:List α}{x:α}{i:Int}{h:Nat}{k:Nat→α→Option β}(e:xs[h]? =some x)(hi:i=(h:Int)):((ix xs i).bind λj=>(xs[j]?).bind λx=>k j x)=k h x:=by
 obtain⟨hl,hx⟩:=X8.1 e;rw[hi,Mt hl,Jj,e,Jj]
theorem xsA {L A B R:List α}{k:Nat}(h:k<A.length):(L++A++B++R)[L.length+k]? =A[k]? :=by
 rw[Zi,Zi,Xu (by omega),show L.length+k - L.length=k by omega,Y0 h]
theorem xsB {L A B R:List α}{k:Nat}(h:k<B.length):(L++A++B++R)[L.length+A.length+k]? =B[k]? :=by
 rw[Zi,Xu (by simp),show L.length+A.length+k - (L++A).length=k by simp,Y0 h]
theorem BS {A:List α}{k:Nat}(h:k<A.length){x:α}(e:A[k]? =some x):∃A',A.take (k+1)=A'++[x]:=by
 obtain⟨hl,hx⟩:=X8.1 e;exact⟨A.take k,by rw[List.take_add_one,e];rfl⟩
theorem zX {A:List α}{k:Nat}{x:α}(e:A[k]? =some x):∃A',A.drop k=x::A':=by
 obtain⟨hl,hx⟩:=X8.1 e;exact⟨A.drop (k+1),by rw[Zg hl,hx]⟩
theorem Mw {lt:α→α→Bool} (h:Swo lt) {A1 A2 B1 B2:List α} (hA:Srt lt (A1++A2)) (hB:Srt lt (B1++B2))
  (h1:B1=[]∨A2=[]∨ ∃B' b a A',B1=B'++[b]∧A2=a::A'∧lt b a=true)
  (h2:A1=[]∨B2=[]∨ ∃A' a b B',A1=A'++[a]∧B2=b::B'∧lt b a=false):
  (∀b∈B1,∀a∈A2,lt b a=true)∧(∀a∈A1,∀b∈B2,lt b a=false):=by
 unfold Srt at hA hB;rw[Zn] at hA hB;constructor
 ·rcases h1 with rfl|rfl|⟨B',bl,af,A',rfl,rfl,hl⟩
  ·simp
  ·simp
  ·intro b hb a ha
   cases hba:lt b a with
   |true=>rfl
   | false =>
    exfalso
    have hb1:lt bl b=false:=by
     rcases Zc.1 hb with hb|hb
     ·exact(Zn.1 hB.1).2.2 b hb bl (by simp)
     ·simp at hb;subst hb;exact h.irr _
    have ha1:lt a af=false:=by
     rcases Zp.1 ha with rfl|ha
     ·exact h.irr _
     ·exact(Zj.1 hA.2.1).1 a ha
    have:=h.inc bl a af (h.inc bl b a hb1 hba) ha1;rw[hl] at this;cases this
 ·rcases h2 with rfl|rfl|⟨A',al,bf,B',rfl,rfl,hl⟩
  ·simp
  ·simp
  ·intro a ha b hb
   have hb1:lt b bf=false:=by
    rcases Zp.1 hb with rfl|hb
    ·exact h.irr _
    ·exact(Zj.1 hB.2.1).1 b hb
   have ha1:lt al a=false:=by
    rcases Zc.1 ha with ha|ha
    ·exact(Zn.1 hA.1).2.2 a ha al (by simp)
    ·simp at ha;subst ha;exact h.irr _
   exact h.inc b bf a hb1 (h.inc bf al a hl ha1)
theorem Srt.take {lt:α→α→Bool}{A:List α}(h:Srt lt A)(k:Nat):Srt lt (A.take k):=List.Pairwise.sublist (List.take_sublist k A) h
theorem Srt.drop {lt:α→α→Bool}{A:List α}(h:Srt lt A)(k:Nat):Srt lt (A.drop k):=List.Pairwise.sublist (List.drop_sublist k A) h
end
set_option linter.unusedVariables false
set_option linter.unusedSimpArgs false
section
variable {lt:aa→aa→Bool}{p:aa→aa→Option Int}
def Gc (lt : aa → aa → Bool) (p : aa → aa → Option Int) (self_ : List aa → Int → Int → Int → (aa → aa → Option Int) → Option (List aa)) (N : Nat) : Prop :=
  ∀ (L A B R : List aa) (a m b : Int) (xs : List aa), 0 < A.length → 0 < B.length → a = (L.length : Int) → m = (L.length : Int) + A.length → b = (L.length : Int) + A.length + B.length → xs = L ++ A ++ B ++ R →
    A.length+B.length≤N→xs.length<1152921504606846976→Srt lt A→Srt lt B→∃T,self_ xs a m b p=some (L++T++R)∧Stb lt (A++B) T
def gx (lt:aa→aa→Bool)(xs:List aa)(i j:Nat):Bool:=match xs[i]?,xs[j]? with
  |some x,some y=>lt x y
  |_,_=>false
theorem zY {xs:List aa}{i j:Nat}{x y:aa}(h1:xs[i]? =some x)(h2:xs[j]? =some y):gx lt xs i j=lt x y:=by simp[gx,h1,h2]
theorem wZ (h:Swo lt) {L A B R xs:List aa} (hxs:xs=L++A++B++R) (hA:Srt lt A) (hB:Srt lt B) (k1 k2:Nat) (h1:k1≤A.length) (h2:k2≤B.length)
    (c1:k2=0∨k1=A.length∨(0<k2∧k1<A.length∧gx lt xs (L.length+A.length+(k2 - 1)) (L.length+k1)=true))
    (c2:k1=0∨k2=B.length∨(0<k1∧k2<B.length∧gx lt xs (L.length+A.length+k2) (L.length+(k1 - 1))=false)):
    (∀b∈B.take k2,∀a∈A.drop k1,lt b a=true)∧(∀a∈A.take k1,∀b∈B.drop k2,lt b a=false):=by
  have hA':Srt lt (A.take k1++A.drop k1):=by rw[Zf];exact hA
  have hB':Srt lt (B.take k2++B.drop k2):=by rw[Zf];exact hB
  refine Mw h hA' hB' ?_ ?_
  · rcases c1 with rfl | rfl | ⟨hk, hk1, hg⟩
    ·simp
    ·simp
    · right; right
      have eb:B[k2 - 1]? =some B[k2 - 1]:=Z4 (by omega);have ea:A[k1]? =some A[k1]:=Z4 hk1;obtain⟨B',hB'⟩:=BS (by omega) eb;obtain⟨A',hA'⟩:=zX ea;rw[show k2 - 1+1=k2 by omega] at hB';refine⟨B',_,_,A',hB',hA',?_⟩;rw[←hg,hxs,zY ((xsB (by omega)).trans eb) ?_];exact(xsA hk1).trans ea
  · rcases c2 with rfl | rfl | ⟨hk, hk2, hg⟩
    ·simp
    ·simp
    · right; right
      have ea:A[k1 - 1]? =some A[k1 - 1]:=Z4 (by omega);have eb:B[k2]? =some B[k2]:=Z4 hk2;obtain⟨A',hA'⟩:=BS (by omega) ea;obtain⟨B',hB'⟩:=zX eb;rw[show k1 - 1+1=k1 by omega] at hA';refine⟨A',_,_,B',hA',hB',?_⟩;rw[←hg,hxs,zY ((xsB hk2).trans eb) ?_];exact(xsA (by omega)).trans ea
theorem La (h : Swo lt) (hp : Cmp lt p) {L B R xs : List aa} {x : aa} {a m b : Int} (hB0 : 0 < B.length) (ha : a = (L.length : Int)) (hm : m = (L.length : Int) + 1) (hb : b = (L.length : Int) + 1 + B.length)
    (hxs:xs=L++[x]++B++R) (hn:xs.length<1152921504606846976) (hB:Srt lt B):
    ∃T,am (λs:(Int×Int)=>bW xs a p s.1 s.2) (m,b)=some (L++T++R)∧Stb lt ([x]++B) T:=by
  have hlen:xs.length=L.length+1+B.length+R.length:=by rw[hxs];simp;omega
  have ex:xs[L.length]? =some x:=by rw[hxs];simp
  have hm':m=((L.length+1:Nat):Int):=by omega
  have hb':b=((L.length+1+B.length:Nat):Int):=by omega
  obtain ⟨s,h1,h2,h3,h4,h5⟩:=xL (F:=fun s:(Int×Int)=>bW xs a p s.1 s.2) (fun c=>gx lt xs c L.length) (L.length+1) (L.length+1+B.length)
    (λs=>cS xs a (s:Int)) (λlo hi h1 h2 h3=>by
      have hc:(lo+hi)/2<xs.length:=by omega
      have ec:xs[(lo+hi)/2]? =some xs[(lo+hi)/2]:=Z4 hc;obtain⟨c,hc1,hc2⟩:=hp xs[(lo+hi)/2] x;simp only[bW];rw[if_pos (by simp;omega),uq (by omega),ur ec (by omega),ur ex ha,hc1,Jj,hc2,zY ec ex,ak (by omega)]
      split<;>rfl)
    (λs h1 h2=>by
      simp only[bW]
      rw[if_neg (by simp)]) (by omega)
  obtain⟨k,rfl⟩:∃k,s=L.length+1+k:=⟨s - (L.length+1),by omega⟩
  have hcut := wZ h (A := [x]) hxs (by simp [Srt]) hB 0 k (by simp) (by omega)
    (by rcases h3 with h3 | h3
        ·left;omega
        · by_cases hk : k = 0
          ·left;exact hk
          · right; right; refine ⟨by omega, by simp, ?_⟩
            rw[←h3];congr 1;simp;omega)
    (Or.inl rfl)
  have hcut2:∀b∈B.drop k,lt b x=false:=by
    have := wZ h (A := [x]) hxs (by simp [Srt]) hB 1 k (by simp) (by omega) (Or.inr (Or.inl rfl))
      (by rcases h4 with h4 | h4
          ·right;left;omega
          · by_cases hk : k = B.length
            ·right;left;exact hk
            · right; right; refine ⟨by omega, by omega, ?_⟩
              rw[←h4];congr 1)
    intro b hb;exact this.2 x (by simp) b hb
  refine⟨B.take k++x::B.drop k,?_,?_⟩
  · rw [hm', hb', h5]
    unfold cS;rw[Jx _ (by omega) x (B.drop k++R) (B.take k) L a xs ha (by simp;omega) (by rw[hxs,←Zi (B.take k),Zf];simp)];simp
  · have hB' : Srt lt (B.take k ++ B.drop k) := by rw [Zf]; exact hB
    have:=Stb.cat h (A1:=[]) (A2:=[x]) (B1:=B.take k) (B2:=B.drop k) (R1:=B.take k) (R2:=x::B.drop k) (Stb.refl (hB.take k))
      (Stb.refl (by
        unfold Srt;rw[Yc,Zj]
        exact⟨hcut2,hB.drop k⟩)) (by simp[Srt]) hB' (λb hb a ha=>hcut.1 b hb a ha) (by simp)
    simpa using this
theorem Jz (h : Swo lt) (hp : Cmp lt p) {L A R xs : List aa} {y : aa} {a m : Int} (hA0 : 0 < A.length) (ha : a = (L.length : Int)) (hm : m = (L.length : Int) + A.length)
    (hxs:xs=L++A++[y]++R) (hn:xs.length<1152921504606846976) (hA:Srt lt A):
    ∃T,am (λs:(Int×Int)=>bX xs m p s.1 s.2) (a,m)=some (L++T++R)∧Stb lt (A++[y]) T:=by
  have hlen:xs.length=L.length+A.length+1+R.length:=by rw[hxs];simp;omega
  have ey:xs[L.length+A.length]? =some y:=by
    rw[hxs];simp
  have hm':m=((L.length+A.length:Nat):Int):=by omega
  obtain ⟨s,h1,h2,h3,h4,h5⟩:=xL (F:=fun s:(Int×Int)=>bX xs m p s.1 s.2) (fun c=> !gx lt xs (L.length+A.length) c) L.length (L.length+A.length)
    (λs=>cT xs m (s:Int)) (λlo hi h1 h2 h3=>by
      have hc:(lo+hi)/2<xs.length:=by omega
      have ec:xs[(lo+hi)/2]? =some xs[(lo+hi)/2]:=Z4 hc;obtain⟨c,hc1,hc2⟩:=hp y xs[(lo+hi)/2];simp only[bX];rw[if_pos (by simp;omega),uq (by omega),ur ey hm',ur ec (by omega),hc1,Jj,hc2,zY ey ec,ak (by omega)]
      split<;>rfl)
    (λs h1 h2=>by
      simp only[bX]
      rw[if_neg (by simp)]) (by omega)
  obtain⟨k,rfl⟩:∃k,s=L.length+k:=⟨s - L.length,by omega⟩
  have hk:k≤A.length:=by omega
  have hcut1:∀a∈A.drop k,lt y a=true:=by
    have := wZ h hxs hA (by simp [Srt] : Srt lt [y]) k 1 hk (by simp)
      (by rcases h4 with h4 | h4
          ·right;left;omega
          · by_cases hk' : k = A.length
            ·right;left;exact hk'
            · right; right; refine ⟨by omega, by omega, ?_⟩
              simpa using h4)
      (Or.inr (Or.inl rfl))
    intro a ha;exact this.1 y (by simp) a ha
  have hcut2:∀a∈A.take k,lt y a=false:=by
    have := wZ h hxs hA (by simp [Srt] : Srt lt [y]) k 0 hk (by simp) (Or.inl rfl)
      (by rcases h3 with h3 | h3
          ·left;omega
          · by_cases hk' : k = 0
            ·left;exact hk'
            · right; right; refine ⟨by omega, by simp, ?_⟩
              rw[show L.length+(k - 1)=L.length+k - 1 by omega]
              simpa using h3)
    intro a ha;exact this.2 a ha y (by simp)
  refine⟨A.take k++y::A.drop k,?_,?_⟩
  · rw [ha, hm']
    rw[←hm',←ha] at h5 ⊢;rw[h5];unfold cT;rw[Jy _ y (L++A.take k) (by simp;omega) _ (A.drop k) R m xs rfl (by simp;omega) (by rw[hxs];simp) (by omega)];simp
  · have hA' : Srt lt (A.take k ++ A.drop k) := by rw [Zf]; exact hA
    have:=Stb.cat h (A1:=A.take k) (A2:=A.drop k) (B1:=[y]) (B2:=[]) (R1:=A.take k++[y]) (R2:=A.drop k) (Stb.refl (by
        unfold Srt;rw[Zn];refine⟨hA.take k,by simp,λa ha b hb=>?_⟩;rw[X4] at hb;subst hb
        exact hcut2 a ha)) (by simpa using Stb.refl (hA.drop k)) hA' (by simp[Srt]) (λb hb a ha=>by
          rw[X4] at hb;subst hb
          exact hcut1 a ha) (by simp)
    simpa using this
theorem PS {self_:List aa→Int→Int→Int→(aa→aa→Option Int)→Option (List aa)} {xs:List aa} {a m b s mid e:Int}
    (hmid:mid=(a+b)/2) (he:e=mid+m - s) (h0:0≤a) (h1:0≤m) (h2:0≤b) (h3:0≤s) (ha:a<1152921504606846976) (hb:b<1152921504606846976) (hm:m<1152921504606846976) (hs:s<1152921504606846976):
    cu xs a m b p self_ s=(if s<m∧m<e then cB xs s m e p else some xs).bind λr=>
      (if a<s∧s<mid then self_ r a s mid p else some r).bind λr2=>(if mid<e∧e<b then self_ r2 mid e b p else some r2):=by
  have hM:Za.wrap (aF .u64 (X5.wrap (Za.wrap (a+b))) 1)=mid:=by rw[uq (by omega),hmid]
  have hN:Za.wrap (mid+m)=mid+m:=ak (by omega);have hE:Za.wrap (mid+m - s)=e:=by rw[ak (by omega),he]
  have h11:∀r2,cp a m b p self_ s r2=(if mid<e∧e<b then self_ r2 mid e b p else some r2):=by
    intro r2;simp only[cp,cM,hM,hN,hE]
    by_cases c1:mid<e<;>by_cases c2:e<b<;>simp[c1,c2]
  have h9:∀r,ct a m b p self_ s r=(if a<s∧s<mid then self_ r a s mid p else some r).bind λr2=>(if mid<e∧e<b then self_ r2 mid e b p else some r2):=by
    intro r;simp only[ct,cU,hM,h11]
    by_cases c1:a<s<;>by_cases c2:s<mid<;>simp[c1,c2]
  simp only[cu,cV,hM,hN,hE,h9]
  by_cases c1:s<m<;>by_cases c2:m<e<;>simp[c1,c2]
end
end Go.Proofs.YthbonoagbeilkaaGreat.Hay
