import Derived.Test.YthbonoagbeilkaaGreatExX
import Derived.Test.YthbonoagbeilkaaGreatHbM
namespace Go.Proofs.YthbonoagbeilkaaGreat.Hay
open Option renaming bind_some→Z0,getD_some→Xe,bind_assoc→Y0
open List renaming take_succ_eq_append_getElem→Z1,getElem_mem→Z2,length_append→Z3,take_length→Z4,getElem?_eq_getElem→Z5,length_singleton→Z6,length_cons→Z7,replicate→Z9,eq_nil_of_length_eq_zero→Za,mem_append→Zd,mem_of_mem_take→Zf,take_append_drop→Zg,drop_eq_getElem_cons→Zh,length_pos_iff→Zi,append_assoc→Zj,pairwise_cons→Zk,length_take→Zl,pairwise_append→Zo,length_map→Zp,mem_cons→Zq,getD_eq_getElem?_getD→Zu,range→Zw,flatMap_cons→Zx,foldl_cons→Zy,nil_append→Zz,mem_map→X3,mem_singleton→X5,mem_of_getLast?→X7,pairwise_iff_getElem→X8,getElem?_eq_some_iff→X9,flatMap_append→Xa,cons_append→Xc,drop_zero→Xf,drop_left→Xg,getElem?_drop→Xh,take_of_length_le→Xi,take_left'→Xj,append_nil→Xk,foldl_append→Xl,length_range→Xm,length_replicate→Xn,dropLast_concat_getLast→Xq,getElem?_append_right→Xv,getLast?_eq_none_iff→Xx,getLast?_eq_getElem?→Xy,map_append→Xz,getElem?_append_left→Y1,mem_replicate→Y3,eq_of_mem_replicate→Y5,drop_drop→Y7,flatMap_singleton→Y9,map_cons→Yc,singleton_append→Yd,getElem?_eq_none→Ye,range_succ→Yg,map_nil→Yh
open Nat renaming le_refl→Zn,lt_of_lt_of_le→Zt,mul_le_mul→Zv,strongRecOn→Xb,testBit_xor→Xd,pow_le_pow_right→Xo,eq_of_testBit_eq→Xp,two_pow_add_eq_or_of_lt→Xr,mod_two_eq_zero_or_one→Xu,testBit_succ→Y8,xor_comm→Yj
open Bool renaming false_eq_true→Z8,not_true→Xw,not_false→Y6,not_eq_true→Ya,true_and→Yb
open Int renaming eq_ofNat_of_zero_le→Zc,tmod_eq_emod_of_nonneg→Zr,tdiv_eq_ediv_of_nonneg→Zs,fdiv_eq_ediv_of_nonneg→X4,natCast_pow→Xt,toNat_natCast→Y2,emod_eq_of_lt→Y4,le_of_lt→Yi
open BitVec renaming ofInt→Ze,toNat_ofInt→Zm
open Prod renaming ext→Yk
open IntKind renaming i64→Zb,u64→X6,u32→Xs,u8→Yf
theorem EB: ∀s:List Int,ltB s s=false
 |[]=>rfl
 |a::x=>by simp[ltB,EB x]
theorem Bp: ∀{s u v:List Int},ltB s u=true→ltB u v=true→ltB s v=true
 |_,[],_,h,_=>by simp[ltB] at h
 |_,_::_,[],_,h=>by simp[ltB] at h
 |[],_::_,_::_,_,_=>rfl
 | a :: x, b :: y, c :: z, h, k => by
  simp only[ltB,Bool.or_eq_true,decide_eq_true_eq,Bool.and_eq_true,beq_iff_eq] at*;rcases h with h|⟨rfl,h⟩
  ·rcases k with k|⟨rfl,k⟩
   ·left;omega
   ·left;exact h
  ·rcases k with k|⟨rfl,k⟩
   ·left;exact k
   ·right;exact⟨rfl,Bp h k⟩
theorem EC: ∀{s u:List Int},ltB s u=false→ltB u s=false→s=u
 |[],[],_,_=>rfl
 |[],_::_,h,_=>by simp[ltB] at h
 |_::_,[],_,h=>by simp[ltB] at h
 |a::x,b::y,h,k=>by
  simp only[ltB,Bool.or_eq_false_iff,decide_eq_false_iff_not] at h k;have e:a=b:=by omega
  subst e;simp only[beq_self_eq_true,Yb] at h k;rw[EC h.2 k.2]
def ltV (a b:Ap):Bool:=
 if a.fKind != b.fKind then decide (a.fKind<b.fKind) else if a.fKind==1 then !a.fBool&&b.fBool else if a.fKind==2 then decide (a.fInt<b.fInt) else
 if a.fKind==3 then ltB a.fText b.fText else false
theorem ED (a b:Ap):rp a b=some (ltV a b):=by
 unfold rp kW oU ltV
 repeat' split
 all_goals simp_all
theorem pJ (a:Ap):ltV a a=false:=by
 unfold ltV
 repeat' split
 all_goals simp_all[EB]
theorem sV {a b c:Ap}(h:ltV a b=true)(k:ltV b c=true):ltV a c=true:=by
 obtain⟨ka,ba,na,ta⟩:=a;obtain⟨kb,bb,nb,tb⟩:=b;obtain⟨kc,bc,nc,tc⟩:=c;simp only[ltV] at*
 by_cases e1:ka=kb
 ·subst e1
  by_cases e2:ka=kc
  ·subst e2
   by_cases e1:ka=1
   ·subst e1;cases ba<;>cases bb<;>cases bc<;>simp_all
   by_cases e2:ka=2
   ·subst e2;simp at*;omega
   by_cases e3:ka=3
   ·subst e3;simp at*;exact Bp h k
   ·have h1:(ka==1)=false:=by simpa using e1
    have h2:(ka==2)=false:=by simpa using e2
    have h3:(ka==3)=false:=by simpa using e3
    simp[h1,h2,h3] at h
  ·have:(ka != kc)=true:=by simpa using e2
   simp only[this,if_true] at*;exact k
 ·have h1:(ka != kb)=true:=by simpa using e1
  simp only[h1,if_true,decide_eq_true_eq] at h
  by_cases e2:kb=kc
  ·subst e2;simp only[h1,if_true,decide_eq_true_eq];exact h
  ·have h2:(kb != kc)=true:=by simpa using e2
   simp only[h2,if_true,decide_eq_true_eq] at k;have h3:(ka != kc)=true:=by simp;omega
   simp only[h3,if_true,decide_eq_true_eq];omega
theorem rq {a b:Ap}(ha:Rgt a)(hb:Rgt b)(h:ltV a b=false)(k:ltV b a=false):a=b:=by
 cases ha<;>cases hb<;>simp[ltV] at h k
 ·rfl
 ·rename_i x y;cases x<;>cases y<;>simp_all
 ·have: ∀x y:Int,x=y→iU x=iU y:=fun x y h=>by rw [h]
  apply this;omega
 ·rw[EC h k]
def kG (a b:Ap):Int:=if ltV a b then -1 else if ltV b a then 1 else 0
theorem pK (a b:Ap):jK a b=some (kG a b):=by
 unfold jK kG;rw[ED,ED,Z0,Z0];cases ltV a b<;>cases ltV b a<;>rfl
theorem eO (a b:Ap):cB a b=some (kG a b):=by
 unfold cB fu it iI lq jJ lX ew kG td;simp only[bne_self_eq_false,Z0,Z8,if_false];obtain⟨ka,ba,na,ta⟩:=a;obtain⟨kb,bb,nb,tb⟩:=b;simp only[ltV]
 by_cases e:ka=kb
 ·subst e
  simp only[bne_self_eq_false,Z8,if_false]
  by_cases e1:ka=1
  ·subst e1;cases ba<;>cases bb<;>simp
  ·have h1:(ka==1)=false:=by simpa using e1
   simp only[h1,Z8,if_false]
   by_cases e2:ka=2
   ·subst e2;simp
    repeat' split
    all_goals rfl
   ·have h2:(ka==2)=false:=by simpa using e2
    simp only[h2,Z8,if_false]
    by_cases e3:ka=3
    ·subst e3;simp
    ·have h3:(ka==3)=false:=by simpa using e3
     simp[h3]
 ·have h1:(ka != kb)=true:=by simpa using e
  have h2:(kb != ka)=true:=by simp;omega
  simp only[h1,h2,if_true,decide_eq_true_eq]
  repeat' split
  all_goals rfl
theorem rX {a b:Ap}(h:ltV a b=true):ltV b a=false:=by
 cases k:ltV b a with
 |false=>rfl
 |true=>have:=sV h k;rw[pJ] at this;cases this
theorem lj (a b:Ap):kG a b<0↔ltV a b=true:=by
 unfold kG
 repeat' split
 all_goals simp_all
theorem EE (a b:Ap):kG a b≤0↔ltV b a=false:=by
 unfold kG;split
 ·rename_i h;simp[rX h]
 ·split
  ·rename_i h;simp[h]
  ·rename_i h;simpa using h
theorem Bq {a b:Ap}(ha:Rgt a)(hb:Rgt b):kG a b=0↔a=b:=by
 unfold kG;constructor
 ·intro h
  split at h
  ·cases h
  split at h
  ·cases h
  rename_i h1 h2;exact rq ha hb (by simpa using h1) (by simpa using h2)
 ·rintro rfl;rw[pJ];rfl
theorem L4 {l:List Ap}(h:∀v∈l,Rgt v):If cB l:=by
 refine⟨λx _ y _=>⟨_,eO x y,?_⟩,λx _=>?_,λx _ y _ z _ h1 h2=>?_,λx hx y hy z hz h1 h2 h3=>?_,λx hx y hy h1 h2=>?_⟩
 ·rw [l9];unfold kG
  repeat' split
  all_goals decide
 ·rw[eO];simp only[Xe];rw[lj,pJ];decide
 ·rw [eO] at*
  simp only[Xe,lj] at*;exact sV h1 h2
 ·rw [eO] at*
  simp only[Xe,lj,Ya] at*;cases hyx:ltV y x with
  |true=>have:=sV hyx h3;rw[h2] at this;cases this
  |false=>have:=rq (h x hx) (h y hy) h1 hyx;subst this;rw[h2] at h3;cases h3
 ·rw [eO] at*
  simp only[Xe,lj,Ya] at*;exact rq (h x hx) (h y hy) h1 h2
abbrev Ris (l:List Ap):Prop:=l.Pairwise λa b=>ltV a b=true
theorem Ris.one: ∀{l k:List Ap},Ris l→Ris k→(∀v,v∈l↔v∈k)→l=k
 |[],[],_,_,_=>rfl
 |[],b::k,_,_,h=>by have:=(h b).2 (by simp);cases this
 |a::l,[],_,_,h=>by have:=(h a).1 (by simp);cases this
 | a :: l, b :: k, hl, hk, h => by
  have hl':=Zk.1 hl;have hk':=Zk.1 hk
  have e:a=b:=by
   have h1:=(h a).1 (by simp);have h2:=(h b).2 (by simp);rcases Zq.1 h1 with h1|h1
   ·exact h1
   rcases Zq.1 h2 with h2|h2
   ·exact h2.symm
   have:=rX (hk'.1 a h1);rw[hl'.1 b h2] at this;cases this
  subst e;congr 1;refine Ris.one hl'.2 hk'.2 λv=>?_;have hv:=h v;simp only[Zq] at hv;constructor
  ·intro hm
   rcases hv.1 (.inr hm) with e|e
   ·subst e;have:=hl'.1 v hm;rw[pJ] at this;cases this
   ·exact e
  ·intro hm
   rcases hv.2 (.inr hm) with e|e
   ·subst e;have:=hk'.1 v hm;rw[pJ] at this;cases this
   ·exact e
theorem Ris.nodup {l:List Ap}(h:Ris l):l.Nodup:=h.imp λ{a b} h e=>by subst e;rw[pJ] at h;cases h
def ins (v:Ap):List Ap→List Ap
 |[]=>[v]
 |x::r=>if ltV x v then x::ins v r else if v=x then x::r else v::x::r
theorem Aw (v:Ap): ∀(l:List Ap) (x:Ap),x∈ins v l↔x=v∨x∈l
 |[],x=>by simp[ins]
 | y :: r, x => by
  simp only[ins];split
  ·simp only [Zq,Aw v r x]
   constructor<;>(intro h;rcases h with h|h|h<;>simp[h])
  split
  ·rename_i e;subst e;simp
  ·simp
theorem EF (v:Ap) (hv:Rgt v): ∀{l:List Ap},(∀x∈l,Rgt x)→Ris l→Ris (ins v l)
 |[],_,_=>by simp[ins]
 | y :: r, hr, h => by
  have h':=Zk.1 h;simp only[ins];split
  ·rename_i hlt
   refine Zk.2 ⟨λx hx=>?_,EF v hv (λx hx=>hr x (by simp[hx])) h'.2⟩;rcases(Aw v r x).1 hx with e|e
   ·subst e;exact hlt
   ·exact h'.1 x e
  split
  ·exact h
  ·rename_i h1 h2
   have hvy:ltV v y=true:=by
    cases h3:ltV v y with
    |true=>rfl
    |false=>exact absurd (rq hv (hr y (by simp)) h3 (by simpa using h1)) h2
   refine Zk.2 ⟨λx hx=>?_,h⟩;rcases Zq.1 hx with e|e
   ·subst e;exact hvy
   ·exact sV hvy (h'.1 x e)
def aO (l:List Ap):List Ap:=l.foldl (λout v=>ins v out) []
theorem FG (l:List Ap)(v:Ap):aO (l++[v])=ins v (aO l):=by simp[aO]
theorem zo {l:List Ap}{i:Nat}(h:i<l.length):aO (l.take (i+1))=ins l[i] (aO (l.take i)):=by
 rw[Z1 h,FG]
theorem fo {l:List Ap}(h:∀v∈l,Rgt v):Ris (aO l)∧(∀v,v∈aO l↔v∈l)∧(aO l).length≤l.length:=by
 have key :∀ i, i ≤ l.length → Ris (aO (l.take i)) ∧(∀ v, v ∈ aO (l.take i) ↔ v ∈ l.take i) ∧(aO (l.take i)).length ≤ i := by
  intro i
  induction i with
  |zero=>intro _;simp[aO]
  | succ i ih =>
   intro hi;obtain⟨h1,h2,h3⟩:=ih (by omega);have hlt:i<l.length:=by omega
   rw[zo hlt];have hr:∀x∈aO (l.take i),Rgt x:=λx hx=>h x (Zf ((h2 x).1 hx));refine⟨EF _ (h _ (Z2 hlt)) hr h1,λv=>?_,?_⟩
   ·rw [Aw,h2,Z1 hlt,Zd,X5]
    exact or_comm
   ·have:∀(v:Ap) (l:List Ap),(ins v l).length≤l.length+1:=by
     intro v l
     induction l with
     |nil=>simp[ins]
     |cons y r ih=>
      simp only[ins]
      repeat' split
      all_goals simp
      omega
    have:=this l[i] (aO (l.take i));omega
 have:=key l.length (Zn _);rwa[Z4] at this
def pL (v:Ap) (s:List Ap×Bool) (x:Ap):List Ap×Bool:=
 if !s.2&&decide (kG v x≤0) then (if kG v x=0 then (s.1++[v],true) else (s.1++[v]++[x],true)) else (s.1++[x],s.2)
theorem wB (v:Ap): ∀(l a:List Ap),l.foldl (pL v) (a,true)=(a++l,true)
 |[],a=>by simp
 |x::r,a=>by simp[pL,wB v r]
theorem EG (v:Ap) (hv:Rgt v): ∀(l a:List Ap),(∀x∈l,Rgt x)→(if (l.foldl (pL v) (a,false)).2 then (l.foldl (pL v) (a,false)).1 else (l.foldl (pL v) (a,false)).1++[v])=a++ins v l
 |[],a,_=>by simp[ins]
 | x :: r, a, h => by
  simp only[Zy,pL,ins];cases hx:ltV x v with
  |true=>
   have: ¬ kG v x≤0:=by rw[EE,hx];decide
   simp only[this,decide_false,Bool.and_false,Z8,if_false,if_true];rw[EG v hv r (a++[x]) (λy hy=>h y (by simp[hy]))];simp
  | false =>
   have h1:kG v x≤0:=(EE v x).2 hx
   by_cases e:kG v x=0
   ·have e2:=(Bq hv (h x (by simp))).1 e
    subst e2;simp[e,wB]
   ·have e2:v≠x:=fun e2=>e ((Bq hv (h x (by simp))).2 e2)
    simp[h1,e,e2,wB]
theorem pM (v:Ap): ∀(l a:List Ap) (d:Bool),(l.foldl (pL v) (a,d)).1.length≤a.length+l.length+(if d then 0 else 1)
 |[],a,d=>by simp
 | x :: r, a, d => by
  simp only[Zy,pL];cases d
  ·simp only [Y6,Yb]
   split
   ·split
    ·have:=pM v r (a++[v]) true;simp at this ⊢;omega
    ·have:=pM v r (a++[v]++[x]) true;simp at this ⊢;omega
   ·have:=pM v r (a++[x]) false;simp at this ⊢;omega
  ·have:=pM v r (a++[x]) true
   simp at this ⊢;omega
theorem iV {α β:Type}{f:β→α→β}{b:β}{l:List α}{i:Nat}(h:i<l.length):(l.take (i+1)).foldl f b=f ((l.take i).foldl f b) l[i]:=by
 rw[Z1 h,Xl];rfl
theorem Dd {l:List Ap}(h:∀v∈l,Rgt v)(hl:l.length<1048576):yq l=some (aO l):=by
 unfold yq;refine aV (λi=>(aO (l.take i),(i:Int))) l.length (by simp[aO]) (λi hi=>?_) ?_
 ·dsimp only
  unfold tz;obtain⟨h1,h2,h3⟩:=fo (l:=l.take i) λv hv=>h v (Zf hv);have h3':(aO (l.take i)).length≤i:=by simp at h3;omega
  have hr:∀x∈aO (l.take i),Rgt x:=λx hx=>h x (Zf ((h2 x).1 hx));have hv:=h l[i] (Z2 hi);rw[if_pos (by simpa using hi)];generalize hw:aO (l.take i)=W at*;have hfin:=EG l[i] hv W [] hr;refine aV (λk=>(((W.take k).foldl (pL l[i]) ([],false)).1,((W.take k).foldl (pL l[i]) ([],false)).2,(k:Int))) W.length (by simp) (λk hk=>?_) ?_
  ·dsimp only
   have hlen:=pM l[i] (W.take k) [] false;simp only[List.length_nil,Zl,Z8,if_false] at hlen;unfold tw tu tq tp;rw[if_pos (by simpa using hk),az hi,Z0,az hk,Z0,pK,Z0,aT (by omega),iV hk];generalize hs:(W.take k).foldl (pL l[i]) ([],false)=s at*;obtain⟨s1,s2⟩:=s;simp only[pL] at*;cases s2
   ·simp only [Y6,if_true,Yb,Z0]
    by_cases e:kG l[i] W[k]≤0
    ·simp only [e,decide_true,if_true]
     rw[aH (by simp;omega),Z0]
     by_cases e0:kG l[i] W[k]=0
     ·rw[if_pos (by simpa using e0),if_pos e0]
     ·rw[if_neg (by simpa using e0),if_neg e0,aH (by simp;omega),Z0]
    ·simp only [e,decide_false,Z8,if_false]
     rw[aH (by simp;omega),Z0]
   ·simp only [Xw,Z8,if_false,Bool.false_and,Z0]
    rw[aH (by simp;omega),Z0]
  ·dsimp only
   have hlen:=pM l[i] W [] false;simp only[List.length_nil,Z8,if_false] at hlen;unfold tw xM to xL;rw[if_neg (by simp),Z4,aT (by omega),zo hi,hw];rw[show([]:List Ap)++ins l[i] W=ins l[i] W from rfl] at hfin;rw[←hfin];cases hd:(W.foldl (pL l[i]) ([],false)).2
   ·simp only [Y6,if_true,Z8,if_false]
    rw[az hi,Z0,aH (by simp;omega)];rfl
   ·simp
 ·dsimp only
  unfold tz xK;rw[if_neg (by simp),Z4];rfl
def dd (s:List Ap):List Ap:=s.foldl (λout v=>if out.getLast?=some v then out else out++[v]) []
theorem Az (s:List Ap)(v:Ap):dd (s++[v])=if (dd s).getLast?=some v then dd s else dd s++[v]:=by
 unfold dd;rw[Xl];rfl
theorem EH (s:List Ap){i:Nat}(h:i<s.length):(dd (s.take (i+1))).getLast?=some s[i]:=by
 rw[Z1 h,Az];split
 ·assumption
 ·simp
theorem AA (s:List Ap){i:Nat}(h:i+1<s.length):dd (s.take (i+2))=if s[i+1]=s[i] then dd (s.take (i+1)) else dd (s.take (i+1))++[s[i+1]]:=by
 rw[Z1 h,Az,EH s (by omega)]
 by_cases e:s[i+1]=s[i]
 ·rw[if_pos e,if_pos (by rw[e])]
 ·rw[if_neg e,if_neg (λh=>e (Option.some.inj h).symm)]
theorem L5 (s:List Ap)(h:0<s.length):dd (s.take 1)=s.take 1:=by
 match s,h with
 |a::r,_=>rfl
theorem KE {s : List Ap} (hr :∀ x ∈ s, Rgt x) (h : s.Pairwise λx y => ltV y x = false) : Ris (dd s) ∧(∀ v, v ∈ dd s ↔ v ∈ s) := by
 have key :∀ i, i ≤ s.length → Ris (dd (s.take i)) ∧(∀ v, v ∈ dd (s.take i) ↔ v ∈ s.take i) := by
  intro i
  induction i with
  |zero=>intro _;simp[dd]
  | succ i ih =>
   intro hi;obtain⟨h1,h2⟩:=ih (by omega);have hlt:i<s.length:=by omega
   rw[Z1 hlt,Az];split
   ·rename_i e
    refine⟨h1,λv=>?_⟩;rw[h2,Zd,X5];constructor
    ·exact .inl
    ·rintro (hm|rfl)
     ·exact hm
     ·exact(h2 _).1 (X7 e)
   ·rename_i e
    refine⟨Zo.2 ⟨h1,by simp,λa ha b hb=>?_⟩,λv=>by rw[Zd,Zd,h2]⟩;have hb':b=s[i]:=by simpa using hb
    subst hb';have ha':=(h2 a).1 ha
    -- a is ahead of s[i] in s
    obtain⟨j,hj,rfl⟩:=List.getElem_of_mem ha';simp only[Zl] at hj;have hge:ltV s[i] s[j]=false:=X8.1 h j i (by omega) hlt (by omega);rw[List.getElem_take] at ha ⊢;cases hlt2:ltV s[j] s[i] with
    |true=>rfl
    | false =>
     have e2:=rq (hr _ (Z2 (by omega))) (hr _ (Z2 hlt)) hlt2 hge;exfalso;apply e;have hi0:0<i:=by omega
     obtain⟨i',rfl⟩:∃i',i=i'+1:=⟨i - 1,by omega⟩
     rw[EH s (by omega)]
     -- s[j] <= s[i'] <= s[i' + 1] = s[j]
     congr 1;apply rq (hr _ (Z2 (by omega))) (hr _ (Z2 hlt))
     ·cases h3:ltV s[i'] s[i'+1] with
      |false=>rfl
      | true =>
       rw[←e2] at h3
       by_cases e3:j=i'
       ·subst e3;rw[pJ] at h3;cases h3
       ·have:=X8.1 h j i' (by omega) (by omega) (by omega)
        rw[this] at h3;cases h3
     ·exact X8.1 h i' (i'+1) (by omega) hlt (by omega)
 have:=key s.length (Zn _);rwa[Z4] at this
theorem FH (s:List Ap)(hs:s.length<1048576):d9 s=some (dd s):=by
 unfold d9
 by_cases h2:s.length<2
 ·rw [if_pos (by simpa using by omega)]
  match s,h2 with
  |[],_=>rfl
  |[a],_=>rfl
 rw[if_neg (by simpa using by omega)];refine oA (I:=λs':Int=>∃i:Nat,s'=((i+1:Nat):Int)∧i+1≤s.length∧dd (s.take (i+1))=s.take (i+1)) (μ:=λx=>s.length - x.toNat) ?_ ⟨0,rfl,by omega,L5 s (by omega)⟩;rintro _ ⟨i,rfl,hi,hd⟩;unfold fZ
 by_cases hlt:i+1<s.length
 ·have e1 : Zb.wrap (((i + 1 : Nat) : Int) - 1) = (i : Int) := by rw [am (by omega)]; omega
  rw[if_pos (by simpa using by omega),mI hlt,Z0,Z5 hlt,Z0,e1,mI (by omega),Z0,Z5 (by omega),Z0]
  by_cases e:s[i+1]=s[i]
  ·right
   rw[if_pos (by simpa using e)]
   have hv:vw s ((i+1:Nat):Int) (s.length:Int)=some (i+1,s.length - (i+1)):=by
    unfold vw;rw[if_pos (by omega)];simp only[Y2]
   rw[hv,Z0];refine oA (I:=λt:Int×Int×List Ap=>∃p k2:Nat,p=i+1+k2∧1≤k2∧p≤s.length∧t.1=((dd (s.take p)).length:Int)∧t.2.1=(k2:Int)∧t.2.2.length=s.length∧(dd (s.take p)).length+1≤p∧t.2.2.take (dd (s.take p)).length=dd (s.take p)∧t.2.2.drop (p - 1)=s.drop (p - 1)) (μ:=λt=>s.length - t.2.1.toNat) ?_ ?_
   ·rintro ⟨t1,t2,xs⟩ ⟨p,k2,hp,hk2,hps,rfl,rfl,hxl,hdl,htk,hdr⟩
    unfold fY;have hm:Nat.ble (s.length - (i+1)) cI=true:=Nat.ble_eq_true_of_le (by unfold cI;omega);dsimp only at*;rw[rT hm,Z0]
    by_cases hlt2:p<s.length
    ·left
     have hx1:xs[p]? =some s[p]:=by
      have:(xs.drop (p - 1))[1]? =(s.drop (p - 1))[1]? :=by rw[hdr]
      rw[Xh,Xh] at this;have e:p - 1+1=p:=by omega
      rw[e] at this;rw[this,Z5 hlt2]
     have hx0:xs[p - 1]? =some s[p - 1]:=by
      have:(xs.drop (p - 1))[0]? =(s.drop (p - 1))[0]? :=by rw[hdr]
      rw[Xh,Xh] at this;rw[Nat.add_zero] at this;rw[this,Z5 (by omega)]
     have e2:ixv (i+1) (s.length - (i+1)) (k2:Int)=some p:=by unfold ixv;rw[if_pos (by omega)];simp;omega
     have e3:ixv (i+1) (s.length - (i+1)) (Zb.wrap ((k2:Int) - 1))=some (p - 1):=by
      rw[am (by omega)];unfold ixv;rw[if_pos (by omega)];simp;omega
     have hst:=AA s (i:=p - 1) (by omega);have e4:p - 1+1=p:=by omega
     have e5:p - 1+2=p+1:=by omega
     simp only[e4,e5] at hst;rw[if_pos (by simpa using by omega),e2,Z0,hx1,Z0,e3,Z0,hx0,Z0]
     by_cases e6:s[p]=s[p - 1]
     ·rw [if_pos e6] at hst
      rw[if_neg (by simpa using e6)];unfold dD;refine⟨_,rfl,⟨p+1,k2+1,by omega,by omega,by omega,by rw[hst],?_,hxl,by rw[hst];omega,by rw[hst];exact htk,?_⟩,?_⟩
      ·exact aT (by omega)
      ·have:p+1 - 1=p - 1+1:=by omega
       rw[this,←Y7,←Y7,hdr]
      ·dsimp only;rw[aT (by omega)];simp;omega
     ·rw [if_neg e6] at hst
      rw[if_pos (by simpa using e6)];have hkl:(dd (s.take p)).length<xs.length:=by omega
      rw[Z0,hx1,Z0,mI hkl,Z0,Z5 hkl,Z0];unfold dD;refine⟨_,rfl,⟨p+1,k2+1,by omega,by omega,by omega,?_,aT (by omega),by simp[hxl],by rw[hst];simp;omega,?_,?_⟩,?_⟩
      ·rw[hst,aT (by omega)];simp
      ·rw [hst]
       simp only[Z3,Z6];rw[Z1 (by simp;omega)];rw[List.take_set_of_le (Zn _),htk];simp
      ·rw [List.drop_set_of_lt (by omega)]
       have:p+1 - 1=p - 1+1:=by omega
       rw[this,←Y7,←Y7,hdr]
      ·dsimp only;rw[aT (by omega)];simp;omega
    ·right
     have hps':p=s.length:=by omega
     subst hps';rw[if_neg (by simpa using by omega)];unfold fX;rw[Z4] at*
     have hv2:vw xs ((dd s).length:Int) (xs.length:Int)=some ((dd s).length,xs.length - (dd s).length):=by
      unfold vw;rw[if_pos (by omega)];simp only[Y2]
     rw[hv2,Z0];unfold clr;rw[if_pos (by dsimp only;omega),Z0]
     have hsp:(spl xs (dd s).length (Z9 (xs.length - (dd s).length) Ap.zero)).length=xs.length:=by
      unfold spl;simp;omega
     have:=d3 (xs:=spl xs (dd s).length (Z9 (xs.length - (dd s).length) Ap.zero)) (lo:=0) (hi:=(dd s).length) (by omega) (by omega);rw[show((0:Nat):Int)=0 from rfl] at this;rw[this]
     have e7:(spl xs (dd s).length (Z9 (xs.length - (dd s).length) Ap.zero)).take (dd s).length=dd s:=by
      unfold spl;rw[Zj,Xj (by simp;omega)];exact htk
     rw[Xf,e7];rfl
   ·have hst:=AA s (i:=i) (by omega)
    rw[if_pos e,hd] at hst;refine⟨i+2,1,by omega,by omega,by omega,?_,rfl,rfl,?_,?_,rfl⟩
    ·rw[hst];simp;omega
    ·rw[hst];simp;omega
    ·rw[hst];simp
  ·left
   rw[if_neg (by simpa using e)];unfold fW;refine⟨_,rfl,⟨i+1,aT (by omega),by omega,?_⟩,?_⟩
   ·rw [AA s (i:=i) (by omega),if_neg e,hd]
    exact(Z1 hlt).symm
   ·rw[aT (by omega)];simp;omega
 ·right
  have:i+1=s.length:=by omega
  rw[if_neg (by simpa using by omega)];rw[this,Z4] at hd;unfold fV;rw[hd];rfl
theorem zp {l:List Ap}(h:∀v∈l,Rgt v)(hl:l.length<1048576):∃r,ky l cB=some r∧d9 r=some (aO l):=by
 obtain⟨r,hr⟩:∃r,xg cB l=some r:=by
  unfold xg;rw[if_pos (L4 h)];exact⟨_,rfl⟩
 obtain⟨_,hp,hs⟩:=yV hr;refine⟨r,hr,?_⟩;rw[FH r (by rw[hp.length_eq];exact hl)];congr 1;have hr':∀x∈r,Rgt x:=λx hx=>h x (hp.mem_iff.1 hx)
 have hs':r.Pairwise λx y=>ltV y x=false:=hs.imp λ{x y} h=>by
  rw[eO] at h;simp only[Xe,lj,Ya] at h;exact h
 obtain⟨h1,h2⟩:=KE hr' hs';obtain⟨h3,h4,_⟩:=fo h;exact Ris.one h1 h3 λv=>by rw[h2,h4,hp.mem_iff]
theorem GZ {α β σ:Type} {f:σ→Option (σ⊕β)} {s:σ} (S:Nat→σ) (xs:List α) (p:α→Bool) (b0 b1:β) (h0:s=S 0) (step: ∀(i:Nat) (h:i<xs.length),p xs[i]=true→f (S i)=some (.inl (S (i+1))))
  (out:∀(i:Nat) (h:i<xs.length),p xs[i]=false→f (S i)=some (.inr b0)) (fin:f (S xs.length)=some (.inr b1)):au f s=some (if xs.all p then b1 else b0):=by
 have key:∀k i:Nat,i+k=xs.length→au f (S i)=some (if (xs.drop i).all p then b1 else b0):=by
  intro k
  induction k with
  |zero=>
   intro i hi;have:i=xs.length:=by omega
   subst this;rw[aZ fin];simp
  |succ k ih=>
   intro i hi;have hlt:i<xs.length:=by omega
   rw[Zh hlt,List.all_cons];cases hp:p xs[i] with
   |true=>rw[bL (step i hlt hp),ih (i+1) (by omega)];simp
   |false=>rw[aZ (out i hlt hp)];simp
 have:=key xs.length 0 (by omega);rw[h0];simpa using this
def wC (out:List aS) (v:Ap):List aS:=
 match out.getLast? with
 |some r=>if r.fValue=v then out.dropLast++[⟨r.fMany+1,v⟩] else out++[⟨1,v⟩]
 |none=>[⟨1,v⟩]
def bU (l:List Ap):List aS:=l.foldl wC []
def gP (l:List aS):List Ap:=l.flatMap λr=>Z9 r.fMany.toNat r.fValue
theorem q9 {l:List Ap}{i:Nat}(h:i<l.length):bU (l.take (i+1))=wC (bU (l.take i)) l[i]:=iV h
theorem G0 (out:List aS)(v:Ap):∃n,(wC out v).getLast?=some ⟨n,v⟩:=by
 unfold wC;split
 ·rename_i r _
  split
  ·exact⟨r.fMany+1,by simp⟩
  ·exact⟨1,by simp⟩
 ·exact⟨1,by simp⟩
theorem qI {α:Type}{l:List α}{a:α}(h:l.getLast?=some a):l=l.dropLast++[a]:=by
 cases l with
 |nil=>cases h
 |cons x r=>
  have h1:(x::r).getLast (by simp)=a:=by rw[List.getLast?_eq_some_getLast (by simp)] at h;exact Option.some.inj h
  rw[←h1,Xq]
theorem wD (l:List Ap){i:Nat}(hi:i≤l.length):(∀r∈bU (l.take i),1≤r.fMany∧r.fMany≤i∧r.fValue∈l)∧(bU (l.take i)).length≤i∧gP (bU (l.take i))=l.take i:=by
 induction i with
 |zero=>simp[bU,gP]
 | succ i ih =>
  obtain⟨h1,h2,h3⟩:=ih (by omega);have hlt:i<l.length:=by omega
  rw[q9 hlt,Z1 hlt];generalize hw:bU (l.take i)=W at*;unfold wC;have hm:=Z2 hlt;split
  ·rename_i r hr
   split
   ·rename_i e
    have hsp:=qI hr;have hrm:r∈W:=X7 hr;obtain⟨g1,g2,g3⟩:=h1 r hrm;refine⟨λx hx=>?_,?_,?_⟩
    ·rcases Zd.1 hx with hx|hx
     ·have:=h1 x (by rw[hsp];exact List.mem_append_left _ hx);exact⟨this.1,by omega,this.2.2⟩
     ·have:x=⟨r.fMany+1,l[i]⟩:=by simpa using hx
      subst this;exact⟨by simp;omega,by simp;omega,hm⟩
    ·have:W.length=W.dropLast.length+1:=by rw [hsp];simp
     simp;omega
    ·rw [←h3]
     have e1:gP W=gP W.dropLast++Z9 r.fMany.toNat r.fValue:=by
      conv=>lhs;rw[hsp]
      simp[gP]
     rw[e1];have e2:(r.fMany+1).toNat=r.fMany.toNat+1:=by omega
     simp[gP,e2,List.replicate_succ',e]
   ·refine ⟨fun x hx=> ?_,by simp;omega,?_⟩
    ·rcases Zd.1 hx with hx|hx
     ·have:=h1 x hx;exact⟨this.1,by omega,this.2.2⟩
     ·have:x=⟨1,l[i]⟩:=by simpa using hx
      subst this;exact⟨by simp,by simp;omega,hm⟩
    ·rw[←h3];simp[gP]
  ·rename_i hr
   have:W=[]:=Xx.1 hr;subst this;refine⟨λx hx=>?_,by simp,?_⟩
   ·have:x=⟨1,l[i]⟩:=by simpa using hx
    subst this;exact⟨by simp,by simp;omega,hm⟩
   ·rw[←h3];simp[gP]
theorem IY {α:Type}(l:List α)(a:α)(n:Nat)(h:l.length=n+1):l.set n a=l.dropLast++[a]:=by
 apply List.ext_getElem
 ·simp;omega
 intro j h1 h2;rw[List.getElem_set];split
 ·rename_i e;subst e
  rw[List.getElem_append_right (by simp;omega)];simp
 ·simp at h1
  rw[List.getElem_append_left (by simp;omega),List.getElem_dropLast]
theorem KF (l:List Ap)(hl:l.length≤1048576):lH l=some (bU l):=by
 unfold lH;refine aV (λi=>((i:Int),bU (l.take i))) l.length (by simp[bU]) (λi hi=>?_) ?_
 ·dsimp only
  obtain⟨h1,h2,_⟩:=wD l (i:=i) (by omega);rw[q9 hi];generalize bU (l.take i)=W at*;unfold kx;rw[if_pos (by simpa using hi),az hi,Z0]
  have app1:eR (i:Int) W l[i] (W.length:Int)=some (.inr (.inl ((((i+1:Nat):Int)),W++[⟨1,l[i]⟩]))):=by
   unfold eR mq iY;rw[if_neg (by simp),aH (by simp;omega),Z0,aT (by omega)];rfl
  have stepk:∀k,k+1<W.length→eR (i:Int) W l[i] (k:Int)=some (.inl ((k+1:Nat):Int)):=by
   intro k hk;unfold eR gQ;rw[if_pos (by simpa using by omega),if_neg (by rw[am (by omega)];simp;omega),if_neg (by decide),aT (by omega)]
  unfold wC;cases hg:W.getLast? with
  |none=>
   have:W=[]:=Xx.1 hg;subst this;exact aZ app1
  | some r =>
   dsimp only;have hsp:=qI hg
   obtain⟨n,hn⟩:∃n,W.length=n+1:=⟨W.length - 1,by
    have:W.length=W.dropLast.length+1:=by rw[hsp];simp
    omega⟩
   have hgn:W[n]? =some r:=by
    rw[Xy,hn] at hg;exact hg
   have hrm:=h1 r (X7 hg)
   by_cases e:r.fValue=l[i]
   ·rw [if_pos e]
    refine aV (λk=>(k:Int)) n rfl (λk hk=>stepk k (by omega)) ?_;unfold eR gQ iY;rw[if_pos (by simpa using by omega),if_pos (by rw[am (by omega)];simp;omega),mI (by omega),Z0,hgn,Z0,if_pos (by simpa using e),Z0,hgn,Z0,Z0,hgn,Z0,aT (by omega),IY _ _ _ hn,am (by omega),e]
    rfl
   ·rw [if_neg e]
    refine aV (λk=>(k:Int)) W.length rfl (λk hk=>?_) app1
    by_cases hk1:k+1<W.length
    ·exact stepk k hk1
    ·have:k=n:=by omega
     subst this;unfold eR gQ;rw[if_pos (by simpa using by omega),if_pos (by rw[am (by omega)];simp;omega),mI (by omega),Z0,hgn,Z0,if_neg (by simpa using e),aT (by omega)]
 ·dsimp only
  unfold kx mp;rw[if_neg (by simp),Z4];rfl
def l7 (r:aS):fD:=⟨r.fMany,r.fValue⟩
theorem DZ (l:List Ap)(hl:l.length≤1048576):Ag l=some ((bU l).map l7):=by
 unfold Ag;refine aV (λi=>((bU (l.take i)).map l7,(i:Int))) l.length (by simp[bU]) (λi hi=>?_) ?_
 ·dsimp only
  obtain⟨h1,h2,_⟩:=wD l (i:=i) (by omega);rw[q9 hi];unfold uJ
  have hnew:oT l ((bU (l.take i)).map l7) (i:Int) false=some (.inl ((bU (l.take i)++[(⟨1,l[i]⟩:aS)]).map l7,((i+1:Nat):Int))):=by
   unfold oT qS;rw[if_neg (by decide),az hi,Z0,aH (by simp;omega),Z0,aT (by omega)];simp[l7]
  rw[if_pos (by simpa using hi)];rcases Nat.eq_zero_or_pos i with h0|h0
  ·subst h0
   rw[if_neg (by decide),hnew];simp[bU,wC]
  ·obtain ⟨j,rfl⟩: ∃j,i=j+1:=⟨i - 1,by omega⟩
   have e1:Zb.wrap (((j+1:Nat):Int) - 1)=(j:Int):=by rw[am (by omega)];omega
   rw[if_pos (decide_eq_true (by omega)),az hi,Z0,e1,az (by omega),Z0];obtain⟨n,hlast⟩:∃n,(bU (l.take (j+1))).getLast?=some ⟨n,l[j]⟩:=by rw[q9 (by omega)];exact G0 _ _
   generalize hw:bU (l.take (j+1))=W at*;unfold wC;rw[hlast];dsimp only
   by_cases e:l[j+1]=l[j]
   ·rw [if_pos e.symm]
    unfold oT qS;have hsp:=qI hlast
    obtain⟨k,hk⟩:∃k,W.length=k+1:=⟨W.length - 1,by
     have:W.length=W.dropLast.length+1:=by rw[hsp];simp
     omega⟩
    have hrm:=h1 _ (X7 hlast)
    have hgk:(W.map l7)[k]? =some ⟨n,l[j]⟩:=by
     rw[Xy,hk] at hlast;rw[List.getElem?_map];have:W[k]? =some ⟨n,l[j]⟩:=hlast;rw[this];rfl
    have e2:Zb.wrap (((W.map l7).length:Int) - 1)=(k:Int):=by rw[am (by simp;omega)];simp;omega
    have hkl:k<(W.map l7).length:=by simp;omega
    have e3:(W.map l7)[k]=⟨n,l[j]⟩:=by
     rw[Z5 hkl] at hgk;exact Option.some.inj hgk
    have e4:=d3 (xs:=W.map l7) (lo:=0) (hi:=k) (by omega) (by omega);rw[show((0:Nat):Int)=0 from rfl] at e4;rw[if_pos (by simpa using e),e2,az hkl,Z0,e3,e4,Z0,aH (by simp;omega),Z0,aH (by simp;omega),Z0,aT (by omega)];simp only at hrm;rw[am (by simp;omega)];simp only[Zz,Xf,Xz,Yc,Yh,l7,List.map_dropLast];rw[List.dropLast_eq_take,Zp,hk,e]
    rfl
   ·rw [if_neg (fun h=>e h.symm)]
    have:decide (l[j+1]=l[j])=false:=by simpa using e
    rw[this,hnew]
 ·dsimp only
  unfold uJ zd;rw[if_neg (by simp),Z4];rfl
def xt (l:List Ap):List Int:=(bU l).flatMap λr=>r.fMany::bq r.fValue
theorem oB {α:Type}(l:List α)(f:α→List Int)(k:Nat)(h:∀x∈l,(f x).length≤k):(l.flatMap f).length≤k*l.length:=by
 induction l with
 |nil=>simp
 |cons v r ih=>
  have:=h v (by simp);have:=ih λx hx=>h x (by simp[hx]);rw[Zx,Z3,Z7,Nat.mul_add];omega
theorem oC {l:List Ap}:(∀r∈bU l,1≤r.fMany∧r.fMany≤l.length∧r.fValue∈l)∧(bU l).length≤l.length∧gP (bU l)=l:=by
 have:=wD l (Zn _);rwa[Z4] at this
theorem AB {l:List Ap}(h:∀v∈l,Rgt v)(hl:l.length≤64):ng l=some (xt l):=by
 obtain⟨h1,h2,_⟩:=oC (l:=l);unfold ng;rw[KF l (by omega),Z0];refine aV (λi=>(((bU l).take i).flatMap λr=>r.fMany::bq r.fValue,(i:Int))) (bU l).length (by simp) (λi hi=>?_) ?_
 ·dsimp only
  have hm:=h1 _ (Z2 hi);have hr:=h _ hm.2.2
  have hb:=oB ((bU l).take i) (λr=>r.fMany::bq r.fValue) 67 λx hx=>by
   have:=(ej (h _ (h1 x (Zf hx)).2.2)).2;simp;omega
  have hb':=(ej hr).2;simp only[Zl] at hb;unfold pC;rw[if_pos (by simpa using hi),az hi,Z0,bj,aH (by simp only[Z6];omega),Z0,qH hr,Z0,aH (by simp only[Z3,Z6];omega),Z0,aT (by omega),mh hi];have:(bU l)[i].fMany%256=(bU l)[i].fMany:=by omega
  rw[this];simp
 ·dsimp only
  unfold pC t8;rw[if_neg (by simp),Z4];rfl
def zig (d:Int):Nat:=if d<0 then (-2*d - 1).toNat else (2*d).toNat
def fp (z:Nat):List Int:=if h:z<128 then [(z:Int)] else ((z%128+128:Nat):Int)::fp (z/128)
termination_by z
theorem pN {z:Nat}(h:z<128):fp z=[(z:Int)]:=by rw[fp,dif_pos h]
theorem rY {z:Nat}(h: ¬ z<128):fp z=((z%128+128:Nat):Int)::fp (z/128):=by rw[fp,dif_neg h]
theorem Br: ∀(k z:Nat),z<128^(k+1)→(fp z).length≤k+1
 |0,z,h=>by rw[pN (by simpa using h)];simp
 | k + 1, z, h => by
  by_cases hz:z<128
  ·rw[pN hz];simp
  ·rw [rY hz]
   have:z/128<128^(k+1):=by rw[Nat.div_lt_iff_lt_mul (by decide)];rw[Nat.pow_succ] at h;exact h
   have:=Br k _ this;simp;omega
theorem lN {z:Nat}(h:z<18446744073709551616):(fp z).length≤10:=Br 9 z (Zt h (by decide))
theorem G1 (z:Nat):Byt (fp z):=by
 induction z using Xb with
 |_ z ih=>
  by_cases hz:z<128
  ·rw[pN hz];exact .cons (by omega) .nil
  ·rw[rY hz];exact .cons (by omega) (ih _ (by omega))
theorem nC {d:Int}(h:cW d):zig d<18446744073709551616:=by
 unfold zig cW at*;split<;>omega
def jR (l:List Int)(i:Nat):List Int:=fp (zig (Zb.wrap (l.getD (i+1) 0 - l.getD i 0)))
def nD (l:List Int):List Int:=be8 (l.getD 0 0%18446744073709551616)++(Zw (l.length - 1)).flatMap (jR l)
theorem Pu:∀n:_root_.Fin 256,n.val|||128=n.val%128+128:=by decide+kernel
theorem D0 (x:Nat): ∀(z:Nat) (acc:List Int),z<18446744073709551616→acc.length+(fp z).length≤140737488355328→x<1000→
  au (λs:(List Int×Int)=>jI (x:Int) s.1 s.2) (acc,(z:Int))=some (.inl (acc++fp z,((x+1:Nat):Int))):=by
 intro z
 induction z using Xb with
 | _ z ih =>
  intro acc hz hl hx
  by_cases h:z<128
  ·rw [pN h] at hl ⊢
   apply aZ;dsimp only;unfold jI sL sK;rw[if_neg (by simp;omega),bj,aH (by simpa using hl),Z0,aT (by omega)];have:(z:Int)%256=z:=by omega
   rw[this];rfl
  ·rw [rY h] at hl ⊢
   simp only[Z7] at hl
   have e:jI (x:Int) acc (z:Int)=some (.inl (acc++[((z%128+128:Nat):Int)],((z/128:Nat):Int))):=by
    unfold jI
    have h1:bOr .u8 ((z:Int)%256) 128=((z%128+128:Nat):Int):=by
     have h2:=Pu ⟨z%256,by omega⟩;simp only at h2;rw[show((z:Int)%256)=((z%256:Nat):Int) by omega,show(128:Int)=((128:Nat):Int) from rfl,or8 (by omega) (by omega),h2];congr 1;omega
    have h3:ay .u64 (z:Int) 7=((z/128:Nat):Int):=by have:=qf (x:=(z:Int)) (k:=7) (by omega);simpa using this
    rw[if_pos (by simp;omega),bj,h1,h3,aH (by simp;omega),Z0]
   rw[bL (by dsimp only;exact e),ih (z/128) (by omega) _ (by omega) (by simp;omega) hx];simp
theorem IZ {a:Nat}(ha:a<18446744073709551616):cx .u64 (a:Int) 18446744073709551615=18446744073709551615 - (a:Int):=by
 unfold cx;rw[bD];show(((Ze 64 (a:Int)^^^Ze 64 18446744073709551615).toNat:Nat):Int)%18446744073709551616=_;have h1:(Ze 64 (a:Int)).toNat=a:=by rw[Zm];omega
 have h2:Ze 64 18446744073709551615=BitVec.allOnes 64:=by decide
 rw[h2,BitVec.xor_allOnes,BitVec.toNat_not,h1];have:(2:Nat)^64=18446744073709551616:=by decide
 omega
theorem xor_zero {a:Nat}(ha:a<18446744073709551616):cx .u64 (a:Int) 0=(a:Int):=by
 unfold cx;rw[bD];show(((Ze 64 (a:Int)^^^Ze 64 0).toNat:Nat):Int)%18446744073709551616=_;have h1:(Ze 64 (a:Int)).toNat=a:=by rw[Zm];omega
 have h2:Ze 64 0=0#64:=by decide
 rw[h2,BitVec.xor_zero,h1];omega
theorem L6 {d:Int}(h:cW d):cx .u64 (dx .u64 (X6.wrap d) 1) (X6.wrap (ay .i64 d 63))=(zig d:Int):=by
 have h1:ay .i64 d 63=if d<0 then -1 else 0:=by
  unfold ay cW at*;rw[X4 _ (Yi (Int.pow_pos (by decide)))];have:(2:Int)^(min (63:Int).toNat Zb.bits)=9223372036854775808:=by decide
  rw[this];split<;>omega
 have h2:dx .u64 (X6.wrap d) 1=(2*d)%18446744073709551616:=by
  have:=zm (x:=X6.wrap d) (k:=1) (by omega);rw[show((1:Nat):Int)=1 from rfl] at this;rw[this,bD];omega
 rw[h1,h2,bD];unfold zig cW at*;split
 ·have e:((2*d)%18446744073709551616)=((2*d+18446744073709551616).toNat:Int):=by omega
  rw[show((-1:Int)%18446744073709551616)=18446744073709551615 from by decide,e,IZ (by omega)];omega
 ·have e:((2*d)%18446744073709551616)=((2*d).toNat:Int):=by omega
  rw[show((0:Int)%18446744073709551616)=0 from by decide,e,xor_zero (by omega)]
theorem zq {l:List Int}(h0:0<l.length)(hl:l.length≤64):me l=some (nD l):=by
 unfold me;have h00:idx l 0=some l[0]:=az (i:=0) h0;have hsub:=d3 (xs:=l) (lo:=1) (hi:=l.length) (by omega) (Zn _);rw[show((1:Nat):Int)=1 from rfl] at hsub;rw[h00,Z0,bD,sR,Z0,hsub,Z0,Z4];have hlen:(l.drop 1).length=l.length - 1:=by simp
 have hg0:l.getD 0 0=l[0]:=by rw[Zu,Z5 h0];rfl
 refine aV (λi=>(be8 (l[0]%18446744073709551616)++(Zw i).flatMap (jR l),(i:Int))) (l.length - 1) (by simp) (λi hi=>?_) ?_
 ·dsimp only
  unfold oO;rw[hlen,if_pos (by simpa using hi),az (by rw[hlen];exact hi),Z0,az (by omega),Z0];have hw:=lB ((l.drop 1)[i]'(by rw[hlen];exact hi) - l[i]'(by omega));have hb:=oB (Zw i) (jR l) 10 λx hx=>lN (nC (lB _));have h10:=lN (nC hw);simp only[Xm] at hb
  have e:jR l i=fp (zig (Zb.wrap ((l.drop 1)[i]'(by rw[hlen];exact hi) - l[i]'(by omega)))):=by
   unfold jR;rw[Zu,Zu,Z5 (show i+1<l.length by omega),Z5 (show i<l.length by omega)];simp only[Xe,List.getElem_drop];congr 5;omega
  rw[L6 hw,D0 i _ _ (nC hw) (by simp only[Z3,b9];omega) (by omega),Yg,Xa,←e];simp
 ·dsimp only
  unfold oO sJ;rw[hlen,if_neg (by simp)];unfold nD;rw[hg0];rfl
theorem zr (x:Nat): ∀(z:Nat) (acc:List Int),z<18446744073709551616→acc.length+(fp z).length≤140737488355328→x<1000→
  au (λs:(List Int×Int)=>nk (x:Int) s.1 s.2) (acc,(z:Int))=some (.inl (acc++fp z,((x+1:Nat):Int))):=by
 intro z
 induction z using Xb with
 | _ z ih =>
  intro acc hz hl hx
  by_cases h:z<128
  ·rw [pN h] at hl ⊢
   apply aZ;dsimp only;unfold nk xJ xI;rw[if_neg (by simp;omega),bj,aH (by simpa using hl),Z0,aT (by omega)];have:(z:Int)%256=z:=by omega
   rw[this];rfl
  ·rw [rY h] at hl ⊢
   simp only[Z7] at hl
   have e:nk (x:Int) acc (z:Int)=some (.inl (acc++[((z%128+128:Nat):Int)],((z/128:Nat):Int))):=by
    unfold nk;rw[if_pos (by simp;omega),bj,bD,bD,aH (by simp;omega),Z0,Zr (by omega),Zs (by omega)];congr 4
    ·congr 1;omega
    ·omega
   rw[bL (by dsimp only;exact e),ih (z/128) (by omega) _ (by omega) (by simp;omega) hx];simp
theorem AC {α:Type}{l:List α}{i:Nat}{d:α}(h:i<l.length):l.getD i d=l[i]:=by
 rw[Zu,Z5 h];rfl
theorem De {l:List Ap}(h0:0<l.length)(hl:l.length≤64):yp l=some (nD (l.map (·.fInt))):=by
 unfold yp;have h00:idx l 0=some l[0]:=az (i:=0) h0;rw[h00,Z0,bD,wy,Z0];have hg:∀i (h:i<l.length),(l.map (·.fInt)).getD i 0=l[i].fInt:=λi h=>by rw[AC (by simpa using h)];simp
 refine aV (λi=>(be8 (l[0].fInt%18446744073709551616)++(Zw i).flatMap (jR (l.map (·.fInt))),((i+1:Nat):Int))) (l.length - 1) (by simp) (λi hi=>?_) ?_
 ·dsimp only
  unfold tn tl;have e1:Zb.wrap (((i+1:Nat):Int) - 1)=(i:Int):=by rw[am (by omega)];omega
  rw[if_pos (by simpa using by omega),az (by omega),Z0,e1,az (by omega),Z0];have hw:=lB (l[i+1].fInt - l[i].fInt);have hb:=oB (Zw i) (jR (l.map (·.fInt))) 10 λx hx=>lN (nC (lB _));have h10:=lN (nC hw);simp only[Xm] at hb
  have e:jR (l.map (·.fInt)) i=fp (zig (Zb.wrap (l[i+1].fInt - l[i].fInt))):=by
   unfold jR;rw[hg _ (by omega),hg _ (by omega)]
  have key:=zr (i+1) (zig (Zb.wrap (l[i+1].fInt - l[i].fInt))) (be8 (l[0].fInt%18446744073709551616)++(Zw i).flatMap (jR (l.map (·.fInt)))) (nC hw) (by simp only[Z3,b9];omega) (by omega)
  have hz:(if decide (Zb.wrap (l[i+1].fInt - l[i].fInt)<0)=true then (X6.wrap (Zb.wrap ((Zb.wrap ((-2)*(Zb.wrap (l[i+1].fInt - l[i].fInt)))) - 1))) else (X6.wrap (Zb.wrap (2*(Zb.wrap (l[i+1].fInt - l[i].fInt))))))=((zig (Zb.wrap (l[i+1].fInt - l[i].fInt)):Nat):Int):=by
   generalize Zb.wrap (l[i+1].fInt - l[i].fInt)=d at*;simp only[decide_eq_true_eq];unfold zig cW at*;split
   ·rw[bD,jq,jq];omega
   ·rw[bD,jq];omega
  rw[Yg,Xa,Y9,e,←Zj,←key,←hz];split<;>rfl
 ·dsimp only
  unfold tn xH;rw[if_neg (by simp;omega)];unfold nD;rw[hg 0 h0];simp
def fq (w:List Ap)(v:Ap):Nat:=w.findIdx λx=>decide (v=x)
def n8 (l:List Ap):List Int:=((aO l).length:Int)::((aO l).flatMap bq++cN (l.map λv=>(fq (aO l) v:Int)) (wid ((aO l).length - 1)))
theorem I1 {w:List Ap}{v:Ap}(hw:w.length<1048576)(h:v∈w):ie w v=some (fq w v:Int):=by
 unfold ie;have:=Bm (f:=λs:Int=>fE w v s) w (λx=>decide (v=x)) (λi=>(i:Int)) (-1) (λi hi hp=>?_) (λi hi hp=>?_) ?_
 ·rw [this]
  have ha:w.any (λx=>decide (v=x))=true:=List.any_eq_true.2 ⟨v,h,by simp⟩;rw[ha];rfl
 ·unfold fE
  rw[if_pos (by simpa using hi),az hi,Z0,hp,if_neg (by decide),aT (by omega)]
 ·unfold fE
  rw[if_pos (by simpa using hi),az hi,Z0,hp,if_pos rfl];rfl
 ·unfold fE oy
  rw[if_neg (by simp)];rfl
theorem od {w:List Ap}{v:Ap}(h:v∈w):fq w v<w.length:=List.findIdx_lt_length_of_exists ⟨v,h,by simp⟩
theorem yC {w:List Ap}{v:Ap}(h:v∈w):w[fq w v]'(od h)=v:=by
 have:=List.findIdx_getElem (p:=λx=>decide (v=x)) (xs:=w) (w:=od h);simp only[decide_eq_true_eq] at this;exact this.symm
theorem zu {l w:List Ap}(h:∀v∈l,v∈w)(hw:w.length<1048576):U64 (l.map λv=>(fq w v:Int)):=λx hx=>by
 obtain⟨v,hv,rfl⟩:=X3.1 hx;have:=od (h v hv);omega
theorem AD {l:List Ap}(h:∀v∈l,Rgt v)(hl:l.length≤64)(hne:l≠[]):nh l=some (n8 l):=by
 obtain⟨r,hr1,hr2⟩:=zp h (by omega);obtain⟨h3,h4,h5⟩:=fo h;have hwr:∀v∈aO l,Rgt v:=λv hv=>h v ((h4 v).1 hv);unfold nh iR;rw[aH (by simp;omega),Z0,Z0,Zz,hr1,Z0,hr2,Z0,bj,show((aO l).length:Int)%256=(aO l).length by omega];have hfl:=jp hwr;refine aV (λi=>(((aO l).length:Int)::((aO l).take i).flatMap bq,(i:Int))) (aO l).length (by simp) (λi hi=>?_) ?_
 ·dsimp only
  unfold kz;have h1:=jp (l:=(aO l).take i) λv hv=>hwr v (Zf hv);have h2:=(ej (hwr _ (Z2 hi))).2;simp only[Zl] at h1;rw[if_pos (by simpa using hi),az hi,Z0,qH (hwr _ (Z2 hi)),Z0,aH (by simp only[Z7];omega),Z0,aT (by omega),mh hi]
  rfl
 ·dsimp only
  unfold kz;rw[if_neg (by simp),Z4];unfold mu
  have:au (λs:(List Int×Int)=>iZ l (aO l) (((aO l).length:Int)::(aO l).flatMap bq) s.1 s.2) ([],0)=some (n8 l):=by
   refine aV (λi=>((l.take i).map λv=>(fq (aO l) v:Int),(i:Int))) l.length (by simp) (λi hi=>?_) ?_
   ·dsimp only
    unfold iZ;have hm:=(h4 l[i]).2 (Z2 hi);have hp:=od hm;rw[if_pos (by simpa using hi),az hi,Z0,I1 (by omega) hm,Z0,bD,aH (by simp;omega),Z0,aT (by omega),Z1 hi];have:((fq (aO l) l[i]:Nat):Int)%18446744073709551616=(fq (aO l) l[i]:Nat):=by omega
    rw[this,Xz,Yc,Yh]
   ·dsimp only
    unfold iZ mt;rw[if_neg (by simp),Z4]
    by_cases h0:(aO l).length=0
    ·have hw0:aO l=[]:=Za h0
     have hl0:l=[]:=by
      cases l with
      |nil=>rfl
      |cons a t=>have:=(h4 a).2 (by simp);rw[hw0] at this;cases this
     subst hl0;exfalso;exact absurd rfl hne
    have e1:X6.wrap (Zb.wrap (((aO l).length:Int) - 1))=(((aO l).length - 1:Nat):Int):=by rw[am (by omega),bD];omega
    have hwid:wid ((aO l).length - 1)≤64:=o9 (Zt (show(aO l).length - 1<64 by omega) (by decide))
    have hpl:(cN (l.map λv=>(fq (aO l) v:Int)) (wid ((aO l).length - 1))).length≤64*64:=by
     unfold cN;rw[fR,Zp];have:=Zv hl hwid;omega
    rw[e1,len_eq (by omega),Z0,Bo (zu (λv hv=>(h4 v).2 hv) (by omega)) (by simp;omega) hwid,Z0,aH (by simp only[Z7];omega)]
    rfl
  rw[this];rfl
theorem Bt {w:List Ap}{v:Ap}(hn:w.Nodup)(h:v∈w){k:Nat}(hk:k<w.length):w[k]=v↔k=fq w v:=by
 constructor
 ·intro e
  rw[←yC h] at e;exact(List.getElem_inj hn).1 e
 ·rintro rfl;exact yC h
theorem D1 {l:List Ap}(h:∀v∈l,Rgt v)(hl:l.length≤64)(hne:l≠[]):Ah l=some (n8 l):=by
 obtain⟨h3,h4,h5⟩:=fo h;have hwr:∀v∈aO l,Rgt v:=λv hv=>h v ((h4 v).1 hv);unfold Ah;rw[Dd h (by omega),Z0,bj,show((aO l).length:Int)%256=(aO l).length by omega];have hfl:=jp hwr;refine aV (λi=>(((aO l).length:Int)::((aO l).take i).flatMap bq,(i:Int))) (aO l).length (by simp) (λi hi=>?_) ?_
 ·dsimp only
  unfold uN;have h1:=jp (l:=(aO l).take i) λv hv=>hwr v (Zf hv);have h2:=(ej (hwr _ (Z2 hi))).2;simp only[Zl] at h1;rw[if_pos (by simpa using hi),az hi,Z0,o8 (hwr _ (Z2 hi)),Z0,aH (by simp only[Z7];omega),Z0,aT (by omega),mh hi]
  rfl
 ·dsimp only
  unfold uN;rw[if_neg (by simp),Z4];unfold zg
  have:au (λs:(List Int×Int)=>qU l (aO l) (((aO l).length:Int)::(aO l).flatMap bq) s.1 s.2) ([],0)=some (n8 l):=by
   refine aV (λi=>((l.take i).map λv=>(fq (aO l) v:Int),(i:Int))) l.length (by simp) (λi hi=>?_) ?_
   ·dsimp only
    unfold qU;have hm:=(h4 l[i]).2 (Z2 hi);have hp:=od hm;rw[if_pos (by simpa using hi)];refine aV (λk=>(((l.take i).map λv=>(fq (aO l) v:Int))++if fq (aO l) l[i]<k then [(fq (aO l) l[i]:Int)] else [],(k:Int))) (aO l).length (by simp) (λk hk=>?_) ?_
    ·dsimp only
     unfold uM uL;rw[if_pos (by simpa using hk),az hk,Z0,az hi,Z0,aT (by omega)]
     by_cases e:k=fq (aO l) l[i]
     ·have e1:=(Bt h3.nodup hm hk).2 e
      rw[if_pos (by simpa using e1),if_neg (by omega),Xk,bD,aH (by simp;omega),Z0,if_pos (by omega)];have:(k:Int)%18446744073709551616=(fq (aO l) l[i]:Nat):=by omega
      rw[this]
     ·have e1: ¬ (aO l)[k]=l[i]:=fun h=>e ((Bt h3.nodup hm hk).1 h)
      rw[if_neg (by simpa using e1)];have e2:(fq (aO l) l[i]<k+1)=(fq (aO l) l[i]<k):=by apply propext;omega
      simp only[e2]
    ·dsimp only
     unfold uM zf;rw[if_neg (by simp),if_pos hp,aT (by omega),Z1 hi,Xz,Yc,Yh];rfl
   ·dsimp only
    unfold qU ze;rw[if_neg (by simp),Z4]
    have h0:(aO l).length≠0:=λh0=>by
     have hw0:aO l=[]:=Za h0;cases l with
     |nil=>exact hne rfl
     |cons a t=>have:=(h4 a).2 (by simp);rw[hw0] at this;cases this
    have e1:X6.wrap (Zb.wrap (((aO l).length:Int) - 1))=(((aO l).length - 1:Nat):Int):=by rw[am (by omega),bD];omega
    have hwid:wid ((aO l).length - 1)≤64:=o9 (Zt (show(aO l).length - 1<64 by omega) (by decide))
    have hpl:(cN (l.map λv=>(fq (aO l) v:Int)) (wid ((aO l).length - 1))).length≤64*64:=by
     unfold cN;rw[fR,Zp];have:=Zv hl hwid;omega
    rw[e1,C7 (by omega),Z0,vy (zu (λv hv=>(h4 v).2 hv) (by omega)) (by simp;omega) hwid,Z0,aH (by simp only[Z7];omega)]
    rfl
  rw[this];rfl
def kf:List Int→Int
 |[]=>0
 |a::r=>r.foldl (λm x=>if x<m then x else m) a
theorem Bu (r:List Int):∀a:Int,r.foldl (λm x=>if x<m then x else m) a≤a∧(∀x∈r,r.foldl (λm x=>if x<m then x else m) a≤x)∧(r.foldl (λm x=>if x<m then x else m) a=a∨r.foldl (λm x=>if x<m then x else m) a∈r):=by
 induction r with
 |nil=>intro a;simp
 | cons b r ih =>
  intro a;simp only[Zy];obtain⟨h1,h2,h3⟩:=ih (if b<a then b else a);have hb:(if b<a then b else a)≤a∧(if b<a then b else a)≤b∧((if b<a then b else a)=a∨(if b<a then b else a)=b):=by split<;>omega
  refine⟨by omega,λx hx=>?_,?_⟩
  ·rcases Zq.1 hx with rfl|hx
   ·omega
   ·exact h2 x hx
  ·rcases h3 with h3|h3
   ·rcases hb.2.2 with h4|h4
    ·left;omega
    ·right;rw[h3,h4];simp
   ·right;simp[h3]
theorem AE {l:List Int}{x:Int}(h:x∈l):kf l≤x:=by
 cases l with
 |nil=>cases h
 |cons a r=>
  obtain⟨h1,h2,_⟩:=Bu r a;rcases Zq.1 h with rfl|h
  ·exact h1
  ·exact h2 x h
theorem yD {l:List Int}(h:l≠[]):kf l∈l:=by
 cases l with
 |nil=>exact absurd rfl h
 |cons a r=>
  obtain⟨_,_,h3⟩:=Bu r a;rcases h3 with h3|h3
  ·show r.foldl _ a∈_;rw[h3];simp
  ·exact List.mem_cons_of_mem _ h3
def dN (l:List Int):Nat:=l.foldl (λw x=>max w (wid x.toNat)) 0
theorem tJ {l:List Int}{i:Nat}(h:i<l.length):dN (l.take (i+1))=max (dN (l.take i)) (wid l[i].toNat):=iV h
theorem lO {l:List Int}(h:U64 l):dN l≤64∧∀x∈l,wid x.toNat≤dN l:=by
 have key:∀i,i≤l.length→dN (l.take i)≤64∧∀x∈l.take i,wid x.toNat≤dN (l.take i):=by
  intro i
  induction i with
  |zero=>intro _;simp[dN]
  | succ i ih =>
   intro hi;obtain⟨h1,h2⟩:=ih (by omega);have hlt:i<l.length:=by omega
   have hx:=h l[i] (Z2 hlt);have hw:wid l[i].toNat≤64:=o9 (by rw[show(2:Nat)^64=18446744073709551616 by decide];omega);rw[tJ hlt];refine⟨by omega,λx hx=>?_⟩;rw[Z1 hlt] at hx;rcases Zd.1 hx with hx|hx
   ·have:=h2 x hx;omega
   ·have:x=l[i]:=by simpa using hx
    subst this;omega
 have:=key l.length (Zn _);rwa[Z4] at this
def bO (l:List Int):List Int:=l.map λx=>x - kf l
def nE (l:List Int):List Int:=be8 (kf l%18446744073709551616)++[(dN (bO l):Int)]++cN (bO l) (dN (bO l))
theorem oD {l:List Int}(h:∀x∈l,cW x):U64 (bO l):=λx hx=>by
 obtain⟨y,hy,rfl⟩:=X3.1 hx;have h1:=AE hy;have h2:=h y hy;have h3:=h (kf l) (yD (List.ne_nil_of_mem hy));unfold cW at h2 h3;omega
theorem Df {x m:Int}(hx:cW x)(hm:cW m)(h:m≤x):X6.wrap ((X6.wrap x) - (X6.wrap m))=x - m:=by
 rw[bD,bD,bD];unfold cW at*;omega
theorem L7 {l:List Int}(h0:0<l.length)(hl:l.length≤1048576):kS l=some (kf l):=by
 cases l with
 |nil=>simp at h0
 | cons a r =>
  unfold kS po;rw[if_neg (by simp;omega),dI,Z0];refine aV (λi=>((r.take i).foldl (λm x=>if x<m then x else m) a,((i+1:Nat):Int))) r.length (by simp) (λi hi=>?_) ?_
  ·dsimp only
   unfold lQ;rw[if_pos (by simpa using hi),az (by simpa using hi),Z0,aT (by simp at hl;omega),iV hi]
   rfl
  ·dsimp only
   unfold lQ pn;rw[if_neg (by simp),Z4];rfl
theorem G2 (a b:Nat):(if (a:Int)<(b:Int) then (b:Int) else (a:Int))=((max a b:Nat):Int):=by split<;>omega
theorem zw {l:List Int}(h:∀x∈l,cW x)(h0:0<l.length)(hl:l.length≤64):mf l=some (nE l):=by
 have hne:l≠[]:=λe=>by subst e;simp at h0
 have hm:=h _ (yD hne);have hu:=oD h;obtain⟨hw,hw2⟩:=lO hu;have hal:(bO l).length=l.length:=by simp[bO]
 unfold mf;rw[L7 h0 (by omega),Z0];refine aV (λi=>((bO l).take i,((dN ((bO l).take i):Nat):Int),(i:Int))) l.length (by simp[dN]) (λi hi=>?_) ?_
 ·dsimp only
  unfold oQ;have hxi:=Z2 hi;have hai:(bO l)[i]'(by omega)=l[i] - kf l:=by simp[bO]
  have hlt:=hu _ (Z2 (show i<(bO l).length by omega));rw[hai] at hlt;have e2:=Dc (n:=(l[i] - kf l).toNat) (by omega);rw[show(((l[i] - kf l).toNat:Nat):Int)=l[i] - kf l by omega] at e2;rw[if_pos (by simpa using hi),az hi,Z0,Df (h _ hxi) hm (AE hxi),aH (by simp;omega),Z0,e2,Z0,aT (by omega),G2,tJ (by omega),Z1 (by omega),hai]
 ·dsimp only
  unfold oQ sM
  have hpl:(cN (bO l) (dN (bO l))).length≤64*64:=by
   unfold cN;rw[fR,hal];have:=Zv hl hw;omega
  rw[if_neg (by simp),←hal,Z4,bD,sR,Z0,bj,aH (by simp[b9]),Z0,Bo hu (by omega) hw,Z0,aH (by simp only[Z3,b9,Z6];omega)];have:((dN (bO l):Nat):Int)%256=(dN (bO l):Nat):=by omega
  rw[this];rfl
theorem Dg {l:List Ap}(h:∀v∈l,cW v.fInt)(h0:0<l.length)(hl:l.length≤64):yr l=some (nE (l.map (·.fInt))):=by
 have h':∀x∈l.map (·.fInt),cW x:=λx hx=>by obtain⟨v,hv,rfl⟩:=X3.1 hx;exact h v hv
 have hne:l.map (·.fInt)≠[]:=λe=>by rw[List.map_eq_nil_iff] at e;subst e;simp at h0
 have hm:=h' _ (yD hne);have hu:=oD h';obtain⟨hw,hw2⟩:=lO hu;have hal:(bO (l.map (·.fInt))).length=l.length:=by simp[bO]
 unfold yr;have h00:idx l 0=some l[0]:=az (i:=0) h0;rw[h00,Z0]
 have hmin:kf (l.map (·.fInt))=l.foldl (λm x=>if x.fInt<m then x.fInt else m) l[0].fInt:=by
  cases l with
  |nil=>simp at h0
  |cons a r=>simp[kf,List.foldl_map]
 refine aV (λi=>((l.take i).foldl (λm x=>if x.fInt<m then x.fInt else m) l[0].fInt,(i:Int))) l.length (by simp) (λi hi=>?_) ?_
 ·dsimp only
  unfold tB;rw[if_pos (by simpa using hi),az hi,Z0,aT (by omega),iV hi]
 ·dsimp only
  unfold tB xP;rw[if_neg (by simp),Z4,←hmin]
  have:au (λs:(List Int×Int×Int)=>pZ l (kf (l.map (·.fInt))) s.1 s.2.1 s.2.2) ([],0,0)=some (nE (l.map (·.fInt))):=by
   refine aV (λi=>((bO (l.map (·.fInt))).take i,((dN ((bO (l.map (·.fInt))).take i):Nat):Int),(i:Int))) l.length (by simp[dN]) (λi hi=>?_) ?_
   ·dsimp only
    unfold pZ;have hxi:=Z2 hi;have hai:(bO (l.map (·.fInt)))[i]'(by omega)=l[i].fInt - kf (l.map (·.fInt)):=by simp[bO]
    have hlt:=hu _ (Z2 (show i<(bO (l.map (·.fInt))).length by omega));rw[hai] at hlt;have e2:=C7 (n:=(l[i].fInt - kf (l.map (·.fInt))).toNat) (by omega);rw[show(((l[i].fInt - kf (l.map (·.fInt))).toNat:Nat):Int)=l[i].fInt - kf (l.map (·.fInt)) by omega] at e2;rw[if_pos (by simpa using hi),az hi,Z0,Df (h _ hxi) hm (AE (List.mem_map_of_mem hxi)),aH (by simp;omega),Z0,e2,Z0,aT (by omega),G2,tJ (by omega),Z1 (by omega),hai]
   ·dsimp only
    unfold pZ xO
    have hpl:(cN (bO (l.map (·.fInt))) (dN (bO (l.map (·.fInt))))).length≤64*64:=by
     unfold cN;rw[fR,hal];have:=Zv hl hw;omega
    rw[if_neg (by simp),←hal,Z4,bD,wy,Z0,bj,aH (by simp[b9]),Z0,vy hu (by omega) hw,Z0,aH (by simp only[Z3,b9,Z6];omega)];have:((dN (bO (l.map (·.fInt))):Nat):Int)%256=(dN (bO (l.map (·.fInt))):Nat):=by omega
    rw[this];rfl
  rw[this];rfl
def pa (l:List Ap):List Int:=l.flatMap bq
def qJ (kind:Int) (l:List Ap):List Int:=
 if kind=1 then xt l else if kind=2 then nD (l.map (·.fInt)) else if kind=3 then n8 l else if kind=4 then nE (l.map (·.fInt)) else pa l
def jS (l:List Ap):Bool:=l.all λv=>v.fKind==2
def enc (kind:Int) (l:List Ap):List Int×Int:=
 if kind<0∨4<kind then ([],62) else if 64<l.length then ([],61) else if l.all right=false then ([],60) else
 if (kind=2∨kind=4)∧jS l=false then ([],62) else if l=[] then ([],0) else (qJ kind l,0)
theorem KG {l:List Ap}(hl:l.length≤1048576):mZ l=some (if jS l then (l.map (·.fInt),true) else ([],false)):=by
 unfold mZ jS;refine GZ (λi=>((l.take i).map (·.fInt),(i:Int))) l (λv=>v.fKind==2) _ _ (by simp) (λi hi hp=>?_) (λi hi hp=>?_) ?_
 ·dsimp only
  unfold mo;rw[if_pos (by simpa using hi),az hi,Z0,if_neg (by simpa using hp),aH (by simp;omega),Z0,aT (by omega),Z1 hi,Xz,Yc,Yh]
 ·dsimp only
  unfold mo;rw[if_pos (by simpa using hi),az hi,Z0,if_pos (by simpa using hp)];rfl
 ·dsimp only
  unfold mo t6;rw[if_neg (by simp),Z4];rfl
theorem D2 {l:List Ap}(hl:l.length≤1048576):eo l eY=some (!l.all right):=by
 unfold eo j5;have:=Bm (f:=λs:Int=>en l eY s) l (λv=> !right v) (λi=>(i:Int)) (-1) (λi hi hp=>?_) (λi hi hp=>?_) ?_
 ·rw [this,Z0]
  have e:l.any (λv=> !right v)= !l.all right:=by simp[List.any_eq_not_all_not]
  rw[e];cases l.all right<;>simp
 ·unfold en eY
  rw[if_pos (by simpa using hi),az hi,Z0,i8,Z0,Z0,hp,if_neg (by decide),aT (by omega)]
 ·unfold en eY
  rw[if_pos (by simpa using hi),az hi,Z0,i8,Z0,Z0,hp,if_pos rfl];rfl
 ·unfold en lW
  rw[if_neg (by simp)];rfl
theorem rt {l:List Ap}(h:∀v∈l,VOK v)(hr:l.all right=true):∀v∈l,Rgt v:=λv hv=>Rgt.of (h v hv) (List.all_eq_true.1 hr v hv)
theorem sW {l:List Ap}(kind:Int)(h:∀v∈l,VOK v)(hl:l.length≤1048576):fj kind l=some (enc kind l):=by
 unfold fj enc
 have hj:∀b,gR kind l b=some (if b=true then ([],62) else if 64<l.length then ([],61) else if l.all right=false then ([],60) else if (kind=2∨kind=4)∧jS l=false then ([],62) else if l=[] then ([],0) else (qJ kind l,0)):=by
  intro b;unfold gR;cases b
  ·simp only [Z8,if_false]
   by_cases h1:64<l.length
   ·rw[if_pos (decide_eq_true (by omega)),if_pos h1]
   rw[if_neg (by simp;omega),if_neg h1,D2 hl,Z0];cases hr:l.all right
   ·rfl
   rw[if_neg (by decide),if_neg (by decide),KG hl,Z0];have hR:=rt h hr
   have hj2:∀ns:List Int×Bool,(kind=2∨kind=4→ns.1=l.map (·.fInt))→eF kind l ns false=some (if l=[] then ([],0) else (qJ kind l,0)):=by
    intro ns hns;unfold eF;rw[if_neg (by decide)]
    by_cases h0:l=[]
    ·subst h0;rfl
    have hpos:0<l.length:=Zi.2 h0;rw[if_neg (by simpa using h0),if_neg h0];unfold qJ
    by_cases k1:kind=1
    ·rw[if_pos (by simpa using k1),AB hR (by omega),if_pos k1];rfl
    rw[if_neg (by simpa using k1),if_neg k1]
    by_cases k2:kind=2
    ·rw[if_pos (by simpa using k2),hns (.inl k2),zq (by simpa using hpos) (by simp;omega),if_pos k2];rfl
    rw[if_neg (by simpa using k2),if_neg k2]
    by_cases k3:kind=3
    ·rw[if_pos (by simpa using k3),AD hR (by omega) h0,if_pos k3];rfl
    rw[if_neg (by simpa using k3),if_neg k3]
    by_cases k4:kind=4
    ·rw[if_pos (by simpa using k4),hns (.inr k4),zw (λx hx=>by obtain⟨v,hv,rfl⟩:=X3.1 hx;exact(h v hv).int) (by simpa using hpos) (by simp;omega),if_pos k4];rfl
    rw[if_neg (by simpa using k4),if_neg k4];refine aV (λi=>((l.take i).flatMap bq,(i:Int))) l.length (by simp) (λi hi=>?_) ?_
    ·dsimp only
     unfold jh;have h3:=jp (l:=l.take i) λv hv=>hR v (Zf hv);have h2:=(ej (hR _ (Z2 hi))).2;simp only[Zl] at h3;rw[if_pos (by simpa using hi),az hi,Z0,qH (hR _ (Z2 hi)),Z0,aH (by omega),Z0,aT (by omega),mh hi]
    ·dsimp only
     unfold jh kU;rw[if_neg (by simp),Z4];rfl
   have hj2t:∀ns:List Int×Bool,eF kind l ns true=some ([],62):=λns=>rfl;cases hi:jS l
   ·simp only [Z8,if_false,Y6,if_true,and_true]
    by_cases k2:kind=2
    ·rw[if_pos (by simpa using k2),if_pos (.inl k2),hj2t]
    by_cases k4:kind=4
    ·have:(kind==4)=true:=by simpa using k4
     rw[if_neg (by simpa using k2),this,if_pos (.inr k4),hj2t]
    ·have:(kind==4)=false:=by simpa using k4
     rw[if_neg (by simpa using k2),this,if_neg (by omega),hj2 _ (by omega)]
   ·simp only [if_true,Xw,Z8,if_false,Bool.true_eq_false,and_false]
    exact hj2 _ λ_=>rfl
  ·rfl
 by_cases h0:kind<0
 ·rw[if_pos (by simpa using h0),if_pos (.inl h0),hj];rfl
 rw[if_neg (by simpa using h0),hj]
 by_cases h4:4<kind
 ·rw[if_pos (by simpa using h4),if_pos (show kind<0∨4<kind from .inr h4)]
 ·rw[if_neg (show ¬ (kind<0∨4<kind) by omega),if_neg (by simpa using h4)]
theorem FJ {l:List Ap}(kind:Int)(hl:l.length≤1048576):uI kind l=some (enc kind l).2:=by
 unfold uI enc
 have hj2:qE kind l=some (if l.all (λv=> !((decide (kind=2)||decide (kind=4))&&v.fKind != 2)) then 0 else 62):=by
  unfold qE;refine uR l _ _ _ (λi hi hp=>?_) (λi hi hp=>?_) ?_
  ·unfold nP lr
   rw[if_pos (by simpa using hi),az hi,Z0,aT (by omega)]
   by_cases k2:kind=2
   ·subst k2;simp at hp;simp[hp]
   by_cases k4:kind=4
   ·subst k4;simp at hp;simp[hp]
   ·simp[k2,k4]
  ·unfold nP lr
   rw[if_pos (by simpa using hi),az hi,Z0]
   by_cases k2:kind=2
   ·subst k2;simp at hp;simp[hp]
   by_cases k4:kind=4
   ·subst k4;simp at hp;simp[hp]
   ·simp[k2,k4] at hp
  ·unfold nP vp
   rw[if_neg (by simp)];rfl
 have hj :∀ b, nQ kind l b = some (if b = true then 62 else if 64 < l.length then 61 else if l.all right = false then 60 else if (kind = 2 ∨ kind = 4) ∧ jS l = false then 62 else 0) := by
  intro b;unfold nQ;cases b
  ·simp only [Z8,if_false]
   by_cases h1:64<l.length
   ·rw[if_pos (decide_eq_true (by omega)),if_pos h1]
   rw[if_neg (by simp;omega),if_neg h1];have:=uR (f:=λs:Int=>lu kind l s) l right 60 (if (kind=2∨kind=4)∧jS l=false then 62 else 0) (λi hi hp=>?_) (λi hi hp=>?_) ?_
   ·rw[this];cases l.all right<;>rfl
   ·unfold lu
    rw[if_pos (by simpa using hi),az hi,Z0,o7,Z0,hp,if_neg (by decide),aT (by omega)]
   ·unfold lu
    rw[if_pos (by simpa using hi),az hi,Z0,o7,Z0,hp];rfl
   ·unfold lu
    rw[if_neg (by simp),hj2];unfold jS
    by_cases hk:kind=2∨kind=4
    ·have e:(decide (kind=2)||decide (kind=4))=true:=by simpa using hk
     simp only[e,Yb,hk,true_and]
     have e2:(l.all λv=> !(v.fKind != 2))=l.all λv=>v.fKind==2:=by
      congr 1;funext v;cases hv:(v.fKind==2)<;>simp[bne,hv]
     rw[e2];cases l.all λv=>v.fKind==2<;>rfl
    ·have e:(decide (kind=2)||decide (kind=4))=false:=by simpa using hk
     simp[e,hk]
  ·rfl
 by_cases h0:kind<0
 ·rw[if_pos (by simpa using h0),if_pos (.inl h0),hj];rfl
 rw[if_neg (by simpa using h0),hj]
 by_cases h4:4<kind
 ·rw[if_pos (by simpa using h4),if_pos (show kind<0∨4<kind from .inr h4)]
 ·rw [if_neg (show ¬ (kind<0∨4<kind) by omega),if_neg (by simpa using h4)]
  congr 1
  repeat' split
  all_goals rfl
theorem qK {l:List Ap}(kind:Int)(h:∀v∈l,VOK v)(hl:l.length≤1048576):qq kind l=some (enc kind l):=by
 unfold qq;rw[FJ kind hl,Z0];unfold rO
 by_cases he:(enc kind l).2=0
 ·rw [if_neg (by simpa using he)]
  unfold enc at he ⊢;split at he
  ·cases he
  rename_i hk;rw[if_neg hk];split at he
  ·cases he
  rename_i hlen;rw[if_neg hlen];split at he
  ·cases he
  rename_i hr;rw[if_neg hr];split at he
  ·cases he
  rename_i hi;rw[if_neg hi];have hR:=rt h (by simpa using hr)
  by_cases h0:l=[]
  ·subst h0;rfl
  rw[if_neg h0,if_neg (by simpa using h0)];have hpos:0<l.length:=Zi.2 h0;unfold qJ ii
  by_cases k1:kind=1
  ·rw [if_pos (by simpa using k1),DZ _ hl,if_pos k1,Z0]
   obtain⟨h1,h2,_⟩:=oC (l:=l);refine aV (λi=>(((bU l).take i).flatMap λr=>r.fMany::bq r.fValue,(i:Int))) (bU l).length (by simp) (λi hi=>?_) ?_
   ·dsimp only
    have hm:=h1 _ (Z2 hi);have hr:=hR _ hm.2.2
    have hb:=oB ((bU l).take i) (λr=>r.fMany::bq r.fValue) 67 λx hx=>by
     have:=(ej (hR _ (h1 x (Zf hx)).2.2)).2;simp;omega
    have hb':=(ej hr).2;simp only[Zl] at hb;have hg:((bU l).map l7)[i]'(by simpa using hi)=l7 (bU l)[i]:=by simp
    unfold rM;rw[if_pos (by simpa using hi),az (by simpa using hi),Z0,hg,bj,aH (by simp only[Z6];omega),Z0,Z0];unfold l7;dsimp only;rw[o8 hr,Z0,aH (by simp only[Z3,Z6];omega),Z0,aT (by omega),mh hi];have:(bU l)[i].fMany%256=(bU l)[i].fMany:=by omega
    rw[this];simp
   ·dsimp only
    unfold rM ii;rw[if_neg (by simp),Z4];rfl
  rw[if_neg (by simpa using k1),if_neg k1]
  by_cases k2:kind=2
  ·rw[if_pos (by simpa using k2),De hpos (by omega),if_pos k2];rfl
  rw[if_neg (by simpa using k2),if_neg k2]
  by_cases k3:kind=3
  ·rw[if_pos (by simpa using k3),D1 hR (by omega) h0,if_pos k3];rfl
  rw[if_neg (by simpa using k3),if_neg k3]
  by_cases k4:kind=4
  ·rw[if_pos (by simpa using k4),Dg (λv hv=>(h v hv).int) hpos (by omega),if_pos k4];rfl
  rw[if_neg (by simpa using k4),if_neg k4];refine aV (λi=>((l.take i).flatMap bq,(i:Int))) l.length (by simp) (λi hi=>?_) ?_
  ·dsimp only
   unfold rN;have h3:=jp (l:=l.take i) λv hv=>hR v (Zf hv);have h2:=(ej (hR _ (Z2 hi))).2;simp only[Zl] at h3;rw[if_pos (by simpa using hi),az hi,Z0,o8 (hR _ (Z2 hi)),Z0,aH (by omega),Z0,aT (by omega),mh hi]
  ·dsimp only
   unfold rN ii;rw[if_neg (by simp),Z4];rfl
 ·rw [if_pos (by simpa using he),if_pos rfl]
  have:(enc kind l).1=[]:=by
   unfold enc at he ⊢
   repeat' split
   all_goals first|rfl|(exfalso;simp_all)
  congr 1;exact Yk this.symm rfl
theorem fw {kind:Int}{l:List Ap}{b:List Int}(h:enc kind l=(b,0)):(0≤kind∧kind≤4)∧l.length≤64∧l.all right=true∧((kind=2∨kind=4)→jS l=true)∧((l=[]∧b=[])∨(l≠[]∧b=qJ kind l)):=by
 unfold enc at h;split at h
 ·cases h
 rename_i h1;split at h
 ·cases h
 rename_i h2;split at h
 ·cases h
 rename_i h3;split at h
 ·cases h
 rename_i h4;refine⟨by omega,by omega,by simpa using h3,λh5=>?_,?_⟩
 ·cases hi:jS l with
  |true=>rfl
  |false=>exact absurd ⟨h5,hi⟩ h4
 ·split at h
  ·rename_i h6;left;exact⟨h6,(Prod.mk.inj h).1.symm⟩
  ·rename_i h6;right;exact⟨h6,(Prod.mk.inj h).1.symm⟩
def Pv (kind:Int)(b:List Int)(many:Nat)(g:List Ap)(ok:Bool):Prop:= ∀l:List Ap,(∀v∈l,Rgt v)→l.length=many→enc kind l=(b,0)→g=l∧ok=true
def kp (kind:Int)(b:List Int)(many:Nat)(x:List Ap×aj):Prop:=(∀v∈x.1,VOK v)∧x.1.length≤1048576∧Pv kind b many x.1 x.2.fOk
theorem D3 {l:List Ap}{k:Nat}(h:k<l.length):pa (l.drop k)=bq l[k]++pa (l.drop (k+1)):=by
 unfold pa;rw[Zh h,Zx]
theorem wE {v:Ap}(h:Rgt v){r:List Int}{ok:Bool}{rest:List Int}(hr:r=bq v++rest)(hb:Byt r)(hl:r.length<140737488355328):dH ⟨r,ok⟩=some (v,⟨rest,ok⟩):=by
 rw[C5 hb hl];dsimp only;rw[hr,qt h];dsimp only;rw[Xg]
theorem wF {r:aj}(hb:Byt r.fB)(hl:r.fB.length<140737488355328):∃v r',dH r=some (v,r')∧Rgt v∧Byt r'.fB∧r'.fB.length≤r.fB.length∧(r.fOk=false→r'.fOk=false):=by
 rw[C5 hb hl];cases hp:cf r.fB with
 |none=>exact⟨_,_,rfl,.null,hb,Zn _,λ_=>rfl⟩
 |some x=>
  obtain⟨v,n⟩:=x;exact⟨_,_,rfl,(mF hb hp).1,hb.drop _,by simp,λh=>h⟩
theorem D4 {b:List Int}{many:Nat}(hb:Byt b)(hl:b.length<140737488355328)(hm:1≤many∧many≤64):∃x,bS ⟨b,true⟩ 0 (many:Int)=some x∧kp 0 b many x:=by
 unfold bS;rw[if_pos (by decide)];refine gH (I:=λs:List Ap×aj=>Byt s.2.fB∧s.2.fB.length<140737488355328∧(∀v∈s.1,Rgt v)∧s.1.length≤many∧∀l:List Ap,(∀v∈l,Rgt v)→l.length=many→b=pa l→s.1=l.take s.1.length∧s.2=⟨pa (l.drop s.1.length),true⟩) (μ:=λs=>many - s.1.length) (Q:=kp 0 b many) ?_ ⟨hb,hl,by simp,by simp,λl _ _ h=>⟨rfl,by rw[h];rfl⟩⟩;rintro ⟨acc,r⟩ ⟨h1,h2,h3,h4,h5⟩;dsimp only at*
 have hend:acc.length=many∨r.fOk=false→kp 0 b many (acc,r):=λh=>⟨λv hv=>(h3 v hv).ok,by dsimp only;omega,λl hr hlen he=>by
  obtain⟨_,_,_,_,he⟩:=fw he
  have he':b=pa l:=by
   rcases he with⟨e,_⟩|⟨_,e⟩
   ·subst e;simp at hlen;omega
   ·exact e
  obtain⟨g1,g2⟩:=h5 l hr hlen he';subst g2;rcases h with h|h
  ·rw[h,←hlen,Z4] at g1;exact⟨g1,rfl⟩
  ·cases h⟩
 unfold nq j7 cg
 by_cases hlt:acc.length<many
 ·rw [if_pos (decide_eq_true (by omega))]
  cases hok:r.fOk with
  |false=>right;exact⟨_,rfl,hend (.inr hok)⟩
  | true =>
   left;rw[if_pos rfl];obtain⟨v,r',e1,e2,e3,e4,_⟩:=wF h1 h2;rw[e1,Z0,aH (by simp;omega),Z0];refine⟨_,rfl,⟨e3,by dsimp only;omega,λx hx=>?_,by simp;omega,λl hr hlen he=>?_⟩,by simp;omega⟩
   ·rcases Zd.1 hx with hx|hx
    ·exact h3 x hx
    ·have:x=v:=by simpa using hx
     subst this;exact e2
   ·obtain ⟨g1,g2⟩:=h5 l hr hlen he
    subst g2;have hk:acc.length<l.length:=by omega
    have:=wE (hr _ (Z2 hk)) (ok:=true) (D3 hk) h1 h2;rw[this] at e1;obtain⟨rfl,rfl⟩:=Prod.mk.inj (Option.some.inj e1);refine⟨?_,by simp⟩;simp only[Z3,Z6];rw[Z1 hk,←g1]
 ·right
  rw[if_neg (by simp;omega),if_neg (by decide)];exact⟨_,rfl,hend (.inl (by omega))⟩
theorem Pw:∀n:_root_.Fin 256,qW 1 ((n.val:Nat):Int)=some (0,((n.val:Nat):Int)):=by decide+kernel
theorem G3 (v:Ap){n:Nat}(hn:n≤255):eZ [v] (n:Int)=some (Z9 n v):=by
 have hm:qW 1 (n:Int)=some (0,(n:Int)):=Pw ⟨n,by omega⟩;have e1:X6.wrap ((([v]:List Ap).length:Nat):Int)=1:=by rw[bD];rfl
 have e2:X6.wrap (n:Int)=(n:Int):=by rw[bD];omega
 unfold eZ g7 uP;rw[if_neg (by simp),e1,e2,hm,Z0,Z0];unfold fe gZ;dsimp only;rw[if_neg (by simp),if_neg (by simp;omega)];rw[am (by omega),uU (by omega),Z0];refine oA (I:=λs:Int×List Ap=>∃k:Nat,s.1=(k:Int)∧k≤n∧(0<n→0<k)∧s.2=Z9 k v++Z9 (n - k) Ap.zero) (μ:=λs=>n - s.1.toNat) ?_ ?_
 ·rintro ⟨_,_⟩ ⟨k,rfl,hk,hk0,rfl⟩
  dsimp only;unfold gY gX;have hlen:(Z9 k v++Z9 (n - k) Ap.zero).length=n:=by simp;omega
  by_cases hlt:k<n
  ·left
   have hv1:vw (Z9 k v++Z9 (n - k) Ap.zero) (k:Int) ((Z9 k v++Z9 (n - k) Ap.zero).length:Int)=some (k,n - k):=by
    unfold vw;rw[if_pos (by omega),hlen];simp
   have hv2:vw (Z9 k v++Z9 (n - k) Ap.zero) 0 (k:Int)=some (0,k):=by
    unfold vw;rw[if_pos (by omega)];simp
   have hmn:Nat.ble (min k (n - k)) cI=true:=Nat.ble_eq_true_of_le (by unfold cI;omega);rw[if_pos (by rw[hlen];exact decide_eq_true (by omega)),hv1,Z0,hv2,Z0];dsimp only;rw[rT hmn,Z0]
   have hc:cpv (Z9 k v++Z9 (n - k) Ap.zero) (k,n - k) (0,k)=some (Z9 (k+min k (n - k)) v++Z9 (n - (k+min k (n - k))) Ap.zero):=by
    unfold cpv;rw[if_pos (by dsimp only;omega)];dsimp only;unfold spl
    have e3:((Z9 k v++Z9 (n - k) Ap.zero).drop 0).take (min k (n - k))=Z9 (min k (n - k)) v:=by
     rw[Xf,List.take_append_of_le_length (by simp;omega)];rw[List.take_replicate];congr 1;omega
    rw[e3,Xj (by simp),Xn,List.drop_append,List.drop_replicate,List.drop_replicate,Xn];have e4:k - (k+min k (n - k))=0:=by omega
    have e5:n - k - (k+min k (n - k) - k)=n - (k+min k (n - k)):=by omega
    rw[e4,e5,←Zj,←List.replicate_append_replicate];simp
   rw[hc,Z0];refine⟨_,rfl,⟨k+min k (n - k),?_,by omega,by omega,rfl⟩,?_⟩
   ·dsimp only;rw[am (by omega)];omega
   ·dsimp only;rw [am (by omega)]
    have:=hk0 (by omega);omega
  ·right
   have:k=n:=by omega
   subst this;rw[if_neg (by rw[hlen];simp)];simp
 ·refine ⟨min 1 n,by simp,by omega,by omega,?_⟩
  dsimp only;unfold cpy;rcases Nat.eq_zero_or_pos n with h|h
  ·subst h;rfl
  ·have:min 1 n=1:=by omega
   rw[this];have e:n=(n - 1)+1:=by omega
   rw[e,List.replicate_succ];simp
def tk1 (r:aj):List Int×aj:=match r.fB with|[]=>([0],⟨[],false⟩)|c::t=>([c],⟨t,r.fOk⟩)
theorem take_one (r:aj):cG r 1=some (tk1 r):=by
 have:=Av (r:=r) (n:=1) (by omega);rw[show((1:Nat):Int)=1 from rfl] at this;rw[this];obtain⟨b,ok⟩:=r;unfold tk1;cases b with
 |nil=>rfl
 |cons c t=>simp
theorem uV (c:Int)(t:List Int)(ok:Bool):tk1 ⟨c::t,ok⟩=([c],⟨t,ok⟩):=rfl
theorem xu (r:aj)(h:Byt r.fB):∃c r1,tk1 r=([c],r1)∧(0≤c∧c<256)∧Byt r1.fB∧r1.fB.length≤r.fB.length∧(r1.fOk=false∨(r.fB=c::r1.fB∧r1.fOk=r.fOk)):=by
 obtain⟨b,ok⟩:=r;cases b with
 |nil=>exact⟨0,⟨[],false⟩,rfl,by decide,.nil,Zn _,.inl rfl⟩
 |cons c t=>exact⟨c,⟨t,ok⟩,rfl,h.head,h.tail,by simp,.inr ⟨rfl,rfl⟩⟩
def zx (rs:List aS):List Int:=rs.flatMap λr=>r.fMany::bq r.fValue
theorem zy {rs:List aS}{j:Nat}(h:j<rs.length):gP (rs.take (j+1))=gP (rs.take j)++Z9 rs[j].fMany.toNat rs[j].fValue:=by
 unfold gP;rw[Z1 h,Xa,Y9]
theorem wG (rs:List aS)(j:Nat):gP rs=gP (rs.take j)++gP (rs.drop j):=by
 unfold gP;rw[←Xa,Zg]
theorem FK {b:List Int}{many:Nat}(hb:Byt b)(hl:b.length<140737488355328)(hm:1≤many∧many≤64):∃x,bS ⟨b,true⟩ 1 (many:Int)=some x∧kp 1 b many x:=by
 unfold bS;rw[if_neg (by decide),if_pos (by decide)];refine gH (I:=λs:List Ap×aj=>Byt s.2.fB∧s.2.fB.length<140737488355328∧(∀v∈s.1,Rgt v)∧s.1.length≤many∧∀l:List Ap,(∀v∈l,Rgt v)→l.length=many→b=xt l→∃j,j≤(bU l).length∧s.1=gP ((bU l).take j)∧s.2=⟨zx ((bU l).drop j),true⟩) (μ:=λs=>if s.2.fOk then s.2.fB.length+1 else 0) (Q:=kp 1 b many) ?_ ⟨hb,hl,by simp,by simp,λl _ _ h=>⟨0,by omega,rfl,by rw[h];rfl⟩⟩;rintro ⟨acc,r⟩ ⟨h1,h2,h3,h4,h5⟩;dsimp only at*
 have hend:acc.length=many∨r.fOk=false→kp 1 b many (acc,r):=λh=>⟨λv hv=>(h3 v hv).ok,by dsimp only;omega,λl hr hlen he=>by
  obtain⟨_,_,_,_,he⟩:=fw he
  have he':b=xt l:=by
   rcases he with⟨e,_⟩|⟨_,e⟩
   ·subst e;simp at hlen;omega
   ·exact e
  obtain⟨j,g0,g1,g2⟩:=h5 l hr hlen he';subst g2;rcases h with h|h
  ·refine ⟨?_,rfl⟩
   have h6:=wG (bU l) j;rw[oC.2.2,←g1] at h6;have h7:=congrArg List.length h6;simp only[Z3] at h7;have h8:gP ((bU l).drop j)=[]:=Za (by omega);rw[h8,Xk] at h6;exact h6.symm
  ·cases h⟩
 unfold nr j8 cg
 by_cases hlt:acc.length<many
 ·rw [if_pos (decide_eq_true (by omega))]
  cases hok:r.fOk with
  |false=>right;exact⟨_,rfl,hend (.inr hok)⟩
  | true =>
   left;rw[if_pos rfl,take_one,Z0];obtain⟨rb,rok⟩:=r;dsimp only at*;subst hok;obtain⟨c,r1,e1,hc,hr1,hr2,hr3⟩:=xu ⟨rb,true⟩ h1;replace hr2:r1.fB.length<140737488355328:=by dsimp only at hr2;omega
   dsimp only at hr3;rw[e1];dsimp only;rw[dI,Z0];obtain⟨v,r',f1,f2,f3,f4,f5⟩:=wF hr1 hr2;obtain⟨cn,rfl⟩:=Zc hc.1
   have hn:(if (Zb.wrap ((many:Int) - (acc.length:Int)))<(Zb.wrap (cn:Int)) then Zb.wrap ((many:Int) - (acc.length:Int)) else Zb.wrap (cn:Int))=((min cn (many - acc.length):Nat):Int):=by
    rw[am (by omega),am (by omega)];split<;>omega
   rw[f1,Z0];dsimp only;rw[hn,G3 v (by omega),Z0,aH (by simp;omega),Z0];refine⟨_,rfl,⟨f3,by dsimp only;omega,λx hx=>?_,by simp;omega,λl hr hlen he=>?_⟩,?_⟩
   ·rcases Zd.1 hx with hx|hx
    ·exact h3 x hx
    ·have:=(Y3.1 hx).2
     subst this;exact f2
   ·obtain ⟨j,g0,g1,g2⟩:=h5 l hr hlen he
    obtain⟨rfl,_⟩:=aj.mk.inj g2;obtain⟨q1,q2,q3⟩:=oC (l:=l)
    have hj:j<(bU l).length:=by
     rcases Nat.lt_or_ge j (bU l).length with h|h
     ·exact h
     ·rw [Xi h,q3] at g1
      rw[g1] at hlt;omega
    have hd:zx ((bU l).drop j)=(bU l)[j].fMany::(bq (bU l)[j].fValue++zx ((bU l).drop (j+1))):=by
     unfold zx;rw[Zh hj,Zx];rfl
    have hm1:=q1 _ (Z2 hj)
    have hr4:((cn:Int)::r1.fB=(bU l)[j].fMany::(bq (bU l)[j].fValue++zx ((bU l).drop (j+1))))∧r1.fOk=true:=by
     rcases hr3 with h|⟨h,h'⟩
     ·exfalso
      rw[hd,uV] at e1;rw[←(Prod.mk.inj e1).2] at h;cases h
     ·rw[←hd,←h];exact⟨rfl,h'⟩
    obtain⟨hr5,hr6⟩:=hr4;obtain⟨hc1,hr7⟩:=List.cons.inj hr5;obtain⟨r1b,r1o⟩:=r1;dsimp only at*;subst hr6;have hv:=wE (hr _ hm1.2.2) (ok:=true) hr7 hr1 hr2;rw[hv] at f1;obtain⟨rfl,rfl⟩:=Prod.mk.inj (Option.some.inj f1);refine⟨j+1,by omega,?_,by simp⟩;have hel:=zy hj;have hsp:=wG (bU l) (j+1);rw[q3,hel,←g1] at hsp;have:=congrArg List.length hsp;simp only[Z3,Xn] at this;rw[hel,←g1];congr 2;omega
   ·dsimp only
    rcases hr3 with h|⟨h,h'⟩
    ·rw[if_neg (by rw[f5 h];decide)];simp
    ·have:=congrArg List.length h
     simp only[Z7] at this;simp only[if_true];split<;>omega
 ·right
  rw[if_neg (by simp;omega),if_neg (by decide)];exact⟨_,rfl,hend (.inl (by omega))⟩
theorem zA {r:aj}(hb:Byt r.fB):gq r=some (if r.fB.length<8 then (0,⟨[],false⟩) else (dA (r.fB.take 8),⟨r.fB.drop 8,r.fOk⟩)):=by
 have key:∀(t:List Int) (r':aj),Byt t→t.length=8→au (λs:(Int×Int)=>gI (t,r') s.1 s.2) (0,0)=some (dA t,r'):=by
  intro t r' ht hl;refine aV (λi=>(dA (t.take i),(i:Int))) 8 (by simp[dA]) (λi hi=>?_) ?_
  ·dsimp only
   unfold gI;have hi':i<t.length:=by omega
   have hbd:=Am (t.take i) (ht.take i);have hci:=ht t[i] (Z2 hi')
   have hp:(256:Int)^(t.take i).length≤256^7:=by
    have:(t.take i).length≤7:=by simp;omega
    have h9:=Xo (show 0<256 by omega) this;have h8:=Int.ofNat_le.2 h9;simpa[Xt] using h8
   have hsh:=zm (x:=dA (t.take i)) (k:=8) (by omega);rw[show((8:Nat):Int)=8 from rfl] at hsh
   have e:dA (t.take (i+1))=dA (t.take i)*256+t[i]:=by
    rw[Z1 hi',tI]
   have e1:dA (t.take i)*2^8%18446744073709551616=dA (t.take i)*2^8:=by omega
   have e2:t[i]%18446744073709551616=t[i]:=by omega
   dsimp only;rw[if_pos (decide_eq_true (by omega)),az hi',Z0,aT (by omega),hsh,bD,e,e1,e2,GU 8 (by omega) (by omega) (by omega) (by omega)]
   rfl
  ·unfold gI mR
   dsimp only;rw[if_neg (by rw[hl];simp),Xi (by omega)];rfl
 unfold gq;have h8:=Av (r:=r) (n:=8) (by omega);rw[show((8:Nat):Int)=8 from rfl] at h8;rw[h8,Z0]
 by_cases h:r.fB.length<8
 ·rw[if_pos h,if_pos h,key _ _ (λc hc=>by rw[Y5 hc];decide) (by simp)];rfl
 ·rw[if_neg h,if_neg h,key _ _ (hb.take _) (by simp;omega)]
theorem G4 {r:aj}(hb:Byt r.fB):∃x,fa r=some x∧(Byt x.2.fB∧x.2.fB.length≤r.fB.length):=by
 unfold fa;refine gH (I:=λs:Int×Int×aj=>∃k:Nat,s.2.1=(k:Int)∧k≤76∧Byt s.2.2.fB∧s.2.2.fB.length≤r.fB.length) (μ:=λs=>77 - s.2.1.toNat) (Q:=λx:Int×aj=>Byt x.2.fB∧x.2.fB.length≤r.fB.length) ?_ ⟨0,rfl,by omega,hb,Zn _⟩;rintro ⟨z,_,r1⟩ ⟨k,rfl,hk,h1,h2⟩;dsimp only at*;unfold j6 g8 nl
 by_cases h70:(k:Int)<70
 ·rw [if_pos (decide_eq_true h70)]
  cases hok:r1.fOk with
  |false=>right;exact⟨_,rfl,h1,h2⟩
  | true =>
   rw[if_pos rfl,take_one,Z0];obtain⟨c,r2,e1,hc,hr1,hr2,_⟩:=xu r1 h1;rw[e1];dsimp only;rw[dI,Z0,uf,Z0]
   by_cases h128:c<128
   ·right;rw[if_pos (decide_eq_true h128)];exact⟨_,rfl,hr1,by dsimp only;omega⟩
   ·left;rw [if_neg (by simpa using h128)]
    refine⟨_,rfl,⟨k+7,?_,by omega,hr1,by dsimp only;omega⟩,?_⟩
    ·dsimp only;rw[am (by omega)];rfl
    ·dsimp only;rw[am (by omega)];omega
 ·right;rw[if_neg (by simpa using h70),if_neg (by decide)];exact⟨_,rfl,h1,h2⟩
theorem L8:∀n:_root_.Fin 256,n.val&&&127=n.val%128:=by decide+kernel
theorem FL (q:Nat):∃(c:Nat) (t:List Int),fp q=(c:Int)::t∧c<256∧c%128=q%128∧((c<128∧q<128∧t=[])∨(128≤c∧128≤q∧t=fp (q/128))):=by
 by_cases h:q<128
 ·exact⟨q,[],pN h,by omega,rfl,.inl ⟨h,h,rfl⟩⟩
 ·exact⟨q%128+128,_,rY h,by omega,by omega,.inr ⟨by omega,by omega,rfl⟩⟩
theorem G5 {z:Nat}(hz:z<18446744073709551616)(rest:List Int):fa ⟨fp z++rest,true⟩=some ((z:Int),⟨rest,true⟩):=by
 unfold fa;have h64:(2:Nat)^64=18446744073709551616:=by decide
 refine oA (I:=λs:Int×Int×aj=>∃i:Nat,i≤9∧s=(((z%2^(7*i):Nat):Int),((7*i:Nat):Int),⟨fp (z/2^(7*i))++rest,true⟩)) (μ:=λs=>77 - s.2.1.toNat) ?_ ⟨0,by omega,by simp[Nat.mod_one]⟩;rintro _ ⟨i,hi,rfl⟩;dsimp only;unfold j6 g8;obtain⟨c,t,e1,hc,hcm,hcase⟩:=FL (z/2^(7*i))
 have hqz:2^(7*i)*(z/2^(7*i)%128)+z%2^(7*i)≤z:=by
  have h1:=Nat.div_add_mod z (2^(7*i));have h2:2^(7*i)*(z/2^(7*i)%128)≤2^(7*i)*(z/2^(7*i)):=Nat.mul_le_mul_left _ (Nat.mod_le _ _);omega
 have hnext:z%2^(7*(i+1))=2^(7*i)*(z/2^(7*i)%128)+z%2^(7*i):=by
  rw[show 7*(i+1)=7*i+7 by omega,Nat.pow_add,Nat.mod_mul,show(2:Nat)^7=128 from rfl];omega
 have hdiv:z/2^(7*(i+1))=z/2^(7*i)/128:=by
  rw[show 7*(i+1)=7*i+7 by omega,Nat.pow_add,Nat.div_div_eq_div_mul]
 have hlt:z%2^(7*i)<2^(7*i):=Nat.mod_lt _ (Nat.pow_pos (by decide))
 have hor:bOr .u64 ((z%2^(7*i):Nat):Int) (dx .u64 (X6.wrap (cL .u8 (c:Int) 127)) ((7*i:Nat):Int))=((z%2^(7*(i+1)):Nat):Int):=by
  have h1:cL .u8 (c:Int) 127=((c%128:Nat):Int):=by
   have:=L8 ⟨c,hc⟩;simp only at this;rw[show(127:Int)=((127:Nat):Int) from rfl,LZ hc (by omega),this]
  rw[h1,hcm,bD,zm (by omega)]
  have h2:(((z/2^(7*i)%128:Nat):Int))%18446744073709551616=((z/2^(7*i)%128:Nat):Int):=by
   generalize z/2^(7*i)=q;omega
  have h3:(((z/2^(7*i)%128:Nat):Int))*2^(7*i)=((2^(7*i)*(z/2^(7*i)%128):Nat):Int):=by
   rw[Int.natCast_mul,Xt,Int.mul_comm];rfl
  rw[h2,h3]
  have h4:((2^(7*i)*(z/2^(7*i)%128):Nat):Int)%18446744073709551616=((2^(7*i)*(z/2^(7*i)%128):Nat):Int):=by
   generalize 2^(7*i)*(z/2^(7*i)%128)=u at*;omega
  rw[h4,IQ (by omega) (by omega),Nat.or_comm,←Xr hlt,hnext]
 rw[if_pos (decide_eq_true (by omega)),if_pos rfl,take_one,Z0,e1,Xc,uV];dsimp only;rw[dI,Z0,uf,Z0,hor];rcases hcase with⟨g1,g2,rfl⟩|⟨g1,g2,rfl⟩
 ·right
  rw[if_pos (decide_eq_true (by omega))]
  have:z%2^(7*(i+1))=z:=by
   apply Nat.mod_eq_of_lt;rw[show 7*(i+1)=7*i+7 by omega,Nat.pow_add,Nat.mul_comm];have:=(Nat.div_lt_iff_lt_mul (Nat.pow_pos (n:=7*i) (show 0<2 by decide))).1 g2;exact this
  rw[this];rfl
 ·left
  rw[if_neg (by simp;omega)];refine⟨_,rfl,⟨i+1,?_,?_⟩,?_⟩
  ·have h1:128*2^(7*i)≤z:=(Nat.le_div_iff_mul_le (Nat.pow_pos (by decide))).1 g2
   rcases Nat.lt_or_ge i 9 with h|h
   ·omega
   ·have:i=9:=by omega
    subst this;have:(128:Nat)*2^(7*9)=1180591620717411303424:=by decide
    omega
  ·rw [hdiv,am (by omega)]
   congr 2
  ·dsimp only;rw[am (by omega)];omega
theorem KH {a:Int}(ha:cW a):cx .i64 a (-1)= -a - 1∧cx .i64 a 0=a:=by
 unfold cx;rw[jq,jq]
 have hb:((Ze 64 a).toNat:Int)=a%18446744073709551616:=by
  rw[Zm];omega
 constructor
 ·show (((Ze 64 a^^^Ze 64 (-1)).toNat:Nat)+9223372036854775808:Int)%18446744073709551616 - 9223372036854775808=_
  have h2:Ze 64 (-1)=BitVec.allOnes 64:=by decide
  rw[h2,BitVec.xor_allOnes,BitVec.toNat_not];have:=(Ze 64 a).isLt;have e:(2:Nat)^64=18446744073709551616:=by decide
  unfold cW at ha;omega
 ·show (((Ze 64 a^^^Ze 64 0).toNat:Nat)+9223372036854775808:Int)%18446744073709551616 - 9223372036854775808=_
  have h2:Ze 64 0=0#64:=by decide
  rw[h2,BitVec.xor_zero];unfold cW at ha;omega
theorem Px {d:Int}(h:cW d):cx .i64 (Zb.wrap (ay .u64 (zig d:Int) 1)) (Zb.wrap (0 - (Zb.wrap (cL .u64 (zig d:Int) 1))))=d:=by
 have hz:=nC h;have h1:ay .u64 (zig d:Int) 1=((zig d/2:Nat):Int):=by have:=qf (x:=(zig d:Int)) (k:=1) (by omega);simpa using this
 have h2:cL .u64 (zig d:Int) 1=((zig d%2:Nat):Int):=by
  rw[show(1:Int)=((1:Nat):Int) from rfl,JJ hz (by omega),Nat.and_one_is_mod]
 rw[h1,h2,am (n:=((zig d/2:Nat):Int)) (by omega),am (n:=((zig d%2:Nat):Int)) (by omega)];have hr:cW ((zig d/2:Nat):Int):=by unfold cW;omega
 obtain⟨g1,g2⟩:=KH hr;unfold zig at*
 by_cases hd:d<0
 ·rw [if_pos hd] at*
  have:(0 - (((-2*d - 1).toNat%2:Nat):Int))= -1:=by omega
  rw[this,show Zb.wrap (-1)= -1 from by decide,g1];omega
 ·rw [if_neg hd] at*
  have:(0 - (((2*d).toNat%2:Nat):Int))=0:=by omega
  rw[this,show Zb.wrap 0=0 from by decide,g2];omega
theorem G6 {n m:Int}(h:cW m):Zb.wrap (n+Zb.wrap (m - n))=m:=by
 rw[jq,jq];unfold cW at h;omega
theorem KI {v:Ap}(h:Rgt v)(hk:v.fKind=2):v=iU v.fInt:=by
 cases h<;>first|rfl|(simp at hk)
theorem sX {l:List Ap}(h:jS l=true)(hr:∀v∈l,Rgt v):∀v∈l,v=iU v.fInt∧cW v.fInt:=λv hv=>by
 have:=List.all_eq_true.1 h v hv;exact⟨KI (hr v hv) (by simpa using this),(hr v hv).ok.int⟩
theorem D5 {b:List Int}{many:Nat}(hb:Byt b)(hl:b.length<140737488355328)(hm:1≤many∧many≤64):∃x,bS ⟨b,true⟩ 2 (many:Int)=some x∧kp 2 b many x:=by
 unfold bS;rw[if_neg (by decide),if_neg (by decide),if_pos (by decide),zA hb,Z0];unfold eE;rw[Z0,aH (by simp),Z0];generalize hx:(if ({ fB:=b,fOk:=true }:aj).fB.length<8 then ((0:Int),({ fB:=[],fOk:=false }:aj)) else (dA (({ fB:=b,fOk:=true }:aj).fB.take 8),⟨({ fB:=b,fOk:=true }:aj).fB.drop 8,true⟩))=x0
 have hx1:Byt x0.2.fB∧x0.2.fB.length<140737488355328:=by
  rw[←hx];dsimp only;split
  ·exact⟨.nil,by simp⟩
  ·exact⟨hb.drop _,by simp;omega⟩
 refine gH (I:=λs:List Ap×Int×aj=>Byt s.2.2.fB∧s.2.2.fB.length<140737488355328∧(∀v∈s.1,VOK v)∧s.1.length≤many∧∀l:List Ap,(∀v∈l,Rgt v)→l.length=many→jS l=true→b=nD (l.map (·.fInt))→∃k,s.1.length=k+1∧s.1=l.take (k+1)∧s.2.1=(l.map (·.fInt)).getD k 0∧s.2.2=⟨((Zw (many - 1)).drop k).flatMap (jR (l.map (·.fInt))),true⟩) (μ:=λs=>many - s.1.length) (Q:=kp 2 b many) ?_ ⟨hx1.1,hx1.2,λv hv=>?_,by simp;omega,λl hr hlen hi he=>?_⟩
 ·rintro ⟨acc,n,r⟩ ⟨h1,h2,h3,h4,h5⟩
  dsimp only at*
  have hend:acc.length=many∨r.fOk=false→kp 2 b many (acc,r):=λh=>⟨h3,by dsimp only;omega,λl hr hlen he=>by
   obtain⟨_,_,_,hi,he⟩:=fw he
   have he':b=nD (l.map (·.fInt)):=by
    rcases he with⟨e,_⟩|⟨_,e⟩
    ·subst e;simp at hlen;omega
    ·exact e
   obtain⟨k,g1,g2,g3,g4⟩:=h5 l hr hlen (hi (.inl rfl)) he';subst g4;rcases h with h|h
   ·rw[←g1,h,←hlen,Z4] at g2;exact⟨g2,rfl⟩
   ·cases h⟩
  unfold nt j9 cg
  by_cases hlt:acc.length<many
  ·rw [if_pos (decide_eq_true (by omega))]
   cases hok:r.fOk with
   |false=>right;exact⟨_,rfl,hend (.inr hok)⟩
   | true =>
    left;rw[if_pos rfl];obtain⟨⟨z,r'⟩,e1,e2,e3⟩:=G4 h1;rw[e1,Z0];unfold eE;rw[Z0,aH (by simp;omega),Z0];dsimp only at e2 e3 ⊢;refine⟨_,rfl,⟨e2,by dsimp only;omega,λx hx=>?_,by simp;omega,λl hr hlen hi he=>?_⟩,by simp;omega⟩
    ·rcases Zd.1 hx with hx|hx
     ·exact h3 x hx
     ·have:x=iU (Zb.wrap (n+(cx .i64 (Zb.wrap (ay .u64 z 1)) (Zb.wrap (0 - (Zb.wrap (cL .u64 z 1))))))):=by simpa using hx
      subst this;exact(Rgt.int _ (lB _)).ok
    ·obtain ⟨k,g1,g2,g3,g4⟩:=h5 l hr hlen hi he
     have hk:k+1<l.length:=by omega
     have hin:=sX hi hr;have hns:∀i (h:i<l.length),(l.map (·.fInt)).getD i 0=l[i].fInt:=λi h=>by rw[AC (by simpa using h)];simp
     have hd:(Zw (many - 1)).drop k=k::(Zw (many - 1)).drop (k+1):=by
      rw[Zh (by simp;omega)];simp
     rw[hd,Zx] at g4
     have hds:jR (l.map (·.fInt)) k=fp (zig (Zb.wrap (l[k+1].fInt - l[k].fInt))):=by
      unfold jR;rw[hns _ hk,hns _ (by omega)]
     rw[hds] at g4;rw[g4,G5 (nC (lB _))] at e1;obtain⟨rfl,rfl⟩:=Prod.mk.inj (Option.some.inj e1);rw[Px (lB _),g3,hns _ (by omega),G6 (hin _ (Z2 hk)).2];refine⟨k+1,by simp;omega,?_,(hns _ hk).symm,rfl⟩;dsimp only;rw[Z1 hk,g2];congr 2;exact(hin _ (Z2 hk)).1.symm
  ·right
   rw[if_neg (by simp;omega),if_neg (by decide)];exact⟨_,rfl,hend (.inl (by omega))⟩
 ·have:v=iU (Zb.wrap x0.1):=by simpa using hv
  subst this;exact(Rgt.int _ (lB _)).ok
 ·have h0:0<l.length:=by omega
  have hin:=sX hi hr;have hns:∀i (h:i<l.length),(l.map (·.fInt)).getD i 0=l[i].fInt:=λi h=>by rw[AC (by simpa using h)];simp
  have h64:=(hin _ (Z2 h0)).2
  have hb8:b=be8 (l[0].fInt%18446744073709551616)++(Zw (many - 1)).flatMap (jR (l.map (·.fInt))):=by
   rw[he];unfold nD;rw[hns 0 h0,Zp,hlen]
  have hlen8: ¬ b.length<8:=by rw[hb8];simp[b9]
  dsimp only at hx;rw[if_neg hlen8] at hx;have h1:b.take 8=be8 (l[0].fInt%18446744073709551616):=by rw[hb8];exact Xj (b9 _)
  have h2:b.drop 8=(Zw (many - 1)).flatMap (jR (l.map (·.fInt))):=by rw[hb8];exact List.drop_left' (b9 _)
  rw[h1,h2,yw (by omega) (by omega)] at hx;subst hx;refine⟨0,rfl,?_,?_,rfl⟩
  ·dsimp only
   rw[Z1 h0,yx h64];simp only[List.take_zero,Zz];congr 1;exact(hin _ (Z2 h0)).1.symm
  ·dsimp only;rw[hns 0 h0,yx h64]
theorem Bv (r:aj)(many w:Nat):(rW r many w).1.length=many∧(∀x∈(rW r many w).1,∃n:Nat,x=(n:Int)∧n<18446744073709551616):=by
  unfold rW;split
  ·exact⟨by simp,λx hx=>⟨0,(Y3.1 hx).2,by decide⟩⟩
  split
  ·exact⟨by simp,λx hx=>⟨0,(Y3.1 hx).2,by decide⟩⟩
  · rename_i h _
    refine⟨by simp,λx hx=>?_⟩;obtain⟨i,_,rfl⟩:=X3.1 hx;refine⟨_,rfl,?_⟩;have h1:=mG (λk=>eC r.fB (i*w+k)) w;have h2:(2:Nat)^w≤2^64:=Xo (by decide) (by omega);have h3:(2:Nat)^64=18446744073709551616:=by decide
    unfold unp;omega
theorem xS {pl:List Int}{w:Nat}(hw:w≤64)(h:∀x∈pl,0≤x∧x<2^w):rW ⟨cN pl w,true⟩ pl.length w=(pl,⟨[],true⟩):=by
  have hl:(cN pl w).length=(pl.length*w+7)/8:=fR _ _ _;unfold rW;rw[if_neg (by omega),if_neg (by dsimp only;omega)];dsimp only;congr 1
  · apply List.ext_getElem
    ·simp
    · intro i h1 h2
      have:=FD pl w i [] h2 (h _ (Z2 h2));rw[Xk] at this;simp[this]
  ·rw[←hl,List.drop_length]
theorem FM {b : List Int} {many : Nat} (hb : Byt b) (hl : b.length < 140737488355328) (hm : 1 ≤ many ∧ many ≤ 64) :∃ x, bS ⟨b, true⟩ 3 (many : Int) = some x ∧ kp 3 b many x := by
  unfold bS;rw[if_neg (by decide),if_neg (by decide),if_neg (by decide),if_pos (by decide),take_one,Z0];obtain⟨c,r1,e1,hc,hr1,hr2,hr3⟩:=xu ⟨b,true⟩ hb;rw[e1];dsimp only at*;rw[dI,Z0];obtain⟨cn,rfl⟩:=Zc hc.1
  refine gH (I:=λs:List Ap×Int×aj=>Byt s.2.2.fB∧s.2.2.fB.length<140737488355328∧(∀v∈s.1,Rgt v)∧s.1.length≤cn∧s.2.1=(s.1.length:Int)∧∀l:List Ap,(∀v∈l,Rgt v)→l.length=many→b=n8 l→s.1=(aO l).take s.1.length∧cn=(aO l).length∧s.2.2=⟨((aO l).drop s.1.length).flatMap bq++cN (l.map λv=>(fq (aO l) v:Int)) (wid ((aO l).length - 1)),true⟩) (μ:=λs=>cn - s.1.length) (Q:=kp 3 b many) ?_ ⟨hr1,by dsimp only;omega,by simp,by simp,rfl,λl hr hlen he=>?_⟩
  · rintro ⟨W, wn, r⟩ ⟨h1, h2, h3, h4, hwn, h5⟩
    dsimp only at*;subst hwn;unfold nw
    by_cases hlt:W.length<cn
    · left
      rw[if_pos (decide_eq_true (by omega))];obtain⟨v,r',f1,f2,f3,f4,f5⟩:=wF h1 h2;rw[f1,Z0,aH (by simp;omega),Z0];refine⟨_,rfl,⟨f3,by dsimp only;omega,λx hx=>?_,by simp;omega,?_,λl hr hlen he=>?_⟩,by simp;omega⟩
      · rcases Zd.1 hx with hx | hx
        ·exact h3 x hx
        · have : x = v := by simpa using hx
          subst this;exact f2
      ·dsimp only;rw[bj];simp;omega
      · obtain ⟨g1, g2, g3⟩ := h5 l hr hlen he
        have hk:W.length<(aO l).length:=by omega
        obtain⟨w1,w2,w3⟩:=fo hr;rw[Zh hk,Zx,Zj] at g3;subst g3;have hv:=wE (hr _ ((w2 _).1 (Z2 hk))) (ok:=true) rfl h1 h2;rw[hv] at f1;obtain⟨rfl,rfl⟩:=Prod.mk.inj (Option.some.inj f1);refine⟨?_,g2,by simp⟩;simp only[Z3,Z6];rw[Z1 hk,←g1]
    · right
      rw[if_neg (by simp;omega)];unfold nv
      have hmx:X6.wrap (Zb.wrap ((if (W.length:Int)<1 then 1 else (W.length:Int)) - 1))=((W.length - 1:Nat):Int):=by
        rw[am (by split<;>omega),bD];split<;>omega
      have hwid:wid (W.length - 1)≤64:=o9 (Zt (show W.length - 1<256 by omega) (by decide));rw[hmx,len_eq (by omega),Z0,xR h1 (by omega),Z0];obtain⟨u1,u2⟩:=Bv r many (wid (W.length - 1))
      have hex:∀l:List Ap,(∀v∈l,Rgt v)→l.length=many→b=n8 l→W=aO l∧rW r many (wid (W.length - 1))=(l.map (λv=>(fq (aO l) v:Int)),⟨[],true⟩):=λl hr hlen he=>by
        obtain⟨g1,g2,g3⟩:=h5 l hr hlen he;obtain⟨w1,w2,w3⟩:=fo hr;have e2:W.length=(aO l).length:=by omega
        rw[e2,Z4] at g1;refine⟨g1,?_⟩;rw[e2,List.drop_length] at g3;simp only[List.flatMap_nil,Zz] at g3;rw[g3,e2,←hlen]
        have:=xS (pl:=l.map λv=>(fq (aO l) v:Int)) (w:=wid ((aO l).length - 1)) (by rw[←e2];exact hwid) (λx hx=>by
          obtain⟨v,hv,rfl⟩:=X3.1 hx;have hp:=od ((w2 v).2 hv);have hw2:=C6 ((aO l).length - 1);refine⟨by omega,?_⟩;have:((fq (aO l) v:Nat):Int)<((2^wid ((aO l).length - 1):Nat):Int):=Int.ofNat_lt.2 (by omega)
          rwa[Xt] at this)
        rw[Zp] at this;exact this
      generalize rW r many (wid (W.length - 1))=U at*;obtain⟨pl,r2⟩:=U;dsimp only at*
      have hin:∃x,au (λs:(List Ap×Int)=>ke W (pl,r2) s.1 s.2) ([],0)=some x∧kp 3 b many x:=by
        refine gH (I:=λs:List Ap×Int=>(∀v∈s.1,Rgt v)∧s.1.length≤many∧s.2=(s.1.length:Int)∧∀l:List Ap,(∀v∈l,Rgt v)→l.length=many→b=n8 l→s.1=l.take s.1.length) (μ:=λs=>many - s.1.length) (Q:=kp 3 b many) ?_ ⟨by simp,by simp,rfl,λl _ _ _=>by simp⟩;rintro ⟨acc,an⟩ ⟨k1,k2,han,k3⟩;dsimp only at*;subst han;unfold ke cg;dsimp only
        by_cases hlt2:acc.length<many
        · have hi : acc.length < pl.length := by omega
          obtain⟨n,hn1,hn2⟩:=u2 _ (Z2 hi);have e3:X6.wrap (W.length:Int)=(W.length:Int):=by rw[bD];omega
          rw[if_pos (decide_eq_true (by omega)),az hi,Z0,e3,hn1]
          by_cases hge:W.length≤n
          · right
            rw[if_pos (decide_eq_true (by omega))];refine⟨_,rfl,by simp,by simp,λl hr hlen he=>?_⟩;exfalso;obtain⟨_,_,_,_,he⟩:=fw he
            have he':b=n8 l:=by
              rcases he with⟨e,_⟩|⟨_,e⟩
              ·subst e;simp at hlen;omega
              ·exact e
            obtain⟨g1,g2⟩:=hex l hr hlen he';obtain⟨rfl,_⟩:=Prod.mk.inj g2;have hp:=od (((fo hr).2.1 _).2 (Z2 (show acc.length<l.length by omega)));simp only[List.getElem_map] at hn1;rw[g1] at hge;omega
          · left
            rw[if_neg (by simp;omega),az (by omega),Z0,aH (by simp;omega),Z0];refine⟨_,rfl,⟨λx hx=>?_,by simp;omega,?_,λl hr hlen he=>?_⟩,by simp;omega⟩
            · rcases Zd.1 hx with hx | hx
              ·exact k1 x hx
              · have : x = W[n] := by simpa using hx
                subst this;exact h3 _ (Z2 _)
            ·dsimp only;rw[aT (by omega)];simp
            · have q := k3 l hr hlen he
              obtain⟨g1,g2⟩:=hex l hr hlen he;obtain⟨rfl,_⟩:=Prod.mk.inj g2;have hk:acc.length<l.length:=by omega
              have hmem:=((fo hr).2.1 _).2 (Z2 hk);simp only[List.getElem_map] at hn1;have hnp:n=fq (aO l) l[acc.length]:=by omega
              subst g1;subst hnp;dsimp only;simp only[Z3,Z6];rw[Z1 hk,←q,yC hmem]
        · right
          rw[if_neg (by simp;omega)];refine⟨_,rfl,λv hv=>(k1 v hv).ok,by dsimp only;omega,λl hr hlen he=>?_⟩;obtain⟨_,_,_,_,he⟩:=fw he
          have he':b=n8 l:=by
            rcases he with⟨e,_⟩|⟨_,e⟩
            ·subst e;simp at hlen;omega
            ·exact e
          have q:=k3 l hr hlen he';obtain⟨g1,g2⟩:=hex l hr hlen he';obtain⟨_,rfl⟩:=Prod.mk.inj g2;have:acc.length=l.length:=by omega
          rw[this,Z4] at q;exact⟨q,rfl⟩
      obtain⟨x,hx1,hx2⟩:=hin;rw[hx1];exact⟨x,rfl,hx2⟩
  · obtain ⟨w1, w2, w3⟩ := fo hr
    have hcons:b=(((aO l).length:Nat):Int)::((aO l).flatMap bq++cN (l.map λv=>(fq (aO l) v:Int)) (wid ((aO l).length - 1))):=he;subst hcons;rw[uV] at e1;obtain⟨e2,e3⟩:=Prod.mk.inj e1;refine⟨by simp,?_,?_⟩
    ·have:=(List.cons.inj e2).1;omega
    ·rw[←e3];rfl
theorem FN {b : List Int} {many : Nat} {kind : Int} (hk : kind ≠ 0 ∧ kind ≠ 1 ∧ kind ≠ 2 ∧ kind ≠ 3) (hb : Byt b) (hm : 1 ≤ many ∧ many ≤ 64) :∃ x, bS ⟨b, true⟩ kind (many : Int) = some x ∧ kp kind b many x := by
  unfold bS;rw[if_neg (by simpa using hk.1),if_neg (by simpa using hk.2.1),if_neg (by simpa using hk.2.2.1),if_neg (by simpa using hk.2.2.2),zA hb,Z0];dsimp only;generalize hx:(if b.length<8 then ((0:Int),({ fB:=[],fOk:=false }:aj)) else (dA (b.take 8),⟨b.drop 8,true⟩))=x0
  have hx1:Byt x0.2.fB:=by
    rw[←hx];split
    ·exact .nil
    ·exact hb.drop _
  rw[take_one,Z0];obtain⟨c,r1,e1,hc,hr1,hr2,hr3⟩:=xu x0.2 hx1;rw[e1];dsimp only;obtain⟨cn,rfl⟩:=Zc hc.1;rw[dI,Z0,am (by omega),xR hr1 (by omega),Z0];obtain⟨u1,u2⟩:=Bv r1 many cn
  have hex:∀l:List Ap,(∀v∈l,Rgt v)→l.length=many→jS l=true→b=nE (l.map (·.fInt))→x0.1=kf (l.map (·.fInt))%18446744073709551616∧rW r1 many cn=(bO (l.map (·.fInt)),⟨[],true⟩):=λl hr hlen hi he=>by
    have hin:=sX hi hr;have h':∀x∈l.map (·.fInt),cW x:=λx hx=>by obtain⟨v,hv,rfl⟩:=X3.1 hx;exact(hin v hv).2
    have hu:=oD h';obtain⟨hw,hw2⟩:=lO hu
    have he2:b=be8 (kf (l.map (·.fInt))%18446744073709551616)++((dN (bO (l.map (·.fInt))):Nat):Int)::cN (bO (l.map (·.fInt))) (dN (bO (l.map (·.fInt)))):=by
      rw[he];unfold nE;simp
    have h8: ¬ b.length<8:=by rw[he2];simp[b9]
    rw[if_neg h8] at hx;have h1:b.take 8=be8 (kf (l.map (·.fInt))%18446744073709551616):=by rw[he2];exact Xj (b9 _)
    have h2:b.drop 8=((dN (bO (l.map (·.fInt))):Nat):Int)::cN (bO (l.map (·.fInt))) (dN (bO (l.map (·.fInt)))):=by rw[he2];exact List.drop_left' (b9 _)
    rw[h1,h2,yw (by omega) (by omega)] at hx;subst hx;dsimp only at e1;rw[uV] at e1;obtain⟨e3,e4⟩:=Prod.mk.inj e1;have e5:cn=dN (bO (l.map (·.fInt))):=by have:=(List.cons.inj e3).1;omega
    subst e4;refine⟨rfl,?_⟩
    have:=xS (pl:=bO (l.map (·.fInt))) (w:=dN (bO (l.map (·.fInt)))) hw (λx hx=>by
      have h3:=hu x hx;have h4:=C6 x.toNat;have h5:=hw2 x hx;have h6:(2:Nat)^wid x.toNat≤2^dN (bO (l.map (·.fInt))):=Xo (by decide) h5;refine⟨h3.1,?_⟩;have:((x.toNat:Nat):Int)<((2^dN (bO (l.map (·.fInt))):Nat):Int):=Int.ofNat_lt.2 (by omega);rw[Xt] at this;have e:((x.toNat:Nat):Int)=x:=by omega
      rw[e] at this
      exact this)
    have hal:(bO (l.map (·.fInt))).length=many:=by simp[bO,hlen]
    rw[hal] at this;rw[e5];exact this
  generalize rW r1 many cn=U at*;obtain⟨pl,r2⟩:=U;obtain⟨n0,rn⟩:=x0;dsimp only at*;refine gH (I:=λs:List Ap×Int=>(∀v∈s.1,Rgt v)∧s.1.length≤many∧s.2=(s.1.length:Int)∧∀l:List Ap,(∀v∈l,Rgt v)→l.length=many→jS l=true→b=nE (l.map (·.fInt))→s.1=l.take s.1.length) (μ:=λs=>many - s.1.length) (Q:=kp kind b many) ?_ ⟨by simp,by simp,rfl,λl _ _ _ _=>by simp⟩;rintro ⟨acc,an⟩ ⟨k1,k2,han,k3⟩;dsimp only at*;subst han;unfold ny cg;dsimp only
  by_cases hlt2:acc.length<many
  · have hi : acc.length < pl.length := by omega
    left;unfold eE;rw[if_pos (decide_eq_true (by omega)),az hi,Z0,Z0,aH (by simp;omega),Z0];refine⟨_,rfl,⟨λx hx=>?_,by simp;omega,?_,λl hr hlen hi2 he=>?_⟩,by simp;omega⟩
    · rcases Zd.1 hx with hx | hx
      ·exact k1 x hx
      · have : x = iU (Zb.wrap (X6.wrap (n0 + pl[acc.length]))) := by simpa using hx
        subst this;exact .int _ (lB _)
    ·dsimp only;rw[aT (by omega)];simp
    · have q := k3 l hr hlen hi2 he
      obtain⟨g1,g2⟩:=hex l hr hlen hi2 he;obtain⟨rfl,_⟩:=Prod.mk.inj g2;have hin:=sX hi2 hr;have hk:acc.length<l.length:=by omega
      have h1:=hin _ (Z2 hk);dsimp only;simp only[Z3,Z6];rw[Z1 hk,←q];congr 1
      have e9:Zb.wrap (X6.wrap (n0+(bO (l.map (·.fInt)))[acc.length]))=l[acc.length].fInt:=by
        have:(bO (l.map (·.fInt)))[acc.length]=l[acc.length].fInt - kf (l.map (·.fInt)):=by simp[bO]
        rw[this,g1,bD,jq];have:=h1.2;unfold cW at this;omega
      rw[e9];congr 1;exact h1.1.symm
  · right
    rw[if_neg (by simp;omega)];refine⟨_,rfl,λv hv=>(k1 v hv).ok,by dsimp only;omega,λl hr hlen he=>?_⟩;obtain⟨hk5,_,_,hi2,he⟩:=fw he;have hk4:kind=4:=by omega
    subst hk4
    have he':b=nE (l.map (·.fInt)):=by
      rcases he with⟨e,_⟩|⟨_,e⟩
      ·subst e;simp at hlen;omega
      ·exact e
    have q:=k3 l hr hlen (hi2 (.inr rfl)) he';obtain⟨g1,g2⟩:=hex l hr hlen (hi2 (.inr rfl)) he';obtain⟨_,rfl⟩:=Prod.mk.inj g2;have:acc.length=l.length:=by omega
    rw[this,Z4] at q;exact⟨q,rfl⟩
theorem Bw {b:List Int}{many:Nat}(kind:Int)(hb:Byt b)(hl:b.length<140737488355328)(hm:1≤many∧many≤64):∃x,bS ⟨b,true⟩ kind (many:Int)=some x∧kp kind b many x:=by
  by_cases h0:kind=0
  ·subst h0;exact D4 hb hl hm
  by_cases h1:kind=1
  ·subst h1;exact FK hb hl hm
  by_cases h2:kind=2
  ·subst h2;exact D5 hb hl hm
  by_cases h3:kind=3
  ·subst h3;exact FM hb hl hm
  ·exact FN ⟨h0,h1,h2,h3⟩ hb hm
open Option renaming bind_some→Z0,getD_some→Xe,bind_assoc→Y0
open List renaming take_succ_eq_append_getElem→Z1,getElem_mem→Z2,length_append→Z3,take_length→Z4,getElem?_eq_getElem→Z5,length_singleton→Z6,length_cons→Z7,replicate→Z9,eq_nil_of_length_eq_zero→Za,mem_append→Zd,mem_of_mem_take→Zf,take_append_drop→Zg,drop_eq_getElem_cons→Zh,length_pos_iff→Zi,append_assoc→Zj,pairwise_cons→Zk,length_take→Zl,pairwise_append→Zo,length_map→Zp,mem_cons→Zq,getD_eq_getElem?_getD→Zu,range→Zw,flatMap_cons→Zx,foldl_cons→Zy,nil_append→Zz,mem_map→X3,mem_singleton→X5,mem_of_getLast?→X7,pairwise_iff_getElem→X8,getElem?_eq_some_iff→X9,flatMap_append→Xa,cons_append→Xc,drop_zero→Xf,drop_left→Xg,getElem?_drop→Xh,take_of_length_le→Xi,take_left'→Xj,append_nil→Xk,foldl_append→Xl,length_range→Xm,length_replicate→Xn,dropLast_concat_getLast→Xq,getElem?_append_right→Xv,getLast?_eq_none_iff→Xx,getLast?_eq_getElem?→Xy,map_append→Xz,getElem?_append_left→Y1,mem_replicate→Y3,eq_of_mem_replicate→Y5,drop_drop→Y7,flatMap_singleton→Y9,map_cons→Yc,singleton_append→Yd,getElem?_eq_none→Ye,range_succ→Yg,map_nil→Yh
open Nat renaming le_refl→Zn,lt_of_lt_of_le→Zt,mul_le_mul→Zv,strongRecOn→Xb,testBit_xor→Xd,pow_le_pow_right→Xo,eq_of_testBit_eq→Xp,two_pow_add_eq_or_of_lt→Xr,mod_two_eq_zero_or_one→Xu,testBit_succ→Y8,xor_comm→Yj
open Bool renaming false_eq_true→Z8,not_true→Xw,not_false→Y6,not_eq_true→Ya,true_and→Yb
open Int renaming eq_ofNat_of_zero_le→Zc,tmod_eq_emod_of_nonneg→Zr,tdiv_eq_ediv_of_nonneg→Zs,fdiv_eq_ediv_of_nonneg→X4,natCast_pow→Xt,toNat_natCast→Y2,emod_eq_of_lt→Y4,le_of_lt→Yi
open BitVec renaming ofInt→Ze,toNat_ofInt→Zm
open Prod renaming ext→Yk
open IntKind renaming i64→Zb,u64→X6,u32→Xs,u8→Yf
open Classical in
noncomputable def dec (kind:Int) (b:List Int) (many:Int):List Ap×Int:=
 if kind<0∨4<kind then ([],62) else if many<0∨64<many then ([],61) else
 if h:∃l:List Ap,(∀v∈l,Rgt v)∧(l.length:Int)=many∧enc kind l=(b,0) then (h.choose,0) else ([],60)
theorem Dh {a b:List Int}(ha:a.length≤4611686018427387903):gA a b=some (decide (a=b)):=by
 unfold gA
 by_cases h:a.length=b.length
 ·rw [if_neg (by simp; omega)]
  have:=uR (f:=λs:Int=>gp a b s) (a.zip b) (λp=>p.1==p.2) false true (λi hi hp=>?_) (λi hi hp=>?_) ?_
  ·rw [this]
   have e:(a.zip b).all (λp=>p.1==p.2)=decide (a=b):=by
    clear this ha
    induction a generalizing b with
    |nil=>cases b with
     |nil=>rfl
     |cons _ _=>simp at h
    | cons x a ih => cases b with
     |nil=>simp at h
     |cons y b=>
      rw[List.zip_cons_cons,List.all_cons,ih (by simpa using h)]
      by_cases e:x=y
      ·simp[e]
      ·simp[e]
   rw[e];cases decide (a=b)<;>rfl
  ·simp only [List.length_zip] at hi
   simp only[List.getElem_zip,beq_iff_eq] at hp;unfold gp;rw[if_pos (decide_eq_true (by omega)),az (by omega),Z0,az (by omega),Z0,if_neg (by simpa using hp),aT (by omega)]
  ·simp only [List.length_zip] at hi
   simp only[List.getElem_zip,beq_eq_false_iff_ne] at hp;unfold gp;rw[if_pos (decide_eq_true (by omega)),az (by omega),Z0,az (by omega),Z0,if_pos (by simpa using hp)];rfl
  ·unfold gp oX
   rw[if_neg (by simp;omega)];rfl
 ·rw [if_pos (by simp;omega)]
  have:a≠b:=λe=>h (by rw[e]);simp[this]
theorem BO {kind:Int}{l:List Ap}:(enc kind l).2=0→l.all right=true∧l.length≤64:=λh=>by
 have:enc kind l=((enc kind l).1,0):=Yk rfl h;obtain⟨_,h1,h2,_⟩:=fw this;exact⟨h2,h1⟩
theorem ra (l:List Int)(w:Nat):(cN l w).length=(l.length*w+7)/8:=fR _ _ _
theorem I3 {kind:Int}{l:List Ap}(h:∀v∈l,Rgt v)(hl:l.length≤64):(qJ kind l).length≤100000:=by
 obtain⟨w1,w2,w3⟩:=fo h;unfold qJ;split
 ·obtain ⟨h1,h2,_⟩:=oC (l:=l)
  have:=oB (bU l) (λr=>r.fMany::bq r.fValue) 67 λx hx=>by
   have:=(ej (h _ (h1 x hx).2.2)).2;simp;omega
  unfold xt;omega
 split
 ·have:=oB (Zw ((l.map (·.fInt)).length - 1)) (jR (l.map (·.fInt))) 10 fun x _=>lN (nC (lB _))
  unfold nD;simp only[Z3,b9,Xm,Zp] at*;omega
 split
 ·have h1:=jp (l:=aO l) fun v hv=>h v ((w2 v).1 hv)
  have hwid:wid ((aO l).length - 1)≤64:=o9 (Zt (show(aO l).length - 1<64 by omega) (by decide));have:=Zv hl hwid;unfold n8;simp only[Z7,Z3,ra,Zp];omega
 split
 ·by_cases hi: ∀x∈l.map (·.fInt),cW x
  ·have hu:=oD hi
   have:=Zv hl (lO hu).1;have hal:(bO (l.map (·.fInt))).length=l.length:=by simp[bO]
   unfold nE;simp only[Z3,b9,Z6,ra,hal];omega
  ·exfalso
   apply hi;intro x hx;obtain⟨v,hv,rfl⟩:=X3.1 hx;exact(h v hv).ok.int
 ·have:=jp h
  unfold pa;omega
theorem EJ (kind:Int){l:List Ap}(h:∀v∈l,VOK v):(enc kind l).1.length≤100000:=by
 unfold enc
 repeat' split
 all_goals first|exact Nat.zero_le _|skip
 rename_i h2 h3 _ _;exact I3 (rt h (by simpa using h3)) (by omega)
theorem G7 {kind:Int} {b:List Int} {many:Nat} {g:List Ap} {ok:Bool} (hk:0≤kind∧kind≤4) (hm:many≤64) (hg: ∀v∈g,VOK v) (hx: ∀l:List Ap,(∀v∈l,Rgt v)→l.length=many→enc kind l=(b,0)→g=l∧ok=true):
  (if (!ok)=true∨(enc kind g).2≠0∨g.length≠many∨(enc kind g).1≠b then ([],60) else (g,0))=dec kind b (many:Int):=by
 unfold dec;rw[if_neg (show ¬ (kind<0∨4<kind) by omega),if_neg (show ¬ ((many:Int)<0∨64<(many:Int)) by omega)]
 by_cases h:∃l:List Ap,(∀v∈l,Rgt v)∧(l.length:Int)=(many:Int)∧enc kind l=(b,0)
 ·rw [dif_pos h]
  obtain⟨c1,c2,c3⟩:=h.choose_spec;obtain⟨e1,e2⟩:=hx _ c1 (by omega) c3;rw[←e1] at c2 c3;rw[if_neg,e1];rintro (h1|h1|h1|h1)
  ·rw[e2] at h1;cases h1
  ·rw[c3] at h1;exact h1 rfl
  ·omega
  ·rw[c3] at h1;exact h1 rfl
 ·rw [dif_neg h,if_pos]
  apply Classical.byContradiction;intro hn;apply h;have n2:(enc kind g).2=0:=Classical.byContradiction λh=>hn (.inr (.inl h));have n3:g.length=many:=Classical.byContradiction λh=>hn (.inr (.inr (.inl h)));have n4:(enc kind g).1=b:=Classical.byContradiction λh=>hn (.inr (.inr (.inr h)));exact⟨g,rt hg (BO n2).1,by omega,Yk n4 n2⟩
theorem wH {kind many:Int}{b:List Int}(h:kind<0∨4<kind):dec kind b many=([],62):=by unfold dec;rw[if_pos h]
theorem wI {kind many:Int}{b:List Int}(hk: ¬ (kind<0∨4<kind))(h:many<0∨64<many):dec kind b many=([],61):=by unfold dec;rw[if_neg hk,if_pos h]
theorem G8 {b:List Int}(kind many:Int)(hb:Byt b)(hl:b.length≤1048576):lw kind b many=some (dec kind b many):=by
 have jt1:kZ kind b many true=some ([],62):=rfl;have jt2:kY kind b many true=some ([],61):=rfl;unfold lw
 by_cases h0:kind<0
 ·rw[if_pos (by simpa using h0),jt1,wH (.inl h0)]
 by_cases h4:4<kind
 ·rw[if_neg (by simpa using h0),decide_eq_true h4,jt1,wH (.inr h4)]
 have hk: ¬ (kind<0∨4<kind):=by omega
 rw[if_neg (by simpa using h0),decide_eq_false h4];unfold kZ;rw[if_neg (by decide)]
 by_cases m0:many<0
 ·rw[if_pos (by simpa using m0),jt2,wI hk (.inl m0)]
 by_cases m64:64<many
 ·rw[if_neg (by simpa using m0),decide_eq_true m64,jt2,wI hk (.inr m64)]
 rw[if_neg (by simpa using m0),decide_eq_false m64];unfold kY;rw[if_neg (by decide)];obtain⟨n,rfl⟩:=Zc (show 0≤many by omega);have j4:∀g x,jm g x=some (if x=true then ([],60) else (g,0)):=λg x=>by cases x<;>rfl
 have key:∀(g:List Ap) (r:aj),(∀v∈g,VOK v)→g.length≤1048576→kX kind b (n:Int) g r=some (if (!r.fOk)=true∨(enc kind g).2≠0∨g.length≠n∨(enc kind g).1≠b then ([],60) else (g,0)):=by
  intro g r hg hgl;unfold kX;rw[sW kind hg hgl,Z0]
  by_cases e1:(!r.fOk)=true
  ·rw[if_pos e1,j4,if_pos rfl,if_pos (.inl e1)]
  by_cases e2:(enc kind g).2=0
  ·by_cases e3:g.length=n
   ·rw [if_neg e1,if_neg (by simpa using e2),if_neg (by simpa using by omega),Dh (by have:=EJ kind hg;omega),Z0,j4]
    by_cases e4:(enc kind g).1=b
    ·rw [if_neg (by simpa using e4),if_neg]
     rintro (h|h|h|h)
     ·exact e1 h
     ·exact h e2
     ·exact h e3
     ·exact h e4
    ·rw[if_pos (by simpa using e4),if_pos (.inr (.inr (.inr e4)))]
   ·rw[if_neg e1,if_neg (by simpa using e2),if_pos (by simp;omega),j4,if_pos rfl,if_pos (.inr (.inr (.inl e3)))]
  ·rw[if_neg e1,if_pos (by simpa using e2),j4,if_pos rfl,if_pos (.inr (.inl e2))]
 by_cases n0:n=0
 ·subst n0
  rw[if_neg (by decide),key _ _ (by simp) (by simp),G7 (by omega) (by omega) (by simp) λl _ h2 _=>⟨(Za h2).symm,rfl⟩]
 ·obtain ⟨x,hx1,hx2,hx3,hx4⟩:=Bw (b:=b) (many:=n) kind hb (by omega) (by omega)
  rw[if_pos (by simp;omega),hx1,Z0,key _ _ hx2 hx3,G7 (by omega) (by omega) hx2 hx4]
theorem I4 {kind:Int}{l:List Ap}(h:∀v∈l,Rgt v)(hl:l.length≤64):Byt (qJ kind l):=by
 obtain⟨w1,w2,w3⟩:=fo h
 have fl:∀{α:Type} (xs:List α) (f:α→List Int),(∀x∈xs,Byt (f x))→Byt (xs.flatMap f):=λxs f hf c hc=>by
  obtain⟨x,hx,hc⟩:=List.mem_flatMap.1 hc;exact hf x hx c hc
 unfold qJ;split
 ·obtain ⟨h1,h2,_⟩:=oC (l:=l)
  exact fl _ _ λx hx=> .cons (by have:=h1 x hx;omega) (rU (h _ (h1 x hx).2.2))
 split
 ·exact Byt.app (wz _) (fl _ _ λx _=>G1 _)
 split
 ·exact .cons (by omega) (.app (fl _ _ λv hv=>rU (h v ((w2 v).1 hv))) (zn _ _))
 split
 ·have hi:∀x∈l.map (·.fInt),cW x:=λx hx=>by
   obtain⟨v,hv,rfl⟩:=X3.1 hx;exact(h v hv).ok.int
  have:=(lO (oD hi)).1;exact .app (.app (wz _) (.cons (by omega) .nil)) (zn _ _)
 ·exact fl _ _ λv hv=>rU (h v hv)
theorem xv (kind:Int){l:List Ap}(h:∀v∈l,VOK v):Byt (enc kind l).1:=by
 unfold enc
 repeat' split
 all_goals first|exact .nil|skip
 rename_i h2 h3 _ _;exact I4 (rt h (by simpa using h3)) (by omega)
theorem ug {kind:Int}{l:List Ap}{b:List Int}(h:∀v∈l,VOK v)(he:enc kind l=(b,0)):∀v∈l,Rgt v:=rt h (fw he).2.2.1
theorem KJ {kind:Int}{l l':List Ap}{b:List Int}(h:∀v∈l,Rgt v)(h':∀v∈l',Rgt v)(hl:l'.length=l.length)(he:enc kind l=(b,0))(he':enc kind l'=(b,0)):l'=l:=by
 by_cases h0:l.length=0
 ·rw[Za h0,Za (hl.trans h0)]
 have hb:Byt b:=by have:=xv kind λv hv=>(h v hv).ok;rw[he] at this;exact this
 have hbl:b.length≤100000:=by have:=EJ kind λv hv=>(h v hv).ok;rw[he] at this;exact this
 obtain⟨x,_,_,_,hx⟩:=Bw (b:=b) (many:=l.length) kind hb (by omega) ⟨by omega,(fw he).2.1⟩;rw[←(hx l h rfl he).1,←(hx l' h' hl he').1]
theorem KK {kind:Int}{l:List Ap}{b:List Int}(h:∀v∈l,VOK v)(he:enc kind l=(b,0)):dec kind b (l.length:Int)=(l,0):=by
 have hR:=ug h he;obtain⟨k1,k2,_⟩:=fw he;unfold dec;rw[if_neg (show ¬ (kind<0∨4<kind) by omega),if_neg (show ¬ ((l.length:Int)<0∨64<(l.length:Int)) by omega)];have hx:∃l':List Ap,(∀v∈l',Rgt v)∧(l'.length:Int)=(l.length:Int)∧enc kind l'=(b,0):=⟨l,hR,rfl,he⟩
 rw[dif_pos hx];obtain⟨c1,c2,c3⟩:=hx.choose_spec;rw[KJ hR c1 (by omega) he c3]
theorem G9 (kind:Int)(b:List Int)(many:Int):(∃l:List Ap,dec kind b many=(l,0)∧(∀v∈l,Rgt v)∧(l.length:Int)=many∧enc kind l=(b,0))∨(∃e,dec kind b many=([],e)∧e≠0):=by
 unfold dec;split
 ·right;exact⟨62,rfl,by decide⟩
 split
 ·right;exact⟨61,rfl,by decide⟩
 split
 ·rename_i h
  left;exact⟨_,rfl,h.choose_spec⟩
 ·right;exact⟨60,rfl,by decide⟩
def zB (l:List Ap)(s:Int×Int)(k:Nat):Int×Int:=if (enc (k:Int) l).2=0∧(s.2<0∨((enc (k:Int) l).1.length:Int)<s.2) then ((k:Int),((enc (k:Int) l).1.length:Int)) else s
def iz (l:List Ap)(n:Nat):Int×Int:=(Zw n).foldl (zB l) (0,-1)
def AF (l:List Ap):Int:=(iz l 5).1
theorem uW (l:List Ap)(n:Nat):iz l (n+1)=zB l (iz l n) n:=by simp[iz,Yg]
theorem FO (l:List Ap)(n:Nat):((iz l n).2<0∧(iz l n).1=0∧∀k:Nat,k<n→(enc (k:Int) l).2≠0)∨(0≤(iz l n).2∧(∃k:Nat,k<n∧(iz l n).1=(k:Int))∧(enc (iz l n).1 l).2=0∧(iz l n).2=((enc (iz l n).1 l).1.length:Int)∧∀k:Nat,k<n→(enc (k:Int) l).2=0→(iz l n).2≤((enc (k:Int) l).1.length:Int)):=by
 induction n with
 |zero=>left;exact⟨show((-1:Int))<0 by decide,rfl,λk hk=>by omega⟩
 | succ n ih =>
  rw[uW];generalize iz l n=s at*;unfold zB
  by_cases h:(enc (n:Int) l).2=0∧(s.2<0∨((enc (n:Int) l).1.length:Int)<s.2)
  ·rw [if_pos h]
   right;refine⟨by dsimp only;omega,⟨n,by omega,rfl⟩,h.1,rfl,λk hk he=>?_⟩;dsimp only;rcases ih with⟨i1,_,i2⟩|⟨i1,_,_,i4,i5⟩
   ·by_cases e:k=n
    ·subst e;omega
    ·exact absurd he (i2 k (by omega))
   ·by_cases e:k=n
    ·subst e;omega
    ·have:=i5 k (by omega) he
     omega
  ·rw [if_neg h]
   rcases ih with⟨i1,i0,i2⟩|⟨i1,⟨k0,i20,i21⟩,i3,i4,i5⟩
   ·left
    refine⟨i1,i0,λk hk he=>?_⟩
    by_cases e:k=n
    ·subst e;exact h ⟨he,.inl i1⟩
    ·exact i2 k (by omega) he
   ·right
    refine⟨i1,⟨k0,by omega,i21⟩,i3,i4,λk hk he=>?_⟩
    by_cases e:k=n
    ·subst e
     rcases Int.lt_or_le ((enc (k:Int) l).1.length:Int) s.2 with h2|h2
     ·exact absurd ⟨he,.inr h2⟩ h
     ·exact h2
    ·exact i5 k (by omega) he
theorem KL {l:List Ap}(h:∀v∈l,VOK v)(hl:l.length≤1048576):pY l=some (AF l):=by
 unfold pY;refine aV (λi=>((iz l i).1,(iz l i).2,(i:Int))) 5 rfl (λi hi=>?_) ?_
 ·dsimp only
  rw[uW];generalize iz l i=s;unfold ua mw pE zB;rw[if_pos (decide_eq_true (by omega)),sW _ h hl,Z0,aT (by omega)]
  by_cases e:(enc (i:Int) l).2=0
  ·rw [if_pos (by simpa using e)]
   by_cases e2:s.2<0
   ·rw[if_pos (decide_eq_true e2),if_pos rfl,if_pos ⟨e,.inl e2⟩]
   ·rw [if_neg (by simpa using e2)]
    by_cases e3:((enc (i:Int) l).1.length:Int)<s.2
    ·rw[if_pos (decide_eq_true e3),if_pos ⟨e,.inr e3⟩]
    ·rw[if_neg (by simpa using e3),if_neg (λh=>by rcases h.2 with h|h<;>contradiction)]
  ·rw[if_neg (by simpa using e),if_neg (by decide),if_neg (λh=>e h.1)]
 ·rfl
theorem D6 {l:List Ap}(h:∀v∈l,VOK v)(hl:l.length≤1048576):Ai l=some (AF l):=by
 unfold Ai;refine aV (λi=>((iz l i).1,(iz l i).2,(i:Int))) 5 rfl (λi hi=>?_) ?_
 ·dsimp only
  rw[uW];generalize iz l i=s;unfold zh qV uO zB;rw[if_pos (decide_eq_true (by omega)),qK _ h hl,Z0,aT (by omega)]
  by_cases e:(enc (i:Int) l).2=0
  ·rw [if_pos (by simpa using e)]
   by_cases e2:s.2<0
   ·rw[if_pos (decide_eq_true e2),if_pos rfl,if_pos ⟨e,.inl e2⟩]
   ·rw [if_neg (by simpa using e2)]
    by_cases e3:((enc (i:Int) l).1.length:Int)<s.2
    ·rw[if_pos (decide_eq_true e3),if_pos ⟨e,.inr e3⟩]
    ·rw[if_neg (by simpa using e3),if_neg (λh=>by rcases h.2 with h|h<;>contradiction)]
  ·rw[if_neg (by simpa using e),if_neg (by decide),if_neg (λh=>e h.1)]
 ·rfl
theorem KM {l:List Ap}:(enc 0 l).2≠0→∀k:Int,0≤k∧k≤4→(enc k l).2≠0:=by
 intro h k hk;unfold enc at*;rw[if_neg (show ¬ ((0:Int)<0∨4<(0:Int)) by omega)] at h;rw[if_neg (show ¬ (k<0∨4<k) by omega)];split
 ·decide
 split
 ·decide
 rename_i h1 h2;rw[if_neg h1,if_neg h2,if_neg (λh=>by omega)] at h;exfalso;apply h;split<;>rfl
theorem RF {l:List Ap}:(enc (AF l) l).2=(enc 0 l).2∧(enc (AF l) l).1.length≤(enc 0 l).1.length:=by
 unfold AF;rcases FO l 5 with⟨_,q1,_⟩|⟨_,⟨k,q0,q01⟩,q1,q2,q3⟩
 ·rw[q1];exact⟨rfl,Zn _⟩
 ·have e:(enc 0 l).2=0:=Classical.byContradiction fun hn=>KM hn (iz l 5).1 (by omega) q1
  have:=q3 0 (by omega) e;rw[show((0:Nat):Int)=0 from rfl] at this;exact⟨by rw[q1,e],by omega⟩
def U32 (x:Int):Prop:=0≤x∧x<4294967296
theorem Di (x:Int):U32 (Xs.wrap x):=by rw[lM];unfold U32;omega
theorem AG (x y:Int):U32 (cx .u32 x y):=Di _
theorem Py (x:Int):∃n:Nat,cL .u32 x 15=(n:Int)∧n<16:=by
 unfold cL;rw[lM,BitVec.toNat_and];have h2:(Ze Xs.bits 15).toNat=15:=by decide
 rw[h2];have:(Ze Xs.bits x).toNat&&&15≤15:=Nat.and_le_right;exact⟨_,by rw[Y4 (by omega) (by omega)],by omega⟩
theorem L9 {t:List Int}(h:t.length=16)(ht:∀x∈t,U32 x)(x:Int):∃(j:Nat) (y:Int),ix t (cL .u32 x 15)=some j∧t[j]? =some y∧U32 y:=by
 obtain⟨n,h1,h2⟩:=Py x;have hn:n<t.length:=by omega
 exact⟨n,t[n],by rw[h1];exact mI hn,Z5 hn,ht _ (Z2 hn)⟩
theorem Ha {b t:List Int}(hl:b.length<4611686018427387904)(h:t.length=16)(ht:∀x∈t,U32 x):∃n,jj b t=some n∧U32 n:=by
 unfold jj;refine gH (λs=>U32 s.1∧∃i:Nat,s.2=(i:Int)∧i≤b.length) (λs=>((b.length:Int) - s.2).toNat) U32 ?_ ⟨⟨by decide,by decide⟩,0,rfl,by omega⟩;rintro ⟨x,i'⟩ ⟨hx,i,hi,hi'⟩;dsimp only at hi;subst hi;dsimp only;unfold ji
 by_cases hlt:i<b.length
 ·left
  rw[if_pos (by simpa using hlt),az hlt,Z0];obtain⟨j,y,h1,h2,h3⟩:=L9 h ht (cx .u32 x (Xs.wrap b[i]));rw[h1,Z0,h2,Z0];obtain⟨j',z,k1,k2,k3⟩:=L9 h ht (cx .u32 y (ay .u32 (cx .u32 x (Xs.wrap b[i])) 4));rw[k1,Z0,k2,Z0,aT (by omega)];exact⟨_,rfl,⟨AG _ _,i+1,rfl,by omega⟩,by dsimp only;omega⟩
 ·right
  rw[if_neg (by simpa using hlt)];exact⟨_,rfl,AG _ _⟩
theorem Ma {b:List Int}(hl:b.length<4611686018427387904):∃n,fF b=some n∧U32 n:=by
 unfold fF;refine gH (λs=>(∃i:Nat,s.1=(i:Int)∧i≤16)∧s.2.length=16∧∀x∈s.2,U32 x) (λs=>(16 - s.1).toNat) U32 ?_ ⟨⟨0,rfl,by omega⟩,by simp,λx hx=>by rw[Y5 hx];exact⟨by decide,by decide⟩⟩;rintro ⟨i',t⟩ ⟨⟨i,hi,hi'⟩,ht,hu⟩;dsimp only at hi ht hu;subst hi;dsimp only;unfold jk
 by_cases hlt:i<16
 ·left
  rw[if_pos (by simpa using by omega)]
  have:∃r,au (λs:(Int×Int)=>ig (i:Int) t s.1 s.2) (Xs.wrap (i:Int),0)=some r∧∃v,U32 v∧r= .inl (((i+1:Nat):Int),t.set i v):=by
   refine gH (λs=>U32 s.1∧∃i:Nat,s.2=(i:Int)∧i≤4) (λs=>(4 - s.2).toNat) _ ?_ ⟨Di _,0,rfl,by omega⟩;rintro ⟨x,q'⟩ ⟨hx,q,hq,hq'⟩;dsimp only at hq;subst hq;dsimp only;unfold ig
   by_cases hql:q<4
   ·left
    rw[if_pos (by simpa using by omega),aT (by omega)];exact⟨_,rfl,⟨AG _ _,q+1,rfl,by omega⟩,by dsimp only;omega⟩
   ·right
    rw[if_neg (by simpa using by omega)];unfold oS oR;have hit:i<t.length:=by omega
    rw[mI hit,Z0,Z5 hit,Z0,aT (by omega)];exact⟨_,rfl,x,hx,rfl⟩
  obtain⟨r,h1,v,hv,rfl⟩:=this;refine⟨_,h1,⟨⟨i+1,rfl,by omega⟩,by simpa using ht,λx hx=>?_⟩,by dsimp only;omega⟩;rcases List.mem_or_eq_of_mem_set hx with h|h
  ·exact hu x h
  ·rw[h];exact hv
 ·right
  rw[if_neg (by simpa using by omega)];obtain⟨n,h1,h2⟩:=Ha hl ht hu;exact⟨n,by rw[h1];rfl,h2⟩
noncomputable def iW (b:List Int):Int:=(fF b).getD 0
theorem sa {b:List Int}(hl:b.length<4611686018427387904):fF b=some (iW b)∧U32 (iW b):=by
 obtain⟨n,h1,h2⟩:=Ma hl;unfold iW;rw[h1];exact⟨rfl,h2⟩
def be4 (n:Int):List Int:=[n/2^24%256,n/2^16%256,n/2^8%256,n%256]
theorem pO (n:Int):Byt (be4 n):=by
 unfold be4;exact .cons (by omega) (.cons (by omega) (.cons (by omega) (.cons (by omega) .nil)))
theorem da (n:Int):(be4 n).length=4:=rfl
theorem zC {x:Int}{k:Nat}(hk:k≤32):ay .u32 x (k:Int)=x/2^k:=by
 unfold ay;rw[X4 _ (Yi (Int.pow_pos (by decide)))];congr 2;simp[IntKind.bits];omega
theorem FP {x:Int}{k:Nat}(hk:k≤64):ay .i64 x (k:Int)=x/2^k:=by
 unfold ay;rw[X4 _ (Yi (Int.pow_pos (by decide)))];congr 2;simp[IntKind.bits];omega
noncomputable def mJ (b:List Int):List Int:=b++be4 (iW b)
theorem Bx {b:List Int}(hl:b.length≤1000000000000):kA b=some (mJ b):=by
 unfold kA;rw[(sa (b:=b) (by omega)).1,Z0,bj,bj,bj,bj];have e1:=zC (x:=iW b) (k:=24) (by omega);have e2:=zC (x:=iW b) (k:=16) (by omega);have e3:=zC (x:=iW b) (k:=8) (by omega);rw[show((24:Nat):Int)=24 from rfl] at e1;rw[show((16:Nat):Int)=16 from rfl] at e2;rw[show((8:Nat):Int)=8 from rfl] at e3;rw[e1,e2,e3,aH (by simp;omega),Z0]
 rfl
theorem Hb {v:Ap}(h:Rgt v):qo v=some (bq v):=by
 unfold qo;rw[ud (l:=[v]) (λx hx=>by rw[X5.1 hx];exact h) (by simp),Z0];simp only[uT,Z6,Zx,List.flatMap_nil,Xk];rw[sT,Z0]
def pc:List Ap→Ap
 |[]=>lh
 |v::l=>l.foldl (λm x=>if ltV x m then x else m) v
def pd:List Ap→Ap
 |[]=>lh
 |v::l=>l.foldl (λm x=>if ltV m x then x else m) v
theorem uX (a b:Ap):0<kG a b↔ltV b a=true:=by
 unfold kG;split
 ·rename_i h;simp[rX h]
 ·split
  ·rename_i h;simp[h]
  ·rename_i h;simp at h;simp[h]
theorem wJ {f:Ap→Ap→Ap} (hf: ∀m x,f m x=m∨f m x=x): ∀(l:List Ap) (v:Ap),l.foldl f v∈v::l
 |[],v=>by simp
 | x :: l, v => by
  have:=wJ hf l (f v x);rw[Zy];rcases hf v x with h|h
  ·rw [h] at this ⊢
   rcases Zq.1 this with h'|h'
   ·rw[h'];simp
   ·simp[h']
  ·rw [h] at this ⊢
   simp[this]
theorem uY {l:List Ap}(h:l≠[]):pc l∈l:=by
 cases l with
 |nil=>exact absurd rfl h
 |cons v l=>exact wJ (λm x=>by split<;>simp) l v
theorem uZ {l:List Ap}(h:l≠[]):pd l∈l:=by
 cases l with
 |nil=>exact absurd rfl h
 |cons v l=>exact wJ (λm x=>by split<;>simp) l v
theorem FQ {l:List Ap}(h:l≠[])(hl:l.length≤1048576):gm l cB=some (pc l):=by
 cases l with
 |nil=>exact absurd rfl h
 |cons v r=>
 unfold gm;rw[if_neg (by simp;omega)];unfold mO;rw[dI,Z0];refine aV (λi=>(((i+1:Nat):Int),(r.take i).foldl (λm x=>if ltV x m then x else m) v)) r.length (by simp) (λi hi=>?_) ?_
 ·dsimp only
  unfold jB;have hi':i+1<(v::r).length:=by simp;omega
  simp only[Z7] at hl;rw[if_pos (by simpa using by omega),az hi',Z0,eO,Z0];rw[iV hi];unfold jA;have e:(v::r)[i+1]=r[i]:=rfl;rw[e,aT (by omega)]
  by_cases hc:ltV r[i] ((r.take i).foldl (λm x=>if ltV x m then x else m) v)=true
  ·rw[if_pos (decide_eq_true ((lj _ _).2 hc)),Z0,if_pos hc]
  ·rw[if_neg (by simpa using λh=>hc ((lj _ _).1 h)),if_neg hc]
 ·unfold jB mM
  dsimp only;rw[if_neg (by simp),Z4]
  rfl
theorem FR {l:List Ap}(h:l≠[])(hl:l.length≤1048576):gn l cB=some (pd l):=by
 cases l with
 |nil=>exact absurd rfl h
 |cons v r=>
 unfold gn;rw[if_neg (by simp;omega)];unfold mQ;rw[dI,Z0];refine aV (λi=>(((i+1:Nat):Int),(r.take i).foldl (λm x=>if ltV m x then x else m) v)) r.length (by simp) (λi hi=>?_) ?_
 ·dsimp only
  unfold jD;have hi':i+1<(v::r).length:=by simp;omega
  simp only[Z7] at hl;rw[if_pos (by simpa using by omega),az hi',Z0,eO,Z0];rw[iV hi];unfold jC;have e:(v::r)[i+1]=r[i]:=rfl;rw[e,aT (by omega)]
  by_cases hc:ltV ((r.take i).foldl (λm x=>if ltV m x then x else m) v) r[i]=true
  ·rw[if_pos (decide_eq_true ((uX _ _).2 hc)),Z0,if_pos hc]
  ·rw[if_neg (by simpa using λh=>hc ((uX _ _).1 h)),if_neg hc]
 ·unfold jD mP
  dsimp only;rw[if_neg (by simp),Z4]
  rfl
def ft (l:List Ap):Nat:=(l.filter λv=>v.fKind==0).length
def FS (kind:Int)(l:List Ap):bK:=⟨kind,(l.length:Int),pc l,pd l,(ft l:Int),0⟩
theorem u3 (i:bK): ∀(l:List Ap) (n:Nat),n+l.length≤1048576→fT (fun (s:bK) (x:Ap)=>fk s x) { i with fNulls:=(n:Int) } l=some ({ i with fNulls:=((n+ft l:Nat):Int) },true)
 |[],n,_=>by simp[fT,ft]
 | v :: l, n, h => by
  simp only[Z7] at h;simp only[fT]
  by_cases hv:(v.fKind==0)=true
  ·have e:fk { i with fNulls:=(n:Int) } v=some ({ i with fNulls:=((n+1:Nat):Int) },true):=by
    unfold fk;rw[if_pos hv,aT (by omega)]
   rw[e,Z0,if_pos rfl,u3 i l (n+1) (by omega)];simp only[ft,List.filter_cons,hv,if_true,Z7];congr 4;omega
  ·have e:fk { i with fNulls:=(n:Int) } v=some ({ i with fNulls:=(n:Int) },true):=by
    unfold fk;rw[if_neg hv]
   rw[e,Z0,if_pos rfl,u3 i l n (by omega)];simp only[ft,List.filter_cons,hv,Z8,if_false]
theorem sc (l:List Ap):ft l≤l.length:=List.length_filter_le _ _
theorem EK {l:List Ap}(kind:Int)(h:l≠[])(hl:l.length≤1048576):kV kind l=some (FS kind l):=by
 unfold kV jw;rw[FQ h hl,Z0,FR h hl,Z0,Z0];rw[show(⟨kind,(l.length:Int),pc l,pd l,0,0⟩:bK)={ (⟨kind,(l.length:Int),pc l,pd l,0,0⟩:bK) with fNulls:=((0:Nat):Int) } from rfl,u3 _ l 0 (by omega),Z0,if_pos rfl,Nat.zero_add]
 rfl
theorem Hc {kind:Int}{l:List Ap}(h:∀v∈l,Rgt v)(hl:l.length≤64):(qJ kind l).length≤60000:=by
 obtain⟨w1,w2,w3⟩:=fo h;unfold qJ;split
 ·obtain ⟨h1,h2,_⟩:=oC (l:=l)
  have:=oB (bU l) (λr=>r.fMany::bq r.fValue) 67 λx hx=>by
   have:=(ej (h _ (h1 x hx).2.2)).2;simp;omega
  unfold xt;omega
 split
 ·have:=oB (Zw ((l.map (·.fInt)).length - 1)) (jR (l.map (·.fInt))) 10 fun x _=>lN (nC (lB _))
  unfold nD;simp only[Z3,b9,Xm,Zp] at*;omega
 split
 ·have h1:=jp (l:=aO l) fun v hv=>h v ((w2 v).1 hv)
  have hwid:wid ((aO l).length - 1)≤64:=o9 (Zt (show(aO l).length - 1<64 by omega) (by decide));have:=Zv hl hwid;unfold n8;simp only[Z7,Z3,ra,Zp];omega
 split
 ·by_cases hi: ∀x∈l.map (·.fInt),cW x
  ·have hu:=oD hi
   have:=Zv hl (lO hu).1;have hal:(bO (l.map (·.fInt))).length=l.length:=by simp[bO]
   unfold nE;simp only[Z3,b9,Z6,ra,hal];omega
  ·exfalso
   apply hi;intro x hx;obtain⟨v,hv,rfl⟩:=X3.1 hx;exact(h v hv).ok.int
 ·have:=jp h
  unfold pa;omega
theorem u4 {kind:Int}{l:List Ap}{b:List Int}(h:∀v∈l,VOK v)(he:enc kind l=(b,0)):b.length≤60000:=by
 obtain⟨_,h2,_,_,h4⟩:=fw he;rcases h4 with⟨_,rfl⟩|⟨_,rfl⟩
 ·simp
 ·exact Hc (ug h he) h2
def be2 (n:Nat):List Int:=[((n/256:Nat):Int),((n%256:Nat):Int)]
def gc (k m z:Int)(v w:Ap)(d:List Int):List Int:=k::m::z::(bq v++(bq w++(be2 d.length++d)))
def kH (kind:Int)(l:List Ap):Int:=if kind= -1 then AF l else kind
def iA (k:Int)(l:List Ap):List Int:=gc k (l.length:Int) (ft l:Int) (pc l) (pd l) (enc k l).1
noncomputable def wr (kind:Int) (l:List Ap):List Int×Int:=
 if l=[] then ([],70) else if (enc (kH kind l) l).2≠0 then ([],(enc (kH kind l) l).2) else (mJ (iA (kH kind l) l),0)
theorem By {k m z:Int}{v w:Ap}{d:List Int}(hk:0≤k∧k≤4)(hm:1≤m∧m≤64)(hz:0≤z∧z≤m)(hv:Rgt v)(hw:Rgt w)(hd:Byt d)(hl:d.length<65536):Byt (gc k m z v w d):=by
 unfold gc be2;refine .cons (by omega) (.cons (by omega) (.cons (by omega) (.app (rU hv) (.app (rU hw) (.app (.cons (by omega) (.cons (by omega) .nil)) hd)))))
theorem qv {k m z:Int}{v w:Ap}{d:List Int}:(gc k m z v w d).length=5+(bq v).length+(bq w).length+d.length:=by
 unfold gc be2;simp;omega
theorem I5 {l:List Ap}(kind:Int)(h:∀v∈l,VOK v)(hl:l.length≤1048576):ni kind l=some (wr kind l):=by
 have key:∀k,l≠[]→my l k=some (if (enc k l).2≠0 then ([],(enc k l).2) else (mJ (iA k l),0)):=by
  intro k hne;unfold my;rw[sW k h hl,Z0]
  by_cases he:(enc k l).2=0
  ·have he':enc k l=((enc k l).1,0):=Yk rfl he
   obtain⟨hk,h64,_⟩:=fw he';have hR:=ug h he';have hmin:=hR _ (uY hne);have hmax:=hR _ (uZ hne);have hdl:=u4 h he';have hdb:=xv k h;have hn:=sc l;have h0:0<l.length:=Zi.2 hne;have l1:=(ej hmin).2;have l2:=(ej hmax).2;rw[if_neg (by simpa using he),if_neg (by simpa using he),EK k hne hl,Z0];have e8:=FP (x:=((enc k l).1.length:Int)) (k:=8) (by omega);rw[show((8:Nat):Int)=8 from rfl] at e8;simp only[FS];rw[Hb hmin,Z0,aH (by simp;omega),Z0,Hb hmax,Z0,aH (by simp;omega),Z0,aH (by simp;omega),Z0,aH (by simp;omega),Z0]
   have e:([Yf.wrap k,Yf.wrap (l.length:Int),Yf.wrap (ft l:Int)]++bq (pc l)++bq (pd l)++[Yf.wrap (ay .i64 ((enc k l).1.length:Int) 8),Yf.wrap ((enc k l).1.length:Int)]++(enc k l).1)=iA k l:=by
    unfold iA gc be2;rw[bj,bj,bj,bj,bj,e8];have a1:k%256=k:=by omega
    have a2:(l.length:Int)%256=(l.length:Int):=by omega
    have a3:(ft l:Int)%256=(ft l:Int):=by omega
    have a4:((enc k l).1.length:Int)/2^8%256=(((enc k l).1.length/256:Nat):Int):=by omega
    have a5:((enc k l).1.length:Int)%256=(((enc k l).1.length%256:Nat):Int):=by omega
    rw[a1,a2,a3,a4,a5];simp
   have s2:(iA k l).length≤1000000000000:=by unfold iA;rw[qv];omega
   rw[e,Bx s2,Z0]
  ·rw[if_pos (by simpa using he),if_pos he]
 unfold ni wr
 by_cases hne:l=[]
 ·subst hne;rfl
 ·have h0:0<l.length:=Zi.2 hne
  rw[if_neg (by simp;omega),if_neg hne];unfold kH
  by_cases hk:kind= -1
  ·rw[if_pos (by simpa using hk),if_pos hk,KL h hl,Z0,key _ hne]
  ·rw[if_neg (by simpa using hk),if_neg hk,key _ hne]
theorem yE {b:List Int}(hb:Byt b)(hl:b.length<140737488355328):lJ b=some (match cf b with|some (v,n)=>(v,b.drop n,true)|none=>(lh,[],false)):=by
 unfold lJ
 have step:∀k,1≤k→k≤b.length→k≤66→mA b (k:Int)=match cf (b.take k) with|some (v,n)=>(if n=k then some (.inr (v,b.drop k,true)) else some (.inl ((k+1:Nat):Int)))|none=>some (.inl ((k+1:Nat):Int)):=by
  intro k h1 h2 h3;have hs:=d3 (xs:=b) (lo:=0) (hi:=k) (by omega) h2;rw[show((0:Nat):Int)=0 from rfl] at hs;unfold mA mz;rw[if_pos (by simpa using by omega),if_pos (by simp;omega),hs,Z0,aH (by simp;omega),Z0,Xf,Yd,sU (hb.take _),Z0,gw h2,aT (by omega)];have hlen:(b.take k).length=k:=by simp;omega
  cases hp:cf (b.take k) with
  |none=>rfl
  |some x=>
   obtain⟨v,n⟩:=x;simp only[hlen]
   by_cases e:n=k
   ·rw[if_pos e,if_pos e];rfl
   ·rw[if_neg e,if_neg e];rfl
 cases hp:cf b with
 | some x =>
  obtain⟨v,n⟩:=x;have hn:=rV hb hp;refine aV (λi=>((i+1:Nat):Int)) (n - 1) rfl (λi hi=>?_) ?_
  ·rw [step (i+1) (by omega) (by omega) (by omega)]
   cases hq:cf (b.take (i+1)) with
   |none=>rfl
   |some y=>
    obtain⟨v',n'⟩:=y;obtain⟨h1,h2⟩:=q8 hb hq;rw[hp] at h1;simp only[Option.some.injEq,Prod.mk.injEq] at h1;omega
  ·have e:n - 1+1=n:=by omega
   rw[e,step n (by omega) (by omega) (by omega),vx hb hp (Zn _)];simp
 | none =>
  refine aV (λi=>((i+1:Nat):Int)) (min b.length 66) rfl (λi hi=>?_) ?_
  ·rw [step (i+1) (by omega) (by omega) (by omega)]
   cases hq:cf (b.take (i+1)) with
   |none=>rfl
   |some y=>
    obtain⟨v',n'⟩:=y;obtain⟨h1,h2⟩:=q8 hb hq;rw[hp] at h1;cases h1
  ·have e0:mz b ((min b.length 66+1:Nat):Int) false=some (.inr (lh,[],false)):=rfl
   unfold mA;split
   ·have:decide (((min b.length 66+1:Nat):Int)≤66)=false:=by
     rename_i h;simp at h ⊢;omega
    rw[this,e0]
   ·exact e0
theorem orI {a b:Nat}(ha:a<65536)(hb:b<65536):bOr .i64 (a:Int) (b:Int)=((a|||b:Nat):Int):=by
 unfold bOr
 have h1:(Ze Zb.bits (a:Int)).toNat=a:=by
  show(Ze 64 (a:Int)).toNat=a;rw[Zm];omega
 have h2:(Ze Zb.bits (b:Int)).toNat=b:=by
  show(Ze 64 (b:Int)).toNat=b;rw[Zm];omega
 rw[BitVec.toNat_or,h1,h2];have:a|||b<2^16:=Nat.or_lt_two_pow (by simpa using ha) (by simpa using hb)
 have e:(2:Nat)^16=65536:=by decide
 rw[am (by omega)]
theorem Hd {x y:Int}(hx:0≤x∧x<256)(hy:0≤y∧y<256):bOr .i64 (dx .i64 (Zb.wrap x) 8) (Zb.wrap y)=((x.toNat*256+y.toNat:Nat):Int):=by
 rw[ue hx,ue hy];obtain⟨a,rfl⟩:=Zc hx.1;obtain⟨b,rfl⟩:=Zc hy.1
 have e:dx .i64 (a:Int) 8=((2^8*a:Nat):Int):=by
  unfold dx;have:(2:Int)^(min (8:Int).toNat Zb.bits)=256:=by decide
  rw[this,am (by omega)];omega
 rw[e,orI (by omega) (by omega),←Xr (by omega)];simp only[Y2];omega
structure Blk (b:List Int) (k m z:Int) (v w:Ap) (d r:List Int):Prop where
 eq:b=gc k m z v w d++r
 hk:0≤k∧k≤4
 hm:1≤m∧m≤64
 hz:0≤z∧z≤m
 hv:Rgt v
 hw:Rgt w
 hd:d.length<65536
 hr:4≤r.length
def B9 (k m z:Int)(v w:Ap)(d:List Int):bK:=⟨k,m,v,w,z,((gc k m z v w d).length+4:Nat)⟩
theorem Blk.parts {b:List Int}{k m z k' m' z':Int}{v w:Ap}{d r:List Int}(h:Blk (k::m::z::b) k' m' z' v w d r):k=k'∧m=m'∧z=z'∧cf b=some (v,(bq v).length)∧cf (b.drop (bq v).length)=some (w,(bq w).length)∧(b.drop (bq v).length).drop (bq w).length=be2 d.length++(d++r):=by
 have:=h.eq;unfold gc at this;simp only[Xc,List.cons.injEq,Zj] at this;obtain⟨h1,h2,h3,h4⟩:=this;refine⟨h1,h2,h3,?_,?_,?_⟩
 ·rw[h4,qt h.hv]
 ·rw[h4,Xg,qt h.hw]
 ·rw[h4,Xg,Xg]
theorem Blk.one {b:List Int}{k m z k' m' z':Int}{v w v' w':Ap}{d r d' r':List Int}(h:Blk b k m z v w d r)(h':Blk b k' m' z' v' w' d' r'):k=k'∧m=m'∧z=z'∧v=v'∧w=w'∧d=d'∧r=r':=by
 have e:=h.eq;unfold gc at e;simp only[Xc] at e;rw[e] at h h';obtain⟨a1,a2,a3,a4,a5,a6⟩:=h.parts;obtain⟨b1,b2,b3,b4,b5,b6⟩:=h'.parts;rw[a4] at b4;simp only[Option.some.injEq,Prod.mk.injEq] at b4;obtain⟨rfl,_⟩:=b4;rw[a5] at b5;simp only[Option.some.injEq,Prod.mk.injEq] at b5;obtain⟨rfl,_⟩:=b5;rw[a6] at b6;unfold be2 at b6;simp only[Xc,Zz,List.cons.injEq] at b6;have hlen:d.length=d'.length:=by omega
 obtain⟨c1,c2⟩:=List.append_inj b6.2.2 hlen;exact⟨b1,b2,b3,rfl,rfl,c1,c2⟩
abbrev Dj:bK:=⟨0,0,Ap.zero,Ap.zero,0,0⟩
theorem KN {b:List Int} (hb:Byt b) (hl:b.length≤1000000000000):
  (∃k m z v w d r,Blk b k m z v w d r∧jL b=some (B9 k m z v w d,d,true))∨(jL b=some (Dj,[],false)∧∀k m z v w d r,¬ Blk b k m z v w d r):=by
 have fp:∀{b:List Int},b.length<3→∀k m z v w d r,¬ Blk b k m z v w d r:=by
  intro b hs k m z v w d r h;have:=h.eq;rw[this] at hs;simp[qv] at hs;omega
 have bad:∀b,gD b true=some (Dj,[],false):=λb=>rfl
 match b,hb,hl with
 |[],_,_=>exact .inr ⟨rfl,fp (by simp)⟩
 |[_],_,_=>exact .inr ⟨rfl,fp (by simp)⟩
 |[_,_],_,_=>exact .inr ⟨rfl,fp (by simp)⟩
 | k :: m :: z :: t, hb, hl =>
  have b0:=hb.head;have b1:=hb.tail.head;have b2:=hb.tail.tail.head;have bt:Byt t:=hb.tail.tail.tail;simp only[Z7] at hl;have i0:idx (k::m::z::t) 0=some k:=dI _ _;have i1:idx (k::m::z::t) 1=some m:=Bn _ _ _;have i2:idx (k::m::z::t) 2=some z:=az (xs:=k::m::z::t) (i:=2) (by simp);have e3:sub (k::m::z::t) 3 ((k::m::z::t).length:Int)=some t:=gw (xs:=k::m::z::t) (k:=3) (by simp)
  have hr0:jL (k::m::z::t)=if 4<k∨m=0∨64<m∨m<z then some (Dj,[],false) else gD (k::m::z::t) false:=by
   unfold jL;rw[if_neg (by simp;omega),i0,Z0,i1,Z0,Z0,i2,Z0,Z0]
   by_cases c1:4<k
   ·rw[if_pos (by simpa using c1),if_pos (.inl c1)];rfl
   rw[if_neg (by simpa using c1)]
   by_cases c2:m=0
   ·rw[if_pos (by simpa using c2),if_pos (.inr (.inl c2))];rfl
   rw[if_neg (by simpa using c2)]
   by_cases c3:64<m
   ·rw[if_pos (by simpa using c3),if_pos (.inr (.inr (.inl c3)))];rfl
   rw[if_neg (by simpa using c3)]
   by_cases c4:m<z
   ·rw[if_pos (.inr (.inr (.inr c4))),decide_eq_true c4];rfl
   rw[if_neg (by omega),decide_eq_false c4]
  rw[hr0]
  by_cases c:4<k∨m=0∨64<m∨m<z
  ·rw [if_pos c]
   refine .inr ⟨rfl,λk' m' z' v w d r h=>?_⟩;obtain⟨rfl,rfl,rfl,_⟩:=h.parts;have:=h.hk;have:=h.hm;have:=h.hz;omega
  rw[if_neg c];unfold gD;rw[if_neg (by decide),i0,Z0,i1,Z0,i2,Z0,e3,Z0,yE bt (by omega),Z0];cases hp:cf t with
  |none=>
   have hf:∃x,lJ ([]:List Int)=some x:=⟨_,yE (b:=[]) .nil (by simp)⟩
   obtain⟨x,hx⟩:=hf;simp only;rw[hx,Z0];refine .inr ⟨rfl,λk' m' z' v w d r h=>?_⟩;have:=h.parts.2.2.2.1;rw[hp] at this;cases this
  | some q =>
   obtain⟨v,n1⟩:=q;have hbd1:=rV bt hp;simp only;rw[yE (bt.drop _) (by simp;omega),Z0];cases hp2:cf (t.drop n1) with
   |none=>
    refine .inr ⟨rfl,λk' m' z' v' w d r h=>?_⟩;obtain⟨_,_,_,h1,h2,_⟩:=h.parts;rw[hp] at h1;simp only[Option.some.injEq,Prod.mk.injEq] at h1;rw[←h1.2,hp2] at h2;cases h2
   | some q2 =>
    obtain⟨w,n2⟩:=q2;have hbd2:=rV (bt.drop _) hp2;simp only[Xw,Z8,if_false];obtain⟨hRv,t1,ht1,hn1⟩:=mF bt hp;obtain⟨hRw,t2,ht2,hn2⟩:=mF (bt.drop _) hp2;have htt:(t.drop n1).drop n2=t2:=by rw[ht2,hn2,Xg]
    have hbt2:Byt t2:=by rw[←htt];exact(bt.drop _).drop _
    have hd1:t.drop n1=t1:=by rw[ht1,hn1,Xg]
    have hteq:t=bq v++(bq w++t2):=by rw[ht1,←ht2,hd1]
    have hno:t2.length<2→∀k' m' z' v' w' d r,¬ Blk (k::m::z::t) k' m' z' v' w' d r:=by
     intro h2 k' m' z' v' w' d r h;obtain⟨_,_,_,p1,p2,p3⟩:=h.parts;rw[hp] at p1;simp only[Option.some.injEq,Prod.mk.injEq] at p1;rw[←p1.2,hp2] at p2;simp only[Option.some.injEq,Prod.mk.injEq] at p2;rw[←p1.2,←p2.2,htt] at p3;rw[p3] at h2;simp[be2] at h2;omega
    unfold nR;simp only[htt]
    match t2,hteq,htt,hbt2,hno,ht2 with
    |[],_,_,_,hno,_=>exact .inr ⟨by rw[if_pos (by decide)],hno (by simp)⟩
    |[_],_,_,_,hno,_=>exact .inr ⟨by rw[if_pos (by simp)],hno (by simp)⟩
    | x :: y :: rest, hteq, htt, hbt2, hno, ht2 =>
     have bx:=hbt2.head;have by_:=hbt2.tail.head;obtain⟨n,hn⟩:∃n,n=x.toNat*256+y.toNat:=⟨_,rfl⟩
     have e2:sub (x::y::rest) 2 ((x::y::rest).length:Int)=some rest:=gw (xs:=x::y::rest) (k:=2) (by simp);have hlr:rest.length≤t.length:=by rw[hteq];simp;omega
     rw[if_neg (by simp;omega),dI,Z0,Bn,Z0,e2,Z0,Hd bx by_,←hn,am (by omega)];have hsmall:n<65536:=by omega
     by_cases hrl:rest.length<n+4
     ·rw [if_pos (by simpa using by omega)]
      refine .inr ⟨rfl,λk' m' z' v' w' d r h=>?_⟩;obtain⟨_,_,_,p1,p2,p3⟩:=h.parts;rw[hp] at p1;simp only[Option.some.injEq,Prod.mk.injEq] at p1;rw[←p1.2,hp2] at p2;simp only[Option.some.injEq,Prod.mk.injEq] at p2;rw[←p1.2,←p2.2,htt] at p3;unfold be2 at p3;simp only[Xc,Zz,List.cons.injEq] at p3;have h4:=h.hr;have h5:rest.length=d.length+r.length:=by rw[p3.2.2];simp
      omega
     ·have e4:=d3 (xs:=rest) (lo:=0) (hi:=n) (by omega) (by omega)
      rw[show((0:Nat):Int)=0 from rfl,Xf] at e4;rw[if_neg (by simpa using by omega),e4,Z0];have hdl:(rest.take n).length=n:=by simp;omega
      have hB:Blk (k::m::z::t) k m z v w (rest.take n) (rest.drop n):=by
       refine⟨?_,by omega,by omega,by omega,hRv,hRw,by omega,by simp;omega⟩;rw[hteq];unfold gc be2;rw[hdl];have q1:((n/256:Nat):Int)=x:=by omega
       have q2:((n%256:Nat):Int)=y:=by omega
       rw[q1,q2];simp
      refine .inl ⟨k,m,z,v,w,rest.take n,rest.drop n,hB,?_⟩
      have hlen:(k::m::z::t).length=3+(bq v).length+(bq w).length+2+rest.length:=by
       rw[hteq];simp;omega
      rw[hlen];unfold B9;rw[qv,hdl,am (show -9223372036854775808≤k∧_ by omega),am (show -9223372036854775808≤m∧_ by omega),am (show -9223372036854775808≤z∧_ by omega)]
      have q3:Zb.wrap (((3+(bq v).length+(bq w).length+2+rest.length:Nat):Int) - (rest.length:Int))=((5+(bq v).length+(bq w).length:Nat):Int):=by
       rw[am (by simp only[Z7] at hlen;omega)];omega
      have q4:Zb.wrap (((5+(bq v).length+(bq w).length:Nat):Int)+(n:Int))=((5+(bq v).length+(bq w).length+n:Nat):Int):=by
       rw[am (by simp only[Z7] at hlen;omega)];omega
      have q5:Zb.wrap (((5+(bq v).length+(bq w).length+n:Nat):Int)+4)=((5+(bq v).length+(bq w).length+n+4:Nat):Int):=by
       rw[am (by simp only[Z7] at hlen;omega)];omega
      rw[q3,q4,q5]
theorem I6 {b:List Int}(hb:Byt b)(hl:b.length≤1000000000000){k m z:Int}{v w:Ap}{d r:List Int}(h:Blk b k m z v w d r):jL b=some (B9 k m z v w d,d,true):=by
 rcases KN hb hl with⟨k',m',z',v',w',d',r',h1,h2⟩|⟨_,h2⟩
 ·obtain ⟨rfl,rfl,rfl,rfl,rfl,rfl,_⟩:=h.one h1
  exact h2
 ·exact absurd h (h2 _ _ _ _ _ _ _)
noncomputable def FT (k m z:Int) (v w:Ap) (d r:List Int):List Ap×Int×Int:=
 if r.take 4=be4 (iW (gc k m z v w d)) then
  if (dec k d m).2≠0 then ([],0,70)
  else if (ft (dec k d m).1:Int)=z∧pc (dec k d m).1=v∧pd (dec k d m).1=w then ((dec k d m).1,((gc k m z v w d).length+4:Nat),0) else ([],0,70)
 else ([],0,71)
theorem I7 {b:List Int}(hb:Byt b)(hl:b.length≤1000000000000){k m z:Int}{v w:Ap}{d r:List Int}(h:Blk b k m z v w d r):k8 b=some (FT k m z v w d r):=by
 unfold k8;rw[I6 hb hl h,Z0];have hbe:=h.eq;have hr:=h.hr;have hd:=h.hd;have hbody:Byt (gc k m z v w d):=by rw[hbe] at hb;exact hb.left
 have hdb:Byt d:=by
  have:=hbody;unfold gc at this;exact this.tail.tail.tail.right.right.right
 have hbl:b.length=(gc k m z v w d).length+r.length:=by rw[hbe,Z3]
 obtain⟨n,hn⟩:∃n,n=(gc k m z v w d).length:=⟨_,rfl⟩
 have t1:b.take n=gc k m z v w d:=by rw[hbe,hn,List.take_left]
 have t2:b.take (n+4)=gc k m z v w d++r.take 4:=by
  rw[hbe,hn,List.take_append,Xi (Nat.le_add_right _ _),Nat.add_sub_cancel_left]
 have s1:=d3 (xs:=b) (lo:=0) (hi:=n) (by omega) (by omega);have s2:=d3 (xs:=b) (lo:=0) (hi:=n+4) (by omega) (by omega);rw[show((0:Nat):Int)=0 from rfl,Xf] at s1 s2;have hw:Zb.wrap (((n+4:Nat):Int) - 4)=(n:Int):=by rw[am (by omega)];omega
 unfold B9;simp only[←hn,Xw,Z8,if_false];rw[hw,s1,Z0];unfold kj;rw[t1,aH (by simp;omega),Z0,Zz,Z0,Bx (by omega),Z0,s2,Z0,t2,Dh (by unfold mJ;simp[da];omega),Z0];unfold FT mJ
 by_cases c1:r.take 4=be4 (iW (gc k m z v w d))
 ·rw [if_pos c1,c1,decide_eq_true rfl]
  simp only[Xw,Z8,if_false];rw[G8 _ _ hdb (by omega),Z0]
  by_cases c2:(dec k d m).2=0
  ·rw [if_neg (by simpa using c2),if_neg (by simpa using c2)]
   rcases G9 k d m with⟨l,e,g1,g2,g3⟩|⟨e,g1,g2⟩
   ·rw [e]
    simp only;have hm:=h.hm;have hne:l≠[]:=λe=>by rw[e] at g2;simp at g2;omega
    rw[EK k hne (by omega),Z0];simp only[FS]
    by_cases a1:(ft l:Int)=z<;>by_cases a2:pc l=v<;>by_cases a3:pd l=w<;>simp[jE,a1,a2,a3,hn]
   ·rw[g1] at c2;exact absurd c2 g2
  ·rw[if_pos (by simpa using c2),if_pos c2]
 ·have c1': ¬ (gc k m z v w d++be4 (iW (gc k m z v w d))=gc k m z v w d++r.take 4):=fun h=>c1 (List.append_cancel_left h).symm
  rw[if_neg c1,decide_eq_false c1']
  rfl
theorem Dk {l:List Ap}{kind:Int}(h:∀v∈l,VOK v)(hw:(wr kind l).2=0):∃k,l≠[]∧(∀v∈l,Rgt v)∧enc k l=((enc k l).1,0)∧k=kH kind l∧wr kind l=(mJ (iA k l),0)∧∀t,Blk (mJ (iA k l)++t) k (l.length:Int) (ft l:Int) (pc l) (pd l) (enc k l).1 (be4 (iW (iA k l))++t):=by
 unfold wr at hw
 by_cases hne:l=[]
 ·rw[if_pos hne] at hw;cases hw
 rw[if_neg hne] at hw
 by_cases he:(enc (kH kind l) l).2=0
 ·have he':enc (kH kind l) l=((enc (kH kind l) l).1,0):=Yk rfl he
  obtain⟨hk,h64,_⟩:=fw he';have hR:=ug h he';have hn:=sc l;have h0:0<l.length:=Zi.2 hne;have hdl:=u4 h he';refine⟨kH kind l,hne,hR,he',rfl,by unfold wr;rw[if_neg hne,if_neg (by simpa using he)],λt=>⟨by unfold mJ iA;simp,hk,by omega,by omega,hR _ (uY hne),hR _ (uZ hne),by omega,by simp[da]⟩⟩
 ·rw[if_pos (by simpa using he)] at hw;exact absurd hw he
theorem He {l:List Ap}{kind:Int}(h:∀v∈l,VOK v)(hw:(wr kind l).2=0):Byt (wr kind l).1∧(wr kind l).1.length≤100000:=by
 obtain⟨k,hne,hR,he,_,hw,hB⟩:=Dk h hw;obtain⟨hk,h64,_⟩:=fw he;have hn:=sc l;have h0:0<l.length:=Zi.2 hne;have hdl:=u4 h he;have hmin:=hR _ (uY hne);have hmax:=hR _ (uZ hne);have l1:=(ej hmin).2;have l2:=(ej hmax).2;rw[hw];unfold mJ;refine⟨.app (By hk ⟨by omega,by omega⟩ ⟨by omega,by omega⟩ hmin hmax (xv k h) (by omega)) (pO _),?_⟩;simp only[Z3,da];unfold iA;rw[qv];omega
theorem KO {l:List Ap}{kind:Int}(h:∀v∈l,VOK v)(hw:(wr kind l).2=0){t:List Int}(ht:Byt t)(hl:t.length≤900000000000):k8 ((wr kind l).1++t)=some (l,((wr kind l).1.length:Int),0):=by
 obtain⟨hby,hle⟩:=He h hw;obtain⟨k,hne,hR,he,_,hw,hB⟩:=Dk h hw;rw[hw] at hby hle ⊢;simp only at hby hle ⊢;rw[I7 (hby.app ht) (by simp only[Z3];omega) (hB t)];have hd:=KK h he;unfold FT;rw[hd,if_pos (by rw[Xj (da _)];rfl),if_neg (by simp),if_pos ⟨rfl,rfl,rfl⟩];have:(mJ (iA k l)).length=(iA k l).length+4:=by unfold mJ;simp[da]
 rw[this];rfl
open Option renaming bind_some→Z0,getD_some→Xe,bind_assoc→Y0
open List renaming take_succ_eq_append_getElem→Z1,getElem_mem→Z2,length_append→Z3,take_length→Z4,getElem?_eq_getElem→Z5,length_singleton→Z6,length_cons→Z7,replicate→Z9,eq_nil_of_length_eq_zero→Za,mem_append→Zd,mem_of_mem_take→Zf,take_append_drop→Zg,drop_eq_getElem_cons→Zh,length_pos_iff→Zi,append_assoc→Zj,pairwise_cons→Zk,length_take→Zl,pairwise_append→Zo,length_map→Zp,mem_cons→Zq,getD_eq_getElem?_getD→Zu,range→Zw,flatMap_cons→Zx,foldl_cons→Zy,nil_append→Zz,mem_map→X3,mem_singleton→X5,mem_of_getLast?→X7,pairwise_iff_getElem→X8,getElem?_eq_some_iff→X9,flatMap_append→Xa,cons_append→Xc,drop_zero→Xf,drop_left→Xg,getElem?_drop→Xh,take_of_length_le→Xi,take_left'→Xj,append_nil→Xk,foldl_append→Xl,length_range→Xm,length_replicate→Xn,dropLast_concat_getLast→Xq,getElem?_append_right→Xv,getLast?_eq_none_iff→Xx,getLast?_eq_getElem?→Xy,map_append→Xz,getElem?_append_left→Y1,mem_replicate→Y3,eq_of_mem_replicate→Y5,drop_drop→Y7,flatMap_singleton→Y9,map_cons→Yc,singleton_append→Yd,getElem?_eq_none→Ye,range_succ→Yg,map_nil→Yh
open Nat renaming le_refl→Zn,lt_of_lt_of_le→Zt,mul_le_mul→Zv,strongRecOn→Xb,testBit_xor→Xd,pow_le_pow_right→Xo,eq_of_testBit_eq→Xp,two_pow_add_eq_or_of_lt→Xr,mod_two_eq_zero_or_one→Xu,testBit_succ→Y8,xor_comm→Yj
open Bool renaming false_eq_true→Z8,not_true→Xw,not_false→Y6,not_eq_true→Ya,true_and→Yb
open Int renaming eq_ofNat_of_zero_le→Zc,tmod_eq_emod_of_nonneg→Zr,tdiv_eq_ediv_of_nonneg→Zs,fdiv_eq_ediv_of_nonneg→X4,natCast_pow→Xt,toNat_natCast→Y2,emod_eq_of_lt→Y4,le_of_lt→Yi
open BitVec renaming ofInt→Ze,toNat_ofInt→Zm
open Prod renaming ext→Yk
open IntKind renaming i64→Zb,u64→X6,u32→Xs,u8→Yf
end Go.Proofs.YthbonoagbeilkaaGreat.Hay
/- The checksum, bit by bit and by half bytes (plain numbers). -/
namespace Go.Proofs.YthbonoagbeilkaaGreat.Hay
open Option renaming bind_some→Z0,getD_some→Xe,bind_assoc→Y0
open List renaming take_succ_eq_append_getElem→Z1,getElem_mem→Z2,length_append→Z3,take_length→Z4,getElem?_eq_getElem→Z5,length_singleton→Z6,length_cons→Z7,replicate→Z9,eq_nil_of_length_eq_zero→Za,mem_append→Zd,mem_of_mem_take→Zf,take_append_drop→Zg,drop_eq_getElem_cons→Zh,length_pos_iff→Zi,append_assoc→Zj,pairwise_cons→Zk,length_take→Zl,pairwise_append→Zo,length_map→Zp,mem_cons→Zq,getD_eq_getElem?_getD→Zu,range→Zw,flatMap_cons→Zx,foldl_cons→Zy,nil_append→Zz,mem_map→X3,mem_singleton→X5,mem_of_getLast?→X7,pairwise_iff_getElem→X8,getElem?_eq_some_iff→X9,flatMap_append→Xa,cons_append→Xc,drop_zero→Xf,drop_left→Xg,getElem?_drop→Xh,take_of_length_le→Xi,take_left'→Xj,append_nil→Xk,foldl_append→Xl,length_range→Xm,length_replicate→Xn,dropLast_concat_getLast→Xq,getElem?_append_right→Xv,getLast?_eq_none_iff→Xx,getLast?_eq_getElem?→Xy,map_append→Xz,getElem?_append_left→Y1,mem_replicate→Y3,eq_of_mem_replicate→Y5,drop_drop→Y7,flatMap_singleton→Y9,map_cons→Yc,singleton_append→Yd,getElem?_eq_none→Ye,range_succ→Yg,map_nil→Yh
open Nat renaming le_refl→Zn,lt_of_lt_of_le→Zt,mul_le_mul→Zv,strongRecOn→Xb,testBit_xor→Xd,pow_le_pow_right→Xo,eq_of_testBit_eq→Xp,two_pow_add_eq_or_of_lt→Xr,mod_two_eq_zero_or_one→Xu,testBit_succ→Y8,xor_comm→Yj
open Bool renaming false_eq_true→Z8,not_true→Xw,not_false→Y6,not_eq_true→Ya,true_and→Yb
open Int renaming eq_ofNat_of_zero_le→Zc,tmod_eq_emod_of_nonneg→Zr,tdiv_eq_ediv_of_nonneg→Zs,fdiv_eq_ediv_of_nonneg→X4,natCast_pow→Xt,toNat_natCast→Y2,emod_eq_of_lt→Y4,le_of_lt→Yi
open BitVec renaming ofInt→Ze,toNat_ofInt→Zm
open Prod renaming ext→Yk
open IntKind renaming i64→Zb,u64→X6,u32→Xs,u8→Yf
def zD:Nat:=3988292384
def eU (x:Nat):Nat:=(x/2)^^^(if x.testBit 0 then zD else 0)
theorem I8 (a b:Nat):(a^^^b)/2=a/2^^^b/2:=by
 apply Xp;intro i;rw[Xd,←Y8,←Y8,←Y8,Xd]
theorem sY (a b:Nat):eU (a^^^b)=eU a^^^eU b:=by
 unfold eU;rw[I8,Xd];apply Xp;intro i;cases a.testBit 0<;>cases b.testBit 0<;>simp[Xd]<;>cases (a/2).testBit i<;>cases (b/2).testBit i<;>simp
theorem rc (x:Nat):eU (2*x)=x:=by
 unfold eU;simp
def fS (x:Nat):Nat:=eU (eU (eU (eU x)))
theorem wK (x:Nat):fS x=fS (x%16)^^^(x/16):=by
 have h:x=(2*(2*(2*(2*(x/16)))))^^^(x%16):=by
  have e2:2*(2*(2*(2*(x/16))))=2^4*(x/2^4):=by
   have e:(2:Nat)^4=16:=rfl;rw[e];omega
  rw[e2,show x%16=x%2^4 from rfl];apply Xp;intro i;rw[Xd,Nat.testBit_two_pow_mul,Nat.testBit_div_two_pow,Nat.testBit_mod_two_pow]
  by_cases hi:i<4
  ·have: ¬ 4≤i:=by omega
   simp[hi,this]
  ·have h4:4≤i:=by omega
   have h5:i - 4+4=i:=by omega
   simp[hi,h4,h5]
 conv=>lhs;rw[h]
 unfold fS;rw[sY,sY,sY,sY,rc,rc,rc,rc,Yj]
def nF (x:Nat):Nat:=fS (fS x)
theorem JM {a b:Nat}(ha:a<4294967296)(hb:b<4294967296):cL .u32 (a:Int) (b:Int)=((a&&&b:Nat):Int):=by
 unfold cL;rw[lM]
 have h1:(Ze Xs.bits (a:Int)).toNat=a:=by
  show(Ze 32 (a:Int)).toNat=a;rw[Zm];omega
 have h2:(Ze Xs.bits (b:Int)).toNat=b:=by
  show(Ze 32 (b:Int)).toNat=b;rw[Zm];omega
 rw[BitVec.toNat_and,h1,h2];have:a&&&b≤a:=Nat.and_le_left;omega
theorem sZ {a b:Nat}(ha:a<4294967296)(hb:b<4294967296):cx .u32 (a:Int) (b:Int)=((a^^^b:Nat):Int):=by
 unfold cx;rw[lM]
 have h1:(Ze Xs.bits (a:Int)).toNat=a:=by
  show(Ze 32 (a:Int)).toNat=a;rw[Zm];omega
 have h2:(Ze Xs.bits (b:Int)).toNat=b:=by
  show(Ze 32 (b:Int)).toNat=b;rw[Zm];omega
 rw[BitVec.toNat_xor,h1,h2];have:a^^^b<2^32:=Nat.xor_lt_two_pow (by simpa using ha) (by simpa using hb);have e:(2:Nat)^32=4294967296:=by decide
 omega
theorem pf {a b:Nat}(ha:a<4294967296)(hb:b<4294967296):a^^^b<4294967296:=by
 have:a^^^b<2^32:=Nat.xor_lt_two_pow (by simpa using ha) (by simpa using hb);simpa using this
theorem ek {x:Nat}(h:x<4294967296):eU x<4294967296:=by
 unfold eU;exact pf (by omega) (by split<;>decide)
theorem dJ {x:Nat}(h:x<4294967296):fS x<4294967296:=ek (ek (ek (ek h)))
theorem I9 (x:Nat):x&&&1=(x.testBit 0).toNat:=by
 rw[Nat.and_one_is_mod,Nat.testBit_zero];rcases Xu x with h|h<;>simp[h]
theorem D7 {x:Nat}(hx:x<4294967296):cx .u32 (ay .u32 (x:Int) 1) (Xs.wrap (3988292384*cL .u32 (x:Int) 1))=((eU x:Nat):Int):=by
 have e1:=zC (x:=(x:Int)) (k:=1) (by omega);rw[show((1:Nat):Int)=1 from rfl] at e1;have e2:=JM (a:=x) (b:=1) hx (by omega);rw[show((1:Nat):Int)=1 from rfl] at e2;rw[e1,e2,I9,lM];have e3:(x:Int)/2^1=((x/2:Nat):Int):=by omega
 have e4:3988292384*(((x.testBit 0).toNat:Nat):Int)%4294967296=((if x.testBit 0 then zD else 0:Nat):Int):=by
  cases x.testBit 0<;>simp[zD]
 rw[e3,e4,sZ (by omega) (by split<;>decide)]
 rfl
def qL (n:Nat):List Int:=(Zw 16).map λj=>if j<n then ((fS j:Nat):Int) else 0
theorem sd (n:Nat):(qL n).length=16:=by simp[qL]
theorem xw {n j:Nat}(h:j<16):(qL n)[j]? =some (if j<n then ((fS j:Nat):Int) else 0):=by
 unfold qL;rw[List.getElem?_map,List.getElem?_range h];rfl
theorem Ja {n:Nat}(h:n<16):(qL n).set n ((fS n:Nat):Int)=qL (n+1):=by
 apply List.ext_getElem?
 intro j;rw[List.getElem?_set]
 by_cases hj:j<16
 ·rw [xw hj,xw hj]
  by_cases e:n=j
  ·subst e;rw[if_pos rfl,if_pos (by rw[sd];exact h),if_pos (by omega)]
  ·rw [if_neg e]
   by_cases h1:j<n
   ·rw[if_pos h1,if_pos (by omega)]
   ·rw[if_neg h1,if_neg (by omega)]
 ·have h1:(qL n)[j]? =none:=Ye (by rw [sd];omega)
  have h2:(qL (n+1))[j]? =none:=Ye (by rw[sd];omega);rw[h1,h2,if_neg (by omega)]
def ll (l:List Int):Nat:=l.foldl (λc x=>nF (c^^^x.toNat)) 4294967295
def qN (l:List Int):Nat:=4294967295^^^ll l
theorem u5 {l:List Int}(h:Byt l):ll l<4294967296:=by
 unfold ll
 have:∀(l:List Int) (c:Nat),Byt l→c<4294967296→l.foldl (λc x=>nF (c^^^x.toNat)) c<4294967296:=by
  intro l
  induction l with
  |nil=>intro c _ h;exact h
  |cons x l ih=>
   intro c hb hc;have:=hb.head;exact ih _ hb.tail (dJ (dJ (pf hc (by omega))))
 exact this l _ h (by decide)
theorem Hf {n:Nat}(h:n<4294967296):cL .u32 (n:Int) 15=((n%16:Nat):Int):=by
 have:=JM (a:=n) (b:=15) h (by omega);rw[show((15:Nat):Int)=15 from rfl] at this;rw[this,show(15:Nat)=2^4 - 1 from rfl,Nat.and_two_pow_sub_one_eq_mod]
theorem Mb {n:Nat}:ay .u32 (n:Int) 4=((n/16:Nat):Int):=by
 have:=zC (x:=(n:Int)) (k:=4) (by omega);rw[show((4:Nat):Int)=4 from rfl] at this;rw[this];omega
theorem Hg (n:Nat)(h:n<4294967296):ix (qL 16) (cL .u32 (n:Int) 15)=some (n%16)∧(qL 16)[n%16]? =some ((fS (n%16):Nat):Int):=by
 rw[Hf h];refine⟨mI (by rw[sd];omega),?_⟩;rw[xw (by omega),if_pos (by omega)]
theorem Dl {b:List Int}(hb:Byt b)(hl:b.length<4611686018427387904):fF b=some ((qN b:Nat):Int):=by
 have hj1:jj b (qL 16)=some ((qN b:Nat):Int):=by
  unfold jj;refine aV (λi=>(((ll (b.take i):Nat):Int),(i:Int))) b.length rfl (λi hi=>?_) ?_
  ·dsimp only
   unfold ji;have hc:=u5 (hb.take i);have hx:=hb _ (Z2 hi);obtain⟨x,hx'⟩:=Zc hx.1;have e0:Xs.wrap b[i]=(x:Int):=by rw[lM];omega
   obtain⟨c,hcc⟩:∃c,c=ll (b.take i)^^^x:=⟨_,rfl⟩
   have hclt:c<4294967296:=by rw[hcc];exact pf hc (by omega)
   have hnext:ll (b.take (i+1))=nF c:=by
    rw[Z1 hi];unfold ll at hcc ⊢;rw[Xl,hcc];simp[hx']
   obtain⟨t1,t2⟩:=Hg c hclt;have h4:=dJ (x:=c%16) (by omega)
   have e1:cx .u32 ((fS (c%16):Nat):Int) ((c/16:Nat):Int)=((fS c:Nat):Int):=by
    rw[sZ h4 (by omega),←wK]
   obtain⟨u1,u2⟩:=Hg (fS c) (dJ hclt);have h5:=dJ (x:=fS c%16) (by omega)
   have e2:cx .u32 ((fS (fS c%16):Nat):Int) ((fS c/16:Nat):Int)=((nF c:Nat):Int):=by
    rw[sZ h5 (by have:=dJ hclt;omega),←wK];rfl
   rw[if_pos (by simpa using hi),az hi,Z0,e0,sZ hc (by omega),←hcc,t1,Z0,t2,Z0,Mb,e1,u1,Z0,u2,Z0,Mb,e2,aT (by omega),hnext]
  ·dsimp only
   unfold ji vX;rw[if_neg (by simp),Z4]
   have e:xV .u32 ((ll b:Nat):Int)=((qN b:Nat):Int):=by
    have:=sZ (a:=4294967295) (b:=ll b) (by omega) (u5 hb);unfold qN;rw[←this];rfl
   rw[e];rfl
 unfold fF;refine aV (λi=>((i:Int),qL i)) 16 (by decide) (λi hi=>?_) ?_
 ·dsimp only
  unfold jk;rw[if_pos (by simpa using by omega)];have e0:Xs.wrap (i:Int)=((i:Nat):Int):=by rw[lM];omega
  rw[e0];refine aV (λq=>(((Nat.repeat eU q i:Nat):Int),(q:Int))) 4 rfl (λq hq=>?_) ?_
  ·dsimp only
   unfold ig
   have hlt:∀q,Nat.repeat eU q i<4294967296:=by
    intro q
    induction q with
    |zero=>show i<_;omega
    |succ q ih=>exact ek ih
   rw[if_pos (by simpa using by omega),D7 (hlt q),aT (by omega)]
   rfl
  ·dsimp only
   unfold ig oS oR;rw[if_neg (by decide),mI (by rw[sd];exact hi),Z0,xw hi,Z0,aT (by omega)];have:Nat.repeat eU 4 i=fS i:=rfl;rw[this,Ja hi]
   rfl
 ·dsimp only
  unfold jk;rw[if_neg (by decide),hj1]
  rfl
open Option renaming bind_some→Z0,getD_some→Xe,bind_assoc→Y0
open List renaming take_succ_eq_append_getElem→Z1,getElem_mem→Z2,length_append→Z3,take_length→Z4,getElem?_eq_getElem→Z5,length_singleton→Z6,length_cons→Z7,replicate→Z9,eq_nil_of_length_eq_zero→Za,mem_append→Zd,mem_of_mem_take→Zf,take_append_drop→Zg,drop_eq_getElem_cons→Zh,length_pos_iff→Zi,append_assoc→Zj,pairwise_cons→Zk,length_take→Zl,pairwise_append→Zo,length_map→Zp,mem_cons→Zq,getD_eq_getElem?_getD→Zu,range→Zw,flatMap_cons→Zx,foldl_cons→Zy,nil_append→Zz,mem_map→X3,mem_singleton→X5,mem_of_getLast?→X7,pairwise_iff_getElem→X8,getElem?_eq_some_iff→X9,flatMap_append→Xa,cons_append→Xc,drop_zero→Xf,drop_left→Xg,getElem?_drop→Xh,take_of_length_le→Xi,take_left'→Xj,append_nil→Xk,foldl_append→Xl,length_range→Xm,length_replicate→Xn,dropLast_concat_getLast→Xq,getElem?_append_right→Xv,getLast?_eq_none_iff→Xx,getLast?_eq_getElem?→Xy,map_append→Xz,getElem?_append_left→Y1,mem_replicate→Y3,eq_of_mem_replicate→Y5,drop_drop→Y7,flatMap_singleton→Y9,map_cons→Yc,singleton_append→Yd,getElem?_eq_none→Ye,range_succ→Yg,map_nil→Yh
open Nat renaming le_refl→Zn,lt_of_lt_of_le→Zt,mul_le_mul→Zv,strongRecOn→Xb,testBit_xor→Xd,pow_le_pow_right→Xo,eq_of_testBit_eq→Xp,two_pow_add_eq_or_of_lt→Xr,mod_two_eq_zero_or_one→Xu,testBit_succ→Y8,xor_comm→Yj
open Bool renaming false_eq_true→Z8,not_true→Xw,not_false→Y6,not_eq_true→Ya,true_and→Yb
open Int renaming eq_ofNat_of_zero_le→Zc,tmod_eq_emod_of_nonneg→Zr,tdiv_eq_ediv_of_nonneg→Zs,fdiv_eq_ediv_of_nonneg→X4,natCast_pow→Xt,toNat_natCast→Y2,emod_eq_of_lt→Y4,le_of_lt→Yi
open BitVec renaming ofInt→Ze,toNat_ofInt→Zm
open Prod renaming ext→Yk
open IntKind renaming i64→Zb,u64→X6,u32→Xs,u8→Yf
theorem AH {b:List Int}(hb:Byt b)(hl:b.length<4611686018427387904):iW b=((qN b:Nat):Int):=by
 unfold iW;rw[Dl hb hl];rfl
theorem EL {b:List Int}(hb:Byt b)(hl:b.length<4611686018427387904):zi b=some (iW b):=by
 rw[AH hb hl];unfold zi;refine aV (λi=>(((ll (b.take i):Nat):Int),(i:Int))) b.length rfl (λi hi=>?_) ?_
 ·dsimp only
  unfold wg;have hc:=u5 (hb.take i);have hx:=hb _ (Z2 hi);obtain⟨x,hx'⟩:=Zc hx.1;have e0:Xs.wrap b[i]=(x:Int):=by rw[lM];omega
  obtain⟨c,hcc⟩:∃c,c=ll (b.take i)^^^x:=⟨_,rfl⟩
  have hclt:c<4294967296:=by rw[hcc];exact pf hc (by omega)
  have hnext:ll (b.take (i+1))=nF c:=by
   rw[Z1 hi];unfold ll at hcc ⊢;rw[Xl,hcc];simp[hx']
  rw[if_pos (by simpa using hi),az hi,Z0,e0,sZ hc (by omega),←hcc];refine aV (λq=>(((Nat.repeat eU q c:Nat):Int),(q:Int))) 8 rfl (λq hq=>?_) ?_
  ·dsimp only
   have hlt:∀q,Nat.repeat eU q c<4294967296:=by
    intro q
    induction q with
    |zero=>exact hclt
    |succ q ih=>exact ek ih
   have hq0:=hlt q;obtain⟨y,hy⟩:∃y,y=Nat.repeat eU q c:=⟨_,rfl⟩
   have hs:Nat.repeat eU (q+1) c=eU y:=by rw[hy];rfl
   rw[←hy] at hq0 ⊢;unfold we wd;have e1:((y:Int)).tmod 2=((y%2:Nat):Int):=by rw[Zr (by omega)];omega
   have e2:((y:Int)).tdiv 2=((y/2:Nat):Int):=by rw[Zs (by omega)];omega
   have e3:Xs.wrap ((y/2:Nat):Int)=((y/2:Nat):Int):=by rw[lM];omega
   rw[if_pos (by simpa using by omega),e1,e2,e3,aT (by omega),hs];unfold eU;rw[Nat.testBit_zero];rcases Xu y with h|h
   ·rw[h,Yj];simp
   ·rw [h]
    have e4:cx .u32 ((y/2:Nat):Int) 3988292384=((y/2^^^zD:Nat):Int):=sZ (a:=y/2) (b:=zD) (by omega) (by decide);rw[e4];rfl
  ·dsimp only
   unfold we Bl;rw[if_neg (by decide),aT (by omega),hnext]
   rfl
 ·dsimp only
  unfold wg Bk;rw[if_neg (by simp),Z4];have e:=sZ (a:=ll b) (b:=4294967295) (u5 hb) (by omega);rw[show((4294967295:Nat):Int)=4294967295 from rfl] at e;rw[e,Yj]
  rfl
def dQ (n:Int):Nat→Int
 |0=>n
 |k+1=>dQ n k/256
theorem AJ {n:Int} (h:0≤n∧n<18446744073709551616): ∀k,0≤dQ n k∧dQ n k<18446744073709551616
 |0=>h
 |k+1=>by have:=AJ h k;unfold dQ;omega
theorem re {n:Int}(h:0≤n∧n<4294967296):oz n 4=some (be4 n):=by
 unfold oz
 have inner:∀(acc:List Int) (i:Nat),acc.length≤1000→i<10→oV n acc (i:Int)=some (.inl (acc++[dQ n i%256],(i:Int) - 1)):=by
  intro acc i hal hi;unfold oV;rw[if_pos (by simp)];refine aV (λq=>(dQ n q,(q:Int))) i rfl (λq hq=>?_) ?_
  ·dsimp only
   unfold rP;have hb:=AJ (n:=n) (by omega) q
   have e:X6.wrap ((dQ n q).tdiv 256)=dQ n (q+1):=by
    rw[bD,Zs hb.1];have:dQ n (q+1)=dQ n q/256:=rfl;omega
   rw[if_pos (by simpa using hq),e,aT (by omega)]
  ·dsimp only
   unfold rP wk wj;have hb:=AJ (n:=n) (by omega) i
   have e:Yf.wrap ((dQ n i).tmod 256)=dQ n i%256:=by
    rw[bj,Zr hb.1];omega
   rw[if_neg (by simp),e,aH (by simp;omega),Z0,am (by omega)]
   rfl
 have h3:=inner [] 3 (by simp) (by omega);have h2:=inner ([]++[dQ n 3%256]) 2 (by simp) (by omega);have h1:=inner ([]++[dQ n 3%256]++[dQ n 2%256]) 1 (by simp) (by omega);have h0:=inner ([]++[dQ n 3%256]++[dQ n 2%256]++[dQ n 1%256]) 0 (by simp) (by omega);rw[show Zb.wrap (4 - 1)=((3:Nat):Int) from rfl];rw[bL (s':=([]++[dQ n 3%256],((2:Nat):Int))) (by dsimp only;rw[h3];rfl)];rw[bL (s':=([]++[dQ n 3%256]++[dQ n 2%256],((1:Nat):Int))) (by dsimp only;rw[h2];rfl)];rw[bL (s':=([]++[dQ n 3%256]++[dQ n 2%256]++[dQ n 1%256],((0:Nat):Int))) (by dsimp only;rw[h1];rfl)]
 rw[bL (s':=([]++[dQ n 3%256]++[dQ n 2%256]++[dQ n 1%256]++[dQ n 0%256],-1)) (by dsimp only;rw[h0];rfl)];refine aZ ?_;dsimp only;unfold oV wh;rw[if_neg (by decide)];have e3:dQ n 3=n/2^24:=by unfold dQ dQ dQ dQ;omega
 have e2:dQ n 2=n/2^16:=by unfold dQ dQ dQ;omega
 have e1:dQ n 1=n/2^8:=by unfold dQ dQ;omega
 rw[e3,e2,e1]
 rfl
def Hh (kind:Int)(l:List Ap):dn:=⟨kind,(l.length:Int),pc l,pd l,(ft l:Int),0⟩
theorem FU {l:List Ap}{i:Nat}(h:i<l.length):ft (l.take (i+1))=ft (l.take i)+if (l[i].fKind==0)=true then 1 else 0:=by
 unfold ft;rw[Z1 h,List.filter_append,Z3];congr 1
 by_cases hv:(l[i].fKind==0)=true
 ·rw[if_pos hv];simp at hv;simp[hv]
 ·rw[if_neg hv];simp at hv;simp[hv]
theorem Jb {l:List Ap}(kind:Int)(h:l≠[])(hl:l.length≤1048576):yt kind l=some (Hh kind l):=by
 cases hlr:l with
 |nil=>exact absurd hlr h
 |cons v r=>
 rw[←hlr];have i0:idx l 0=some v:=by rw[hlr];exact dI _ _
 unfold yt;rw[i0,Z0,Z0];refine aV (λi=>((i:Int),(⟨kind,(l.length:Int),(l.take i).foldl (λm x=>if ltV x m then x else m) v,(l.take i).foldl (λm x=>if ltV m x then x else m) v,(ft (l.take i):Int),0⟩:dn))) l.length rfl (λi hi=>?_) ?_
 ·dsimp only
  obtain⟨a,ha⟩:∃a,a=(l.take i).foldl (λm x=>if ltV x m then x else m) v:=⟨_,rfl⟩
  obtain⟨b,hb⟩:∃b,b=(l.take i).foldl (λm x=>if ltV m x then x else m) v:=⟨_,rfl⟩
  have hn:=sc (l.take i);simp only[Zl] at hn;rw[iV hi,iV hi,FU hi,←ha,←hb]
  have j3:∀x y,p9 l (i:Int) ⟨kind,(l.length:Int),x,y,(ft (l.take i):Int),0⟩=some (.inl (((i+1:Nat):Int),⟨kind,(l.length:Int),x,y,((ft (l.take i)+if (l[i].fKind==0)=true then 1 else 0:Nat):Int),0⟩)):=by
   intro x y;unfold p9 tC;rw[az hi,Z0,aT (by omega)]
   by_cases hv:(l[i].fKind==0)=true
   ·rw [if_pos hv,if_pos hv]
    dsimp only;rw[aT (by omega)]
   ·rw[if_neg hv,if_neg hv];rfl
  have j2:∀x,qa l (i:Int) ⟨kind,(l.length:Int),x,b,(ft (l.take i):Int),0⟩=some (.inl (((i+1:Nat):Int),⟨kind,(l.length:Int),x,if ltV b l[i] then l[i] else b,((ft (l.take i)+if (l[i].fKind==0)=true then 1 else 0:Nat):Int),0⟩)):=by
   intro x;unfold qa;rw[az hi,Z0,pK,Z0]
   by_cases hc:ltV b l[i]=true
   ·rw[if_pos (decide_eq_true ((uX _ _).2 hc)),Z0,if_pos hc];exact j3 _ _
   ·rw[if_neg (by simpa using λh=>hc ((uX _ _).1 h)),if_neg hc];exact j3 _ _
  unfold tD;rw[if_pos (by simpa using hi),az hi,Z0,pK,Z0]
  by_cases hc:ltV l[i] a=true
  ·rw[if_pos (decide_eq_true ((lj _ _).2 hc)),Z0,if_pos hc];exact j2 _
  ·rw[if_neg (by simpa using λh=>hc ((lj _ _).1 h)),if_neg hc];exact j2 _
 ·dsimp only
  unfold tD xQ;rw[if_neg (by simp),Z4]
  have e1:l.foldl (λm x=>if ltV x m then x else m) v=pc l:=by
   rw[hlr];simp only[pc,Zy]
   have:ltV v v=false:=by
    cases hvv:ltV v v with
    |false=>rfl
    |true=>have:=rX hvv;rw[hvv] at this;cases this
   rw[this];rfl
  have e2:l.foldl (λm x=>if ltV m x then x else m) v=pd l:=by
   rw[hlr];simp only[pd,Zy]
   have:ltV v v=false:=by
    cases hvv:ltV v v with
    |false=>rfl
    |true=>have:=rX hvv;rw[hvv] at this;cases this
   rw[this];rfl
  rw[e1,e2]
  rfl
theorem Hi {l:List Ap}(kind:Int)(h:∀v∈l,VOK v)(hl:l.length≤1048576):yu kind l=some (wr kind l):=by
 have key:∀k,l≠[]→qb l k=some (if (enc k l).2≠0 then ([],(enc k l).2) else (mJ (iA k l),0)):=by
  intro k hne;unfold qb;rw[qK k h hl,Z0]
  by_cases he:(enc k l).2=0
  ·rw [if_neg (by simpa using he),if_neg (by simpa using he)]
   have he':enc k l=((enc k l).1,0):=Yk rfl he;obtain⟨hk,h64,_⟩:=fw he';have hR:=ug h he';have hdl:=u4 h he';have hn:=sc l;have h0:0<l.length:=Zi.2 hne;have hmin:=hR _ (uY hne);have hmax:=hR _ (uZ hne);have l1:=(ej hmin).2;have l2:=(ej hmax).2;rw[Jb k hne hl,Z0];simp only[Hh];rw[o8 hmin,Z0,aH (by simp;omega),Z0,o8 hmax,Z0,aH (by simp;omega),Z0,aH (by simp;omega),Z0,aH (by simp;omega),Z0];have a1:Yf.wrap k=k:=by rw[bj];omega
   have a2:Yf.wrap (l.length:Int)=(l.length:Int):=by rw[bj];omega
   have a3:Yf.wrap (ft l:Int)=(ft l:Int):=by rw[bj];omega
   have a4:Yf.wrap (Zb.wrap (((enc k l).1.length:Int).tdiv 256))=(((enc k l).1.length/256:Nat):Int):=by
    rw[Zs (by omega),am (by omega),bj];omega
   have a5:Yf.wrap (((enc k l).1.length:Int).tmod 256)=(((enc k l).1.length%256:Nat):Int):=by
    rw[Zr (by omega),bj];omega
   have e:(([Yf.wrap k,Yf.wrap (l.length:Int),Yf.wrap (ft l:Int)]++bq (pc l)++bq (pd l)++[Yf.wrap (Zb.wrap (((enc k l).1.length:Int).tdiv 256)),Yf.wrap (((enc k l).1.length:Int).tmod 256)])++(enc k l).1)=iA k l:=by
    unfold iA gc be2;rw[a1,a2,a3,a4,a5];simp
   have hbb:Byt (iA k l):=By hk ⟨by omega,by omega⟩ ⟨by omega,by omega⟩ hmin hmax (xv k h) (by omega);have s2:(iA k l).length≤1000000000:=by unfold iA;rw[qv];omega
   have hu:=(sa (b:=iA k l) (by omega)).2;unfold U32 at hu;rw[e,EL hbb (by omega),Z0,bD,Y4 hu.1 (by omega),re hu,Z0,aH (by rw[da];omega),Z0]
   rfl
  ·rw[if_pos (by simpa using he),if_pos he]
 unfold yu wr
 by_cases hne:l=[]
 ·subst hne;rfl
 ·have h0:0<l.length:=Zi.2 hne
  rw[if_neg (by simp;omega),if_neg hne];unfold kH
  by_cases hk:kind= -1
  ·rw[if_pos (by simpa using hk),if_pos hk,D6 h hl,Z0,key _ hne]
  ·rw[if_neg (by simpa using hk),if_neg hk,key _ hne]
theorem yF {n:Int}(h:U32 n):dA (be4 n)=n:=by
 unfold U32 at h;unfold be4 dA;simp only[Zy,List.foldl_nil];omega
set_option linter.unusedVariables false
set_option linter.unusedSimpArgs false
section
variable {α:Type}
theorem Mc {xs:List α}{i:Nat}(h:i<xs.length):ix xs (i:Int)=some i:=by
  unfold ix;rw[if_pos (by omega)];simp
theorem u6 {xs A B:List α}{x:α}{i:Int}(e:xs=A++x::B)(hi:i=(A.length:Int)):ix xs i=some A.length:=by
  subst e hi;unfold ix;rw[if_pos (by simp;omega)];simp
theorem pg {xs A B:List α}{x:α}(e:xs=A++x::B):xs[A.length]? =some x:=by subst e;simp
theorem zF {xs A B:List α}{x:α}(y:α)(e:xs=A++x::B):xs.set A.length y=A++y::B:=by subst e;simp
theorem JN {β:Type}{xs A B:List α}{x:α}{i:Int}{k:Nat→α→Option β}(e:xs=A++x::B)(hi:i=(A.length:Int)):((ix xs i).bind λj=>(xs[j]?).bind λx=>k j x)=k A.length x:=by
  rw[u6 e hi,Z0,pg e,Z0]
def swp (xs:List α) (i j:Int):Option (List α):=
  (ix xs i).bind λa=>(xs[a]?).bind λx=>(ix xs j).bind λb=>(xs[b]?).bind λy=>(ix xs j).bind λc=>(xs[c]?).bind λ_=>
  (ix (xs.set c x) i).bind λd=>((xs.set c x)[d]?).bind λ_=>some ((xs.set c x).set d y)
theorem Hj {A B C xs:List α}{x y:α}{i j:Int}(e:xs=A++x::(B++y::C))(hi:i=(A.length:Int))(hj:j=(A.length:Int)+1+B.length):swp xs i j=some (A++y::(B++x::C)):=by
  have e2:xs=(A++x::B)++y::C:=by rw[e];simp
  have hj:j=((A++x::B).length:Int):=by rw[hj];simp;omega
  unfold swp;rw[u6 e hi,Z0,pg e,Z0,u6 e2 hj,Z0,pg e2,Z0,Z0,pg e2,Z0];have e3:=zF x e2;rw[e3];have e4:(A++x::B)++x::C=A++x::(B++x::C):=by simp
  rw[u6 e4 hi,Z0,pg e4,Z0,zF y e4]
theorem Hk {A B C xs:List α}{x y:α}{i j:Int}(e:xs=A++x::(B++y::C))(hi:i=(A.length:Int))(hj:j=(A.length:Int)+1+B.length):swp xs j i=some (A++y::(B++x::C)):=by
  have e2:xs=(A++x::B)++y::C:=by rw[e];simp
  have hj:j=((A++x::B).length:Int):=by rw[hj];simp;omega
  unfold swp;rw[u6 e2 hj,Z0,pg e2,Z0,u6 e hi,Z0,pg e,Z0,Z0,pg e,Z0];have e3:=zF y e;rw[e3];have e4:A++y::(B++y::C)=(A++y::B)++y::C:=by simp
  have hj2:j=((A++y::B).length:Int):=by rw[hj];simp
  have e5:(A++x::B).length=(A++y::B).length:=by simp
  rw[u6 e4 hj2,Z0,pg e4,Z0,zF x e4];simp
theorem AK {n:Nat}{S:List α}(h:S.length=n+1):∃S' s,S=S'++[s]∧S'.length=n:=by
  have hn:S≠[]:=by intro e;rw[e] at h;cases h
  refine⟨S.dropLast,S.getLast hn,(Xq hn).symm,by simp[h]⟩
theorem Stb.perm {lt:α→α→Bool}(h:Swo lt){l l':List α}(hs:Stb lt l l'):l'.Perm l:=by
  classical
  rw[List.perm_iff_count];intro a;rw[←List.count_filter (p:=eqv lt a) (kL h a),hs.flt a,List.count_filter (kL h a)]
theorem Stb.len {lt:α→α→Bool}(h:Swo lt){l l':List α}(hs:Stb lt l l'):l'.length=l.length:=(hs.perm h).length_eq
theorem Stb.app {lt:α→α→Bool} {l l' m m':List α} (h1:Stb lt l l') (h2:Stb lt (l'++m) m'):Stb lt (l++m) m':=
  h2.trans λa=>by simp[h1.flt]
end
def Cmp {α:Type}(lt:α→α→Bool)(p:α→α→Option Int):Prop:= ∀x y,∃c,p x y=some c∧decide (c<0)=lt x y
section
variable {lt:aa→aa→Bool}{p:aa→aa→Option Int}
theorem Md (h : Swo lt) (hp : Cmp lt p) (L R : List aa) (v : aa) (a x6 : Int) (ha : a = (L.length : Int)) (hx : -9223372036854775808 ≤ x6 + 1 ∧ x6 + 1 ≤ 9223372036854775807) :
    ∀(n:Nat) (S1 S2:List aa) (j:Int) (xs:List aa),S1.length=n→j=(L.length:Int)+S1.length→xs=L++S1++v::(S2++R)→Srt lt (S1++S2)→(∀s∈S2,lt v s=true)→j<4611686018427387904→
    ∃T,au (λs:(Int×List aa)=>aY a p x6 s.1 s.2) (j,xs)=some (.inl (x6+1,L++T++R))∧Stb lt (S1++S2++[v]) T:=by
  intro n
  induction n with
  | zero =>
    intro S1 S2 j xs hn hj hxs hs hv hb;obtain rfl:=Za hn;refine⟨v::S2,?_,?_⟩
    · apply aZ
      simp only[aY];rw[if_neg (by simp;simp at hj;omega)];simp only[aX,cy,am hx];simp[hxs]
    ·simpa using Stb.ins h (S1:=[]) hs hv (by simp)
  | succ n ih =>
    intro S1 S2 j xs hn hj hxs hs hv hb;obtain⟨S1',s,rfl,hn'⟩:=AK hn;rw[Z3,Z6] at hj;have e1:xs=(L++S1')++s::([]++v::(S2++R)):=by rw[hxs];simp
    have e2:xs=(L++(S1'++[s]))++v::(S2++R):=hxs;have hj1:j - 1=((L++S1').length:Int):=by rw[Z3];omega
    have hj2:j=((L++(S1'++[s])).length:Int):=by simp;omega
    have hw:Zb.wrap (j - 1)=j - 1:=am (by omega);obtain⟨c,hc,hd⟩:=hp v s
    have hb2:aY a p x6 j xs=aX x6 j xs (lt v s):=by
      simp only[aY];rw[if_pos (by simp;omega),JN e2 hj2,hw,JN e1 hj1,hc,Z0,hd]
    cases hl:lt v s with
    | true =>
      have hst:aY a p x6 j xs=some (.inl (j - 1,(L++S1')++v::([]++s::(S2++R)))):=by
        have h1:(swp xs (j - 1) j)=_:=Hj e1 hj1 (by rw[←hj1];simp)
        have h2:aX x6 j xs true=(swp xs (j - 1) j).bind λr=>some (.inl (j - 1,r)):=by
          simp only[aX,swp,Y0,Z0,hw,if_true]
        rw[hb2,hl,h2,h1,Z0]
      obtain⟨T,h1,h2⟩:=ih S1' (s::S2) (j - 1) _ hn' (by omega) rfl (by simpa using hs) (by
        intro x hx;rcases Zq.1 hx with rfl|hx
        ·exact hl
        ·exact hv x hx) (by omega)
      refine⟨T,?_,by simpa using h2⟩;rw[bL hst];simpa using h1
    | false =>
      refine⟨S1'++[s]++v::S2,?_,?_⟩
      · apply aZ
        show aY a p x6 j xs=_;rw[hb2,hl];simp only[aX,cy,am hx];simp[hxs]
      · refine Stb.ins h hs hv (CC h ?_ hl)
        unfold Srt at hs ⊢;rw[Zo] at hs;exact hs.1
theorem KP (h:Swo lt) (hp:Cmp lt p) (L R:List aa) (a b:Int) (ha:a=(L.length:Int)) (hb:b<4611686018427387904):
    ∀(Y S0 S:List aa) (j:Int) (xs:List aa),Stb lt S0 S→j=(L.length:Int)+S.length→b=(L.length:Int)+S.length+Y.length→xs=L++S++(Y++R)→
    ∃T,au (λs:(Int×List aa)=>bh a b p s.1 s.2) (j,xs)=some (L++T++R)∧Stb lt (S0++Y) T:=by
  intro Y
  induction Y with
  | nil =>
    intro S0 S j xs hs hj hb' hxs;refine⟨S,?_,by simpa using hs⟩;apply aZ;simp only[bh];rw[if_neg (by simp;simp at hb';omega)];simp[hxs]
  | cons v Y ih =>
    intro S0 S j xs hs hj hb' hxs;rw[Z7] at hb';obtain⟨T,h1,h2⟩:=Md h hp L (Y++R) v a j ha (by omega) S.length S [] j xs rfl hj (by rw[hxs];simp) (by simpa using hs.srt) (by simp) (by omega)
    have hst:bh a b p j xs=some (.inl (j+1,L++T++(Y++R))):=by
      simp only[bh];rw[if_pos (by simp;omega)];exact h1
    rw[Xk] at h2;have hlT:=h2.len h;rw[Z3,Z6] at hlT;obtain⟨T',h3,h4⟩:=ih (S0++[v]) T (j+1) _ (hs.app h2) (by omega) (by omega) rfl;refine⟨T',?_,by simpa using h4⟩;rw[bL hst,h3]
theorem Hl (h:Swo lt) (hp:Cmp lt p) (L X R:List aa) {a b:Int} {xs:List aa} (ha:a=(L.length:Int)) (hb:b=(L.length:Int)+X.length) (hn:b<4611686018427387904) (hxs:xs=L++X++R):
    ∃T,ce xs a b p=some (L++T++R)∧Stb lt X T:=by
  unfold ce;rw[am (by omega)];cases X with
  | nil =>
    refine⟨[],?_,⟨List.Pairwise.nil,λ_=>rfl⟩⟩;apply aZ;simp only[bh];rw[if_neg (by simp;simp at hb;omega)];simp[hxs]
  | cons v X =>
    rw[Z7] at hb;obtain⟨T,h1,h2⟩:=KP h hp L R a b ha hn X [v] [v] (a+1) xs ⟨by simp[Srt],λ_=>rfl⟩ (by simp;omega) (by simp;omega) (by rw[hxs];simp);exact⟨T,h1,by simpa using h2⟩
end
set_option linter.unusedVariables false
set_option linter.unusedSimpArgs false
section
variable {lt:aa→aa→Bool}{p:aa→aa→Option Int}
theorem Jc (p1 p2 p3:Int): ∀(U2 V2 A V1 B U1 C:List aa) (i:Int) (xs:List aa),V2.length=U2.length→V1.length=U1.length→i=(V1.length:Int)→p1=(A.length:Int)→
  p2=(A.length:Int)+V1.length+U2.length+B.length→p3=i+U2.length→xs=A++V1++U2++B++U1++V2++C→p2+p3<4611686018427387904→
  au (λs:(Int×List aa)=>bF p1 p2 p3 s.1 s.2) (i,xs)=some (A++(V1++V2)++B++(U1++U2)++C):=by
 intro U2
 induction U2 with
 |nil=>
  intro V2 A V1 B U1 C i xs h1 h2 h3 h4 h5 h6 hxs hb;obtain rfl:=Za (h1.trans rfl);apply aZ;simp only[bF];rw[if_neg (by simp;simp at h6;omega)];simp[hxs]
 | cons u U2 ih =>
  intro V2 A V1 B U1 C i xs h1 h2 h3 h4 h5 h6 hxs hb;cases V2 with
  |nil=>cases h1
  | cons v V2 =>
   rw[Z7,Z7] at h1;rw[Z7] at h5 h6;have e1:xs=(A++V1)++u::((U2++B++U1)++v::(V2++C)):=by rw[hxs];simp
   have hi:p1+i=((A++V1).length:Int):=by rw[Z3];omega
   have hj:p2+i=((A++V1).length:Int)+1+(U2++B++U1).length:=by simp only[Z3];omega
   have hst:bF p1 p2 p3 i xs=some (.inl (i+1,(A++V1)++v::((U2++B++U1)++u::(V2++C)))):=by
    have h1:=Hk e1 hi hj
    have h2:bF p1 p2 p3 i xs=(swp xs (p2+i) (p1+i)).bind λr=>some (.inl (i+1,r)):=by
     simp only[bF,swp,Y0,Z0];rw[if_pos (by simp;omega),am (by omega),am (by omega),am (by omega)]
    rw[h2,h1,Z0]
   rw[bL hst,ih V2 A (V1++[v]) B (U1++[u]) C (i+1) _ (by omega) (by simp;omega) (by simp;omega) h4 (by simp;omega) (by omega) (by simp) hb];simp
theorem Dm {A U B V C xs:List aa} {p1 p2 p3:Int} (h1:V.length=U.length) (h2:p1=(A.length:Int)) (h3:p2=(A.length:Int)+U.length+B.length) (h4:p3=(U.length:Int)) (hxs:xs=A++U++B++V++C) (hb:p2+p3<4611686018427387904):
  cc xs p1 p2 p3 p=some (A++V++B++U++C):=by
 unfold cc;have:=Jc p1 p2 p3 U V A [] B [] C 0 xs h1 rfl rfl h2 (by simp;omega) (by omega) (by simpa using hxs) hb;simpa using this
theorem Jd (m:Int): ∀(n:Nat) (X Y A C:List aa) (i j:Int) (xs:List aa),X.length+Y.length=n→0<X.length→0<Y.length→i=(X.length:Int)→j=(Y.length:Int)→m=(A.length:Int)+X.length→
  xs=A++X++Y++C→m+j<2305843009213693952→i<2305843009213693952→
  au (λs:(Int×Int×List aa)=>bB m p s.1 s.2.1 s.2.2) (i,j,xs)=some (A++Y++X++C):=by
 intro n
 induction n using Xb with
 | _ n ih =>
  intro X Y A C i j xs hn hX hY hi hj hm hxs hb hb2
  by_cases hij:i=j
  ·apply aZ
   simp only[bB];rw[if_neg (by simp[hij])];simp only[d6];rw[am (by omega),Dm (A:=A) (U:=X) (B:=[]) (V:=Y) (C:=C) (by omega) (by omega) (by simp;omega) hi (by simp[hxs]) (by omega)];simp
  ·by_cases hlt:j<i
   ·have hX2:X=X.take Y.length++X.drop Y.length:=(Zg _ _).symm
    have hst:bB m p i j xs=some (.inl (i - j,j,(A++Y)++X.drop Y.length++X.take Y.length++C)):=by
     simp only[bB]
     rw [if_pos (by simp [hij]),if_pos (by simp [hlt]),am (by omega),Dm (A:=A) (U:=X.take Y.length) (B:=X.drop Y.length) (V:=Y) (C:=C) (by simp;omega) (by omega) (by simp;omega) (by simp;omega)
      (by rw[hxs];simp) (by omega),Z0,am (by omega)]
    rw[bL hst,ih (n - Y.length) (by omega) (X.drop Y.length) (X.take Y.length) (A++Y) C (i - j) j _ (by simp;omega) (by simp;omega) (by simp;omega) (by simp;omega) (by simp;omega) (by simp;omega) rfl (by omega) (by omega)];simp
   ·have hY2:Y=Y.take (Y.length - X.length)++Y.drop (Y.length - X.length):=(Zg _ _).symm
    have hst:bB m p i j xs=some (.inl (i,j - i,A++Y.drop (Y.length - X.length)++Y.take (Y.length - X.length)++(X++C))):=by
     simp only[bB]
     rw [if_pos (by simp [hij]),if_neg (by simp;omega),am (n:=m - i) (by omega),am (n:=m+j) (by omega),am (n:=m+j - i) (by omega),
      Dm (A:=A) (U:=X) (B:=Y.take (Y.length - X.length)) (V:=Y.drop (Y.length - X.length)) (C:=C) (by simp;omega) (by omega) (by simp;omega) (by omega)
      (by rw[hxs];simp) (by omega),Z0,am (by omega)]
     simp
    rw[bL hst,ih (n - X.length) (by omega) (Y.drop (Y.length - X.length)) (Y.take (Y.length - X.length)) A (X++C) i (j - i) _ (by simp;omega) (by simp;omega) (by simp;omega) (by simp;omega) (by simp;omega) (by simp;omega) rfl (by omega) (by omega)];simp
theorem Me {A X Y C xs:List aa} {a m b:Int} (hX:0<X.length) (hY:0<Y.length) (ha:a=(A.length:Int)) (hm:m=a+X.length) (hb:b=m+Y.length) (hxs:xs=A++X++Y++C) (hn:b<2305843009213693952):
  cA xs a m b p=some (A++Y++X++C):=by
 unfold cA;rw[am (by omega),am (by omega)];exact Jd m _ X Y A C _ _ xs rfl hX hY (by omega) (by omega) (by omega) hxs (by omega) (by omega)
theorem Je (e:Int) (he:e<4611686018427387904) (x:aa) (Q:List aa): ∀(Bs pre:List aa) (k:Int) (xs:List aa),k=(pre.length:Int)→e - 1=k+Bs.length→xs=pre++x::(Bs++Q)→
  au (λs:(Int×List aa)=>bI e s.1 s.2) (k,xs)=some (pre++Bs++x::Q):=by
 intro Bs
 induction Bs with
 |nil=>
  intro pre k xs hk h1 hxs;apply aZ;simp only[bI];rw[am (by omega),if_neg (by simp;simp at h1;omega)];simp[dO,hxs]
 | cons b Bs ih =>
  intro pre k xs hk h1 hxs;rw[Z7] at h1;have e1:xs=pre++x::([]++b::(Bs++Q)):=by rw[hxs];simp
  have hst:bI e k xs=some (.inl (k+1,pre++b::([]++x::(Bs++Q)))):=by
   have h2:=Hk e1 hk (j:=k+1) (by simp;omega)
   have h3:bI e k xs=(swp xs (k+1) k).bind λr=>some (.inl (k+1,r)):=by
    simp only[bI,swp,Y0,Z0];rw[am (n:=e - 1) (by omega),if_pos (by simp;omega),am (by omega)]
   rw[h3,h2,Z0]
  rw[bL hst,ih (pre++[b]) (k+1) _ (by simp;omega) (by omega) (by simp)];simp
theorem Jf (e:Int) (y:aa) (pre:List aa) (he:e=(pre.length:Int)): ∀(n:Nat) (As Q:List aa) (k:Int) (xs:List aa),As.length=n→k=e+As.length→xs=pre++As++y::Q→k<4611686018427387904→
  au (λs:(Int×List aa)=>bJ e s.1 s.2) (k,xs)=some (pre++y::(As++Q)):=by
 intro n
 induction n with
 |zero=>
  intro As Q k xs hn hk hxs hb;obtain rfl:=Za hn;apply aZ;simp only[bJ];rw[if_neg (by simp;simp at hk;omega)];simp[dP,hxs]
 | succ n ih =>
  intro As Q k xs hn hk hxs hb;obtain⟨As',s,rfl,hn'⟩:=AK hn;rw[Z3,Z6] at hk;have e1:xs=(pre++As')++s::([]++y::Q):=by rw[hxs];simp
  have hst:bJ e k xs=some (.inl (k - 1,(pre++As')++y::([]++s::Q))):=by
   have h2:=Hj e1 (i:=k - 1) (j:=k) (by simp;omega) (by simp;omega)
   have h3:bJ e k xs=(swp xs (k - 1) k).bind λr=>some (.inl (k - 1,r)):=by
    simp only[bJ,swp,Y0,Z0];rw[if_pos (by simp;omega),am (by omega)]
   rw[h3,h2,Z0]
  rw[bL hst,ih As' (s::Q) (k - 1) _ hn' (by omega) (by simp) (by omega)];simp
end
theorem AL {β:Type} {F:Int×Int→Option ((Int×Int)⊕β)} (g:Nat→Bool) (lo0 hi0:Nat) (K:Nat→Option β)
  (hgo:∀lo hi:Nat,lo0≤lo→lo<hi→hi≤hi0→F (lo,hi)=some (.inl (if g ((lo+hi)/2) then (((lo+hi)/2+1:Nat),hi) else (lo,((lo+hi)/2:Nat)))))
  (hend:∀s:Nat,lo0≤s→s≤hi0→F (s,s)=(K s).map Sum.inr) (h:lo0≤hi0):
  ∃s:Nat,lo0≤s∧s≤hi0∧(s=lo0∨g (s - 1)=true)∧(s=hi0∨g s=false)∧au F ((lo0:Int),(hi0:Int))=K s:=by
 have key: ∀(n lo hi:Nat),hi - lo=n→lo0≤lo→lo≤hi→hi≤hi0→(lo=lo0∨g (lo - 1)=true)→(hi=hi0∨g hi=false)→
   ∃s:Nat,lo0≤s∧s≤hi0∧(s=lo0∨g (s - 1)=true)∧(s=hi0∨g s=false)∧au F ((lo:Int),(hi:Int))=K s:=by
  intro n
  induction n using Xb with
  | _ n ih =>
   intro lo hi hn h1 h2 h3 h4 h5
   by_cases hlt:lo<hi
   ·have hst:=hgo lo hi h1 hlt h3
    cases hg:g ((lo+hi)/2) with
    |true=>
     rw[hg,if_pos rfl] at hst;rw[bL hst];exact ih (hi - ((lo+hi)/2+1)) (by omega) _ _ rfl (by omega) (by omega) h3 (Or.inr (by simpa using hg)) h5
    |false=>
     rw[hg,if_neg (by simp)] at hst;rw[bL hst];exact ih ((lo+hi)/2 - lo) (by omega) _ _ rfl h1 (by omega) (by omega) h4 (Or.inr hg)
   ·obtain rfl:lo=hi:=by omega
    refine⟨lo,h1,h3,h4,h5,?_⟩;rw[pp,hend lo h1 h3];cases K lo<;>rfl
 exact key _ lo0 hi0 rfl (Zn _) h (Zn _) (Or.inl rfl) (Or.inl rfl)
theorem wL {x:Int}(h:0≤x∧x<9223372036854775808):Zb.wrap (ay .u64 (X6.wrap (Zb.wrap x)) 1)=x/2:=by
 rw[am (n:=x) (by omega),bD,Y4 (by omega) (by omega)];have:ay .u64 x ((1:Nat):Int)=x/2^1:=qf (by decide);rw[show(1:Int)=((1:Nat):Int) from rfl,this,am (by omega)]
 rfl
section
variable {α:Type}
theorem uh {β:Type}{xs:List α}{x:α}{i:Int}{h:Nat}{k:Nat→α→Option β}(e:xs[h]? =some x)(hi:i=(h:Int)):((ix xs i).bind λj=>(xs[j]?).bind λx=>k j x)=k h x:=by
 obtain⟨hl,hx⟩:=X9.1 e;rw[hi,Mc hl,Z0,e,Z0]
theorem xsA {L A B R:List α}{k:Nat}(h:k<A.length):(L++A++B++R)[L.length+k]? =A[k]? :=by
 rw[Zj,Zj,Xv (by omega),show L.length+k - L.length=k by omega,Y1 h]
theorem xsB {L A B R:List α}{k:Nat}(h:k<B.length):(L++A++B++R)[L.length+A.length+k]? =B[k]? :=by
 rw[Zj,Xv (by simp),show L.length+A.length+k - (L++A).length=k by simp,Y1 h]
theorem Bz {A:List α}{k:Nat}(h:k<A.length){x:α}(e:A[k]? =some x):∃A',A.take (k+1)=A'++[x]:=by
 obtain⟨hl,hx⟩:=X9.1 e;exact⟨A.take k,by rw[List.take_add_one,e];rfl⟩
theorem zG {A:List α}{k:Nat}{x:α}(e:A[k]? =some x):∃A',A.drop k=x::A':=by
 obtain⟨hl,hx⟩:=X9.1 e;exact⟨A.drop (k+1),by rw[Zh hl,hx]⟩
theorem Mf {lt:α→α→Bool} (h:Swo lt) {A1 A2 B1 B2:List α} (hA:Srt lt (A1++A2)) (hB:Srt lt (B1++B2))
  (h1:B1=[]∨A2=[]∨ ∃B' b a A',B1=B'++[b]∧A2=a::A'∧lt b a=true)
  (h2:A1=[]∨B2=[]∨ ∃A' a b B',A1=A'++[a]∧B2=b::B'∧lt b a=false):
  (∀b∈B1,∀a∈A2,lt b a=true)∧(∀a∈A1,∀b∈B2,lt b a=false):=by
 unfold Srt at hA hB;rw[Zo] at hA hB;constructor
 ·rcases h1 with rfl|rfl|⟨B',bl,af,A',rfl,rfl,hl⟩
  ·simp
  ·simp
  ·intro b hb a ha
   cases hba:lt b a with
   |true=>rfl
   | false =>
    exfalso
    have hb1:lt bl b=false:=by
     rcases Zd.1 hb with hb|hb
     ·exact(Zo.1 hB.1).2.2 b hb bl (by simp)
     ·simp at hb;subst hb;exact h.irr _
    have ha1:lt a af=false:=by
     rcases Zq.1 ha with rfl|ha
     ·exact h.irr _
     ·exact(Zk.1 hA.2.1).1 a ha
    have:=h.inc bl a af (h.inc bl b a hb1 hba) ha1;rw[hl] at this;cases this
 ·rcases h2 with rfl|rfl|⟨A',al,bf,B',rfl,rfl,hl⟩
  ·simp
  ·simp
  ·intro a ha b hb
   have hb1:lt b bf=false:=by
    rcases Zq.1 hb with rfl|hb
    ·exact h.irr _
    ·exact(Zk.1 hB.2.1).1 b hb
   have ha1:lt al a=false:=by
    rcases Zd.1 ha with ha|ha
    ·exact(Zo.1 hA.1).2.2 a ha al (by simp)
    ·simp at ha;subst ha;exact h.irr _
   exact h.inc b bf a hb1 (h.inc bf al a hl ha1)
theorem Srt.take {lt:α→α→Bool}{A:List α}(h:Srt lt A)(k:Nat):Srt lt (A.take k):=List.Pairwise.sublist (List.take_sublist k A) h
theorem Srt.drop {lt:α→α→Bool}{A:List α}(h:Srt lt A)(k:Nat):Srt lt (A.drop k):=List.Pairwise.sublist (List.drop_sublist k A) h
end
set_option linter.unusedVariables false
set_option linter.unusedSimpArgs false
section
variable {lt:aa→aa→Bool}{p:aa→aa→Option Int}
def FV (lt : aa → aa → Bool) (p : aa → aa → Option Int) (self_ : List aa → Int → Int → Int → (aa → aa → Option Int) → Option (List aa)) (N : Nat) : Prop :=
  ∀ (L A B R : List aa) (a m b : Int) (xs : List aa), 0 < A.length → 0 < B.length → a = (L.length : Int) → m = (L.length : Int) + A.length → b = (L.length : Int) + A.length + B.length → xs = L ++ A ++ B ++ R →
    A.length+B.length≤N→xs.length<1152921504606846976→Srt lt A→Srt lt B→∃T,self_ xs a m b p=some (L++T++R)∧Stb lt (A++B) T
def gx (lt:aa→aa→Bool)(xs:List aa)(i j:Nat):Bool:=match xs[i]?,xs[j]? with
  |some x,some y=>lt x y
  |_,_=>false
theorem zH {xs:List aa}{i j:Nat}{x y:aa}(h1:xs[i]? =some x)(h2:xs[j]? =some y):gx lt xs i j=lt x y:=by simp[gx,h1,h2]
theorem wM (h:Swo lt) {L A B R xs:List aa} (hxs:xs=L++A++B++R) (hA:Srt lt A) (hB:Srt lt B) (k1 k2:Nat) (h1:k1≤A.length) (h2:k2≤B.length)
    (c1:k2=0∨k1=A.length∨(0<k2∧k1<A.length∧gx lt xs (L.length+A.length+(k2 - 1)) (L.length+k1)=true))
    (c2:k1=0∨k2=B.length∨(0<k1∧k2<B.length∧gx lt xs (L.length+A.length+k2) (L.length+(k1 - 1))=false)):
    (∀b∈B.take k2,∀a∈A.drop k1,lt b a=true)∧(∀a∈A.take k1,∀b∈B.drop k2,lt b a=false):=by
  have hA':Srt lt (A.take k1++A.drop k1):=by rw[Zg];exact hA
  have hB':Srt lt (B.take k2++B.drop k2):=by rw[Zg];exact hB
  refine Mf h hA' hB' ?_ ?_
  · rcases c1 with rfl | rfl | ⟨hk, hk1, hg⟩
    ·simp
    ·simp
    · right; right
      have eb:B[k2 - 1]? =some B[k2 - 1]:=Z5 (by omega);have ea:A[k1]? =some A[k1]:=Z5 hk1;obtain⟨B',hB'⟩:=Bz (by omega) eb;obtain⟨A',hA'⟩:=zG ea;rw[show k2 - 1+1=k2 by omega] at hB';refine⟨B',_,_,A',hB',hA',?_⟩;rw[←hg,hxs,zH ((xsB (by omega)).trans eb) ?_];exact(xsA hk1).trans ea
  · rcases c2 with rfl | rfl | ⟨hk, hk2, hg⟩
    ·simp
    ·simp
    · right; right
      have ea:A[k1 - 1]? =some A[k1 - 1]:=Z5 (by omega);have eb:B[k2]? =some B[k2]:=Z5 hk2;obtain⟨A',hA'⟩:=Bz (by omega) ea;obtain⟨B',hB'⟩:=zG eb;rw[show k1 - 1+1=k1 by omega] at hA';refine⟨A',_,_,B',hA',hB',?_⟩;rw[←hg,hxs,zH ((xsB hk2).trans eb) ?_];exact(xsA (by omega)).trans ea
theorem KQ (h : Swo lt) (hp : Cmp lt p) {L B R xs : List aa} {x : aa} {a m b : Int} (hB0 : 0 < B.length) (ha : a = (L.length : Int)) (hm : m = (L.length : Int) + 1) (hb : b = (L.length : Int) + 1 + B.length)
    (hxs:xs=L++[x]++B++R) (hn:xs.length<1152921504606846976) (hB:Srt lt B):
    ∃T,au (λs:(Int×Int)=>bV xs a p s.1 s.2) (m,b)=some (L++T++R)∧Stb lt ([x]++B) T:=by
  have hlen:xs.length=L.length+1+B.length+R.length:=by rw[hxs];simp;omega
  have ex:xs[L.length]? =some x:=by rw[hxs];simp
  have hm':m=((L.length+1:Nat):Int):=by omega
  have hb':b=((L.length+1+B.length:Nat):Int):=by omega
  obtain ⟨s,h1,h2,h3,h4,h5⟩:=AL (F:=fun s:(Int×Int)=>bV xs a p s.1 s.2) (fun c=>gx lt xs c L.length) (L.length+1) (L.length+1+B.length)
    (λs=>cR xs a (s:Int)) (λlo hi h1 h2 h3=>by
      have hc:(lo+hi)/2<xs.length:=by omega
      have ec:xs[(lo+hi)/2]? =some xs[(lo+hi)/2]:=Z5 hc;obtain⟨c,hc1,hc2⟩:=hp xs[(lo+hi)/2] x;simp only[bV];rw[if_pos (by simp;omega),wL (by omega),uh ec (by omega),uh ex ha,hc1,Z0,hc2,zH ec ex,am (by omega)]
      split<;>rfl)
    (λs h1 h2=>by
      simp only[bV]
      rw[if_neg (by simp)]) (by omega)
  obtain⟨k,rfl⟩:∃k,s=L.length+1+k:=⟨s - (L.length+1),by omega⟩
  have hcut := wM h (A := [x]) hxs (by simp [Srt]) hB 0 k (by simp) (by omega)
    (by rcases h3 with h3 | h3
        ·left;omega
        · by_cases hk : k = 0
          ·left;exact hk
          · right; right; refine ⟨by omega, by simp, ?_⟩
            rw[←h3];congr 1;simp;omega)
    (Or.inl rfl)
  have hcut2:∀b∈B.drop k,lt b x=false:=by
    have := wM h (A := [x]) hxs (by simp [Srt]) hB 1 k (by simp) (by omega) (Or.inr (Or.inl rfl))
      (by rcases h4 with h4 | h4
          ·right;left;omega
          · by_cases hk : k = B.length
            ·right;left;exact hk
            · right; right; refine ⟨by omega, by omega, ?_⟩
              rw[←h4];congr 1)
    intro b hb;exact this.2 x (by simp) b hb
  refine⟨B.take k++x::B.drop k,?_,?_⟩
  · rw [hm', hb', h5]
    unfold cR;rw[Je _ (by omega) x (B.drop k++R) (B.take k) L a xs ha (by simp;omega) (by rw[hxs,←Zj (B.take k),Zg];simp)];simp
  · have hB' : Srt lt (B.take k ++ B.drop k) := by rw [Zg]; exact hB
    have:=Stb.cat h (A1:=[]) (A2:=[x]) (B1:=B.take k) (B2:=B.drop k) (R1:=B.take k) (R2:=x::B.drop k) (Stb.refl (hB.take k))
      (Stb.refl (by
        unfold Srt;rw[Yd,Zk]
        exact⟨hcut2,hB.drop k⟩)) (by simp[Srt]) hB' (λb hb a ha=>hcut.1 b hb a ha) (by simp)
    simpa using this
theorem Jg (h : Swo lt) (hp : Cmp lt p) {L A R xs : List aa} {y : aa} {a m : Int} (hA0 : 0 < A.length) (ha : a = (L.length : Int)) (hm : m = (L.length : Int) + A.length)
    (hxs:xs=L++A++[y]++R) (hn:xs.length<1152921504606846976) (hA:Srt lt A):
    ∃T,au (λs:(Int×Int)=>bW xs m p s.1 s.2) (a,m)=some (L++T++R)∧Stb lt (A++[y]) T:=by
  have hlen:xs.length=L.length+A.length+1+R.length:=by rw[hxs];simp;omega
  have ey:xs[L.length+A.length]? =some y:=by
    rw[hxs];simp
  have hm':m=((L.length+A.length:Nat):Int):=by omega
  obtain ⟨s,h1,h2,h3,h4,h5⟩:=AL (F:=fun s:(Int×Int)=>bW xs m p s.1 s.2) (fun c=> !gx lt xs (L.length+A.length) c) L.length (L.length+A.length)
    (λs=>cS xs m (s:Int)) (λlo hi h1 h2 h3=>by
      have hc:(lo+hi)/2<xs.length:=by omega
      have ec:xs[(lo+hi)/2]? =some xs[(lo+hi)/2]:=Z5 hc;obtain⟨c,hc1,hc2⟩:=hp y xs[(lo+hi)/2];simp only[bW];rw[if_pos (by simp;omega),wL (by omega),uh ey hm',uh ec (by omega),hc1,Z0,hc2,zH ey ec,am (by omega)]
      split<;>rfl)
    (λs h1 h2=>by
      simp only[bW]
      rw[if_neg (by simp)]) (by omega)
  obtain⟨k,rfl⟩:∃k,s=L.length+k:=⟨s - L.length,by omega⟩
  have hk:k≤A.length:=by omega
  have hcut1:∀a∈A.drop k,lt y a=true:=by
    have := wM h hxs hA (by simp [Srt] : Srt lt [y]) k 1 hk (by simp)
      (by rcases h4 with h4 | h4
          ·right;left;omega
          · by_cases hk' : k = A.length
            ·right;left;exact hk'
            · right; right; refine ⟨by omega, by omega, ?_⟩
              simpa using h4)
      (Or.inr (Or.inl rfl))
    intro a ha;exact this.1 y (by simp) a ha
  have hcut2:∀a∈A.take k,lt y a=false:=by
    have := wM h hxs hA (by simp [Srt] : Srt lt [y]) k 0 hk (by simp) (Or.inl rfl)
      (by rcases h3 with h3 | h3
          ·left;omega
          · by_cases hk' : k = 0
            ·left;exact hk'
            · right; right; refine ⟨by omega, by simp, ?_⟩
              rw[show L.length+(k - 1)=L.length+k - 1 by omega]
              simpa using h3)
    intro a ha;exact this.2 a ha y (by simp)
  refine⟨A.take k++y::A.drop k,?_,?_⟩
  · rw [ha, hm']
    rw[←hm',←ha] at h5 ⊢;rw[h5];unfold cS;rw[Jf _ y (L++A.take k) (by simp;omega) _ (A.drop k) R m xs rfl (by simp;omega) (by rw[hxs];simp) (by omega)];simp
  · have hA' : Srt lt (A.take k ++ A.drop k) := by rw [Zg]; exact hA
    have:=Stb.cat h (A1:=A.take k) (A2:=A.drop k) (B1:=[y]) (B2:=[]) (R1:=A.take k++[y]) (R2:=A.drop k) (Stb.refl (by
        unfold Srt;rw[Zo];refine⟨hA.take k,by simp,λa ha b hb=>?_⟩;rw[X5] at hb;subst hb
        exact hcut2 a ha)) (by simpa using Stb.refl (hA.drop k)) hA' (by simp[Srt]) (λb hb a ha=>by
          rw[X5] at hb;subst hb
          exact hcut1 a ha) (by simp)
    simpa using this
theorem Pz {self_:List aa→Int→Int→Int→(aa→aa→Option Int)→Option (List aa)} {xs:List aa} {a m b s mid e:Int}
    (hmid:mid=(a+b)/2) (he:e=mid+m - s) (h0:0≤a) (h1:0≤m) (h2:0≤b) (h3:0≤s) (ha:a<1152921504606846976) (hb:b<1152921504606846976) (hm:m<1152921504606846976) (hs:s<1152921504606846976):
    cp xs a m b p self_ s=(if s<m∧m<e then cA xs s m e p else some xs).bind λr=>
      (if a<s∧s<mid then self_ r a s mid p else some r).bind λr2=>(if mid<e∧e<b then self_ r2 mid e b p else some r2):=by
  have hM:Zb.wrap (ay .u64 (X6.wrap (Zb.wrap (a+b))) 1)=mid:=by rw[wL (by omega),hmid]
  have hN:Zb.wrap (mid+m)=mid+m:=am (by omega);have hE:Zb.wrap (mid+m - s)=e:=by rw[am (by omega),he]
  have h11:∀r2,cj a m b p self_ s r2=(if mid<e∧e<b then self_ r2 mid e b p else some r2):=by
    intro r2;simp only[cj,cM,hM,hN,hE]
    by_cases c1:mid<e<;>by_cases c2:e<b<;>simp[c1,c2]
  have h9:∀r,cm a m b p self_ s r=(if a<s∧s<mid then self_ r a s mid p else some r).bind λr2=>(if mid<e∧e<b then self_ r2 mid e b p else some r2):=by
    intro r;simp only[cm,cT,hM,h11]
    by_cases c1:a<s<;>by_cases c2:s<mid<;>simp[c1,c2]
  simp only[cp,cU,hM,hN,hE,h9]
  by_cases c1:s<m<;>by_cases c2:m<e<;>simp[c1,c2]
end
end Go.Proofs.YthbonoagbeilkaaGreat.Hay
