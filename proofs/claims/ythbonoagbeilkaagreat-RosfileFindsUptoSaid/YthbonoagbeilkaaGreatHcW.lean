import Derived.Test.YthbonoagbeilkaaGreatExX
import Derived.Test.YthbonoagbeilkaaGreatHbM
namespace Go.Proofs.YthbonoagbeilkaaGreat.Hay
open Option renaming bind_some→Z0,getD_some→Xe,bind_assoc→Y0
open List renaming take_succ_eq_append_getElem→Z1,getElem_mem→Z2,length_append→Z3,take_length→Z4,getElem?_eq_getElem→Z5,length_singleton→Z6,length_cons→Z7,replicate→Z9,eq_nil_of_length_eq_zero→Za,mem_append→Zd,mem_of_mem_take→Zf,take_append_drop→Zg,drop_eq_getElem_cons→Zh,length_pos_iff→Zi,append_assoc→Zj,pairwise_cons→Zk,length_take→Zl,pairwise_append→Zo,length_map→Zp,mem_cons→Zq,getD_eq_getElem?_getD→Zu,range→Zw,flatMap_cons→Zx,foldl_cons→Zy,nil_append→Zz,mem_map→X3,mem_singleton→X5,mem_of_getLast?→X7,pairwise_iff_getElem→X8,getElem?_eq_some_iff→X9,flatMap_append→Xa,cons_append→Xc,drop_zero→Xf,drop_left→Xg,getElem?_drop→Xh,take_of_length_le→Xi,take_left'→Xj,append_nil→Xk,foldl_append→Xl,length_range→Xm,length_replicate→Xn,dropLast_concat_getLast→Xq,getElem?_append_right→Xv,getLast?_eq_none_iff→Xx,getLast?_eq_getElem?→Xy,map_append→Xz,getElem?_append_left→Y1,mem_replicate→Y3,eq_of_mem_replicate→Y5,drop_drop→Y7,flatMap_singleton→Y9,map_cons→Yc,singleton_append→Yd,getElem?_eq_none→Ye,range_succ→Yg,map_nil→Yh
open Nat renaming le_refl→Zn,lt_of_lt_of_le→Zt,mul_le_mul→Zv,strongRecOn→Xb,testBit_xor→Xd,pow_le_pow_right→Xo,eq_of_testBit_eq→Xp,two_pow_add_eq_or_of_lt→Xr,mod_two_eq_zero_or_one→Xu,testBit_succ→Y8,xor_comm→Yj
open Bool renaming false_eq_true→Z8,not_true→Xw,not_false→Y6,not_eq_true→Ya,true_and→Yb
open Int renaming eq_ofNat_of_zero_le→Zc,tmod_eq_emod_of_nonneg→Zr,tdiv_eq_ediv_of_nonneg→Zs,fdiv_eq_ediv_of_nonneg→X4,natCast_pow→Xt,toNat_natCast→Y2,emod_eq_of_lt→Y4,le_of_lt→Yi
open BitVec renaming ofInt→Ze,toNat_ofInt→Zm
open Prod renaming ext→Yk
open IntKind renaming i64→Zb,u64→X6,u32→Xs,u8→Yf
theorem Ei: ∀s:List Int,ltB s s=false
 |[]=>rfl
 |a::x=>by simp [ltB,Ei x]
theorem Bb: ∀{s u v:List Int},ltB s u=true→ltB u v=true→ltB s v=true
 |_,[],_,h,_=>by simp [ltB] at h
 |_,_::_,[],_,h=>by simp [ltB] at h
 |[],_::_,_::_,_,_=>rfl
 | a :: x, b :: y, c :: z, h, k => by
  simp only [ltB,Bool.or_eq_true,decide_eq_true_eq,Bool.and_eq_true,beq_iff_eq] at*;rcases h with h|⟨rfl,h⟩
  ·rcases k with k|⟨rfl,k⟩
   ·left;omega
   ·left;exact h
  ·rcases k with k|⟨rfl,k⟩
   ·left;exact k
   ·right;exact ⟨rfl,Bb h k⟩
theorem Ej: ∀{s u:List Int},ltB s u=false→ltB u s=false→s=u
 |[],[],_,_=>rfl
 |[],_::_,h,_=>by simp [ltB] at h
 |_::_,[],_,h=>by simp [ltB] at h
 |a::x,b::y,h,k=>by
  simp only [ltB,Bool.or_eq_false_iff,decide_eq_false_iff_not] at h k;have e:a=b:=by omega
  subst e;simp only [beq_self_eq_true,Yb] at h k;rw [Ej h.2 k.2]
def ltV (a b:Ap):Bool:=
 if a.fKind != b.fKind then decide (a.fKind<b.fKind) else if a.fKind==1 then !a.fBool&&b.fBool else if a.fKind==2 then decide (a.fInt<b.fInt) else
 if a.fKind==3 then ltB a.fText b.fText else false
theorem Ek (a b:Ap):qY a b=some (ltV a b):=by
 unfold qY kK oK ltV
 repeat' split
 all_goals simp_all
theorem pu (a:Ap):ltV a a=false:=by
 unfold ltV
 repeat' split
 all_goals simp_all [Ei]
theorem sG {a b c:Ap} (h:ltV a b=true) (k:ltV b c=true):ltV a c=true:=by
 obtain ⟨ka,ba,na,ta⟩:=a;obtain ⟨kb,bb,nb,tb⟩:=b;obtain ⟨kc,bc,nc,tc⟩:=c;simp only [ltV] at*
 by_cases e1:ka=kb
 ·subst e1
  by_cases e2:ka=kc
  ·subst e2
   by_cases e1:ka=1
   ·subst e1;cases ba<;>cases bb<;>cases bc<;>simp_all
   by_cases e2:ka=2
   ·subst e2;simp at*;omega
   by_cases e3:ka=3
   ·subst e3;simp at*;exact Bb h k
   ·have h1:(ka==1)=false:=by simpa using e1
    have h2:(ka==2)=false:=by simpa using e2
    have h3:(ka==3)=false:=by simpa using e3
    simp [h1,h2,h3] at h
  ·have:(ka != kc)=true:=by simpa using e2
   simp only [this,if_true] at*;exact k
 ·have h1:(ka != kb)=true:=by simpa using e1
  simp only [h1,if_true,decide_eq_true_eq] at h
  by_cases e2:kb=kc
  ·subst e2;simp only [h1,if_true,decide_eq_true_eq];exact h
  ·have h2:(kb != kc)=true:=by simpa using e2
   simp only [h2,if_true,decide_eq_true_eq] at k;have h3:(ka != kc)=true:=by simp;omega
   simp only [h3,if_true,decide_eq_true_eq];omega
theorem qZ {a b:Ap} (ha:Rgt a) (hb:Rgt b) (h:ltV a b=false) (k:ltV b a=false):a=b:=by
 cases ha<;>cases hb<;>simp [ltV] at h k
 ·rfl
 ·rename_i x y;cases x<;>cases y<;>simp_all
 ·have: ∀x y:Int,x=y→iH x=iH y:=fun x y h=>by rw [h]
  apply this;omega
 ·rw [Ej h k]
def ku (a b:Ap):Int:=if ltV a b then -1 else if ltV b a then 1 else 0
theorem pw (a b:Ap):jz a b=some (ku a b):=by
 unfold jz ku;rw [Ek,Ek,Z0,Z0];cases ltV a b<;>cases ltV b a<;>rfl
theorem eJ (a b:Ap):cD a b=some (ku a b):=by
 unfold cD fp il iw k9 jy lM eo ku sR;simp only [bne_self_eq_false,Z0,Z8,if_false];obtain ⟨ka,ba,na,ta⟩:=a;obtain ⟨kb,bb,nb,tb⟩:=b;simp only [ltV]
 by_cases e:ka=kb
 ·subst e
  simp only [bne_self_eq_false,Z8,if_false]
  by_cases e1:ka=1
  ·subst e1;cases ba<;>cases bb<;>simp
  ·have h1:(ka==1)=false:=by simpa using e1
   simp only [h1,Z8,if_false]
   by_cases e2:ka=2
   ·subst e2;simp
    repeat' split
    all_goals rfl
   ·have h2:(ka==2)=false:=by simpa using e2
    simp only [h2,Z8,if_false]
    by_cases e3:ka=3
    ·subst e3;simp
    ·have h3:(ka==3)=false:=by simpa using e3
     simp [h3]
 ·have h1:(ka != kb)=true:=by simpa using e
  have h2:(kb != ka)=true:=by simp;omega
  simp only [h1,h2,if_true,decide_eq_true_eq]
  repeat' split
  all_goals rfl
theorem rJ {a b:Ap} (h:ltV a b=true):ltV b a=false:=by
 cases k:ltV b a with
 |false=>rfl
 |true=>have:=sG h k;rw [pu] at this;cases this
theorem kW (a b:Ap):ku a b<0↔ltV a b=true:=by
 unfold ku
 repeat' split
 all_goals simp_all
theorem Em (a b:Ap):ku a b≤0↔ltV b a=false:=by
 unfold ku;split
 ·rename_i h;simp [rJ h]
 ·split
  ·rename_i h;simp [h]
  ·rename_i h;simpa using h
theorem Bc {a b:Ap} (ha:Rgt a) (hb:Rgt b):ku a b=0↔a=b:=by
 unfold ku;constructor
 ·intro h
  split at h
  ·cases h
  split at h
  ·cases h
  rename_i h1 h2;exact qZ ha hb (by simpa using h1) (by simpa using h2)
 ·rintro rfl;rw [pu];rfl
theorem LK {l:List Ap} (h: ∀v∈l,Rgt v):HY cD l:=by
 refine ⟨fun x _ y _=>⟨_,eJ x y,?_⟩,fun x _=> ?_,fun x _ y _ z _ h1 h2=> ?_,fun x hx y hy z hz h1 h2 h3=> ?_,fun x hx y hy h1 h2=> ?_⟩
 ·rw [mL];unfold ku
  repeat' split
  all_goals decide
 ·rw [eJ];simp only [Xe];rw [kW,pu];decide
 ·rw [eJ] at*
  simp only [Xe,kW] at*;exact sG h1 h2
 ·rw [eJ] at*
  simp only [Xe,kW,Ya] at*;cases hyx:ltV y x with
  |true=>have:=sG hyx h3;rw [h2] at this;cases this
  |false=>have:=qZ (h x hx) (h y hy) h1 hyx;subst this;rw [h2] at h3;cases h3
 ·rw [eJ] at*
  simp only [Xe,kW,Ya] at*;exact qZ (h x hx) (h y hy) h1 h2
abbrev Ris (l:List Ap):Prop:=l.Pairwise fun a b=>ltV a b=true
theorem Ris.one: ∀{l k:List Ap},Ris l→Ris k→(∀v,v∈l↔v∈k)→l=k
 |[],[],_,_,_=>rfl
 |[],b::k,_,_,h=>by have:=(h b).2 (by simp);cases this
 |a::l,[],_,_,h=>by have:=(h a).1 (by simp);cases this
 | a :: l, b :: k, hl, hk, h => by
  have hl':=Zk.1 hl;have hk':=Zk.1 hk
  have e:a=b:=by
   have h1:=(h a).1 (by simp);have h2:=(h b).2 (by simp);rcases Zq.1 h1 with h1|h1
   ·exact h1
   rcases Zq.1 h2 with h2|h2
   ·exact h2.symm
   have:=rJ (hk'.1 a h1);rw [hl'.1 b h2] at this;cases this
  subst e;congr 1;refine Ris.one hl'.2 hk'.2 fun v=> ?_;have hv:=h v;simp only [Zq] at hv;constructor
  ·intro hm
   rcases hv.1 (.inr hm) with e|e
   ·subst e;have:=hl'.1 v hm;rw [pu] at this;cases this
   ·exact e
  ·intro hm
   rcases hv.2 (.inr hm) with e|e
   ·subst e;have:=hk'.1 v hm;rw [pu] at this;cases this
   ·exact e
theorem Ris.nodup {l:List Ap} (h:Ris l):l.Nodup:=h.imp fun {a b} h e=>by subst e;rw [pu] at h;cases h
def ins (v:Ap):List Ap→List Ap
 |[]=>[v]
 |x::r=>if ltV x v then x::ins v r else if v=x then x::r else v::x::r
theorem Af (v:Ap): ∀(l:List Ap) (x:Ap),x∈ins v l↔x=v∨x∈l
 |[],x=>by simp [ins]
 | y :: r, x => by
  simp only [ins];split
  ·simp only [Zq,Af v r x]
   constructor<;>(intro h;rcases h with h|h|h<;>simp [h])
  split
  ·rename_i e;subst e;simp
  ·simp
theorem En (v:Ap) (hv:Rgt v): ∀{l:List Ap},(∀x∈l,Rgt x)→Ris l→Ris (ins v l)
 |[],_,_=>by simp [ins]
 | y :: r, hr, h => by
  have h':=Zk.1 h;simp only [ins];split
  ·rename_i hlt
   refine Zk.2 ⟨fun x hx=> ?_,En v hv (fun x hx=>hr x (by simp [hx])) h'.2⟩;rcases (Af v r x).1 hx with e|e
   ·subst e;exact hlt
   ·exact h'.1 x e
  split
  ·exact h
  ·rename_i h1 h2
   have hvy:ltV v y=true:=by
    cases h3:ltV v y with
    |true=>rfl
    |false=>exact absurd (qZ hv (hr y (by simp)) h3 (by simpa using h1)) h2
   refine Zk.2 ⟨fun x hx=> ?_,h⟩;rcases Zq.1 hx with e|e
   ·subst e;exact hvy
   ·exact sG hvy (h'.1 x e)
def aP (l:List Ap):List Ap:=l.foldl (fun out v=>ins v out) []
theorem Fl (l:List Ap) (v:Ap):aP (l++[v])=ins v (aP l):=by simp [aP]
theorem y8 {l:List Ap} {i:Nat} (h:i<l.length):aP (l.take (i+1))=ins l[i] (aP (l.take i)):=by
 rw [Z1 h,Fl]
theorem fj {l:List Ap} (h: ∀v∈l,Rgt v):Ris (aP l)∧(∀v,v∈aP l↔v∈l)∧(aP l).length≤l.length:=by
 have key : ∀ i, i ≤ l.length → Ris (aP (l.take i)) ∧ (∀ v, v ∈ aP (l.take i) ↔ v ∈ l.take i) ∧ (aP (l.take i)).length ≤ i := by
  intro i
  induction i with
  |zero=>intro _;simp [aP]
  | succ i ih =>
   intro hi;obtain ⟨h1,h2,h3⟩:=ih (by omega);have hlt:i<l.length:=by omega
   rw [y8 hlt];have hr: ∀x∈aP (l.take i),Rgt x:=fun x hx=>h x (Zf ((h2 x).1 hx));refine ⟨En _ (h _ (Z2 hlt)) hr h1,fun v=> ?_,?_⟩
   ·rw [Af,h2,Z1 hlt,Zd,X5]
    exact or_comm
   ·have: ∀(v:Ap) (l:List Ap),(ins v l).length≤l.length+1:=by
     intro v l
     induction l with
     |nil=>simp [ins]
     |cons y r ih=>
      simp only [ins]
      repeat' split
      all_goals simp
      omega
    have:=this l[i] (aP (l.take i));omega
 have:=key l.length (Zn _);rwa [Z4] at this
def px (v:Ap) (s:List Ap×Bool) (x:Ap):List Ap×Bool:=
 if !s.2&&decide (ku v x≤0) then (if ku v x=0 then (s.1++[v],true) else (s.1++[v]++[x],true)) else (s.1++[x],s.2)
theorem wg (v:Ap): ∀(l a:List Ap),l.foldl (px v) (a,true)=(a++l,true)
 |[],a=>by simp
 |x::r,a=>by simp [px,wg v r]
theorem Eo (v:Ap) (hv:Rgt v): ∀(l a:List Ap),(∀x∈l,Rgt x)→(if (l.foldl (px v) (a,false)).2 then (l.foldl (px v) (a,false)).1 else (l.foldl (px v) (a,false)).1++[v])=a++ins v l
 |[],a,_=>by simp [ins]
 | x :: r, a, h => by
  simp only [Zy,px,ins];cases hx:ltV x v with
  |true=>
   have: ¬ ku v x≤0:=by rw [Em,hx];decide
   simp only [this,decide_false,Bool.and_false,Z8,if_false,if_true];rw [Eo v hv r (a++[x]) (fun y hy=>h y (by simp [hy]))];simp
  | false =>
   have h1:ku v x≤0:=(Em v x).2 hx
   by_cases e:ku v x=0
   ·have e2:=(Bc hv (h x (by simp))).1 e
    subst e2;simp [e,wg]
   ·have e2:v≠x:=fun e2=>e ((Bc hv (h x (by simp))).2 e2)
    simp [h1,e,e2,wg]
theorem py (v:Ap): ∀(l a:List Ap) (d:Bool),(l.foldl (px v) (a,d)).1.length≤a.length+l.length+(if d then 0 else 1)
 |[],a,d=>by simp
 | x :: r, a, d => by
  simp only [Zy,px];cases d
  ·simp only [Y6,Yb]
   split
   ·split
    ·have:=py v r (a++[v]) true;simp at this ⊢;omega
    ·have:=py v r (a++[v]++[x]) true;simp at this ⊢;omega
   ·have:=py v r (a++[x]) false;simp at this ⊢;omega
  ·have:=py v r (a++[x]) true
   simp at this ⊢;omega
theorem iI {α β:Type} {f:β→α→β} {b:β} {l:List α} {i:Nat} (h:i<l.length):(l.take (i+1)).foldl f b=f ((l.take i).foldl f b) l[i]:=by
 rw [Z1 h,Xl];rfl
theorem C0 {l:List Ap} (h: ∀v∈l,Rgt v) (hl:l.length<1048576):yd l=some (aP l):=by
 unfold yd;refine aW (fun i=>(aP (l.take i),(i:Int))) l.length (by simp [aP]) (fun i hi=> ?_) ?_
 ·dsimp only
  unfold s8;obtain ⟨h1,h2,h3⟩:=fj (l:=l.take i) fun v hv=>h v (Zf hv);have h3':(aP (l.take i)).length≤i:=by simp at h3;omega
  have hr: ∀x∈aP (l.take i),Rgt x:=fun x hx=>h x (Zf ((h2 x).1 hx));have hv:=h l[i] (Z2 hi);rw [if_pos (by simpa using hi)];generalize hw:aP (l.take i)=W at*;have hfin:=Eo l[i] hv W [] hr;refine aW (fun k=>(((W.take k).foldl (px l[i]) ([],false)).1,((W.take k).foldl (px l[i]) ([],false)).2,(k:Int))) W.length (by simp) (fun k hk=> ?_) ?_
  ·dsimp only
   have hlen:=py l[i] (W.take k) [] false;simp only [List.length_nil,Zl,Z8,if_false] at hlen;unfold s7 s6 s5 s4;rw [if_pos (by simpa using hk),aA hi,Z0,aA hk,Z0,pw,Z0,aV (by omega),iI hk];generalize hs:(W.take k).foldl (px l[i]) ([],false)=s at*;obtain ⟨s1,s2⟩:=s;simp only [px] at*;cases s2
   ·simp only [Y6,if_true,Yb,Z0]
    by_cases e:ku l[i] W[k]≤0
    ·simp only [e,decide_true,if_true]
     rw [aJ (by simp;omega),Z0]
     by_cases e0:ku l[i] W[k]=0
     ·rw [if_pos (by simpa using e0),if_pos e0]
     ·rw [if_neg (by simpa using e0),if_neg e0,aJ (by simp;omega),Z0]
    ·simp only [e,decide_false,Z8,if_false]
     rw [aJ (by simp;omega),Z0]
   ·simp only [Xw,Z8,if_false,Bool.false_and,Z0]
    rw [aJ (by simp;omega),Z0]
  ·dsimp only
   have hlen:=py l[i] W [] false;simp only [List.length_nil,Z8,if_false] at hlen;unfold s7 xz sZ xy;rw [if_neg (by simp),Z4,aV (by omega),y8 hi,hw];rw [show ([]:List Ap)++ins l[i] W=ins l[i] W from rfl] at hfin;rw [←hfin];cases hd:(W.foldl (px l[i]) ([],false)).2
   ·simp only [Y6,if_true,Z8,if_false]
    rw [aA hi,Z0,aJ (by simp;omega)];rfl
   ·simp
 ·dsimp only
  unfold s8 xw;rw [if_neg (by simp),Z4];rfl
def dd (s:List Ap):List Ap:=s.foldl (fun out v=>if out.getLast?=some v then out else out++[v]) []
theorem Ag (s:List Ap) (v:Ap):dd (s++[v])=if (dd s).getLast?=some v then dd s else dd s++[v]:=by
 unfold dd;rw [Xl];rfl
theorem Ep (s:List Ap) {i:Nat} (h:i<s.length):(dd (s.take (i+1))).getLast?=some s[i]:=by
 rw [Z1 h,Ag];split
 ·assumption
 ·simp
theorem Ah (s:List Ap) {i:Nat} (h:i+1<s.length):dd (s.take (i+2))=if s[i+1]=s[i] then dd (s.take (i+1)) else dd (s.take (i+1))++[s[i+1]]:=by
 rw [Z1 h,Ag,Ep s (by omega)]
 by_cases e:s[i+1]=s[i]
 ·rw [if_pos e,if_pos (by rw [e])]
 ·rw [if_neg e,if_neg (fun h=>e (Option.some.inj h).symm)]
theorem LL (s:List Ap) (h:0<s.length):dd (s.take 1)=s.take 1:=by
 match s,h with
 |a::r,_=>rfl
theorem Ko {s : List Ap} (hr : ∀ x ∈ s, Rgt x) (h : s.Pairwise fun x y => ltV y x = false) : Ris (dd s) ∧ (∀ v, v ∈ dd s ↔ v ∈ s) := by
 have key : ∀ i, i ≤ s.length → Ris (dd (s.take i)) ∧ (∀ v, v ∈ dd (s.take i) ↔ v ∈ s.take i) := by
  intro i
  induction i with
  |zero=>intro _;simp [dd]
  | succ i ih =>
   intro hi;obtain ⟨h1,h2⟩:=ih (by omega);have hlt:i<s.length:=by omega
   rw [Z1 hlt,Ag];split
   ·rename_i e
    refine ⟨h1,fun v=> ?_⟩;rw [h2,Zd,X5];constructor
    ·exact .inl
    ·rintro (hm|rfl)
     ·exact hm
     ·exact (h2 _).1 (X7 e)
   ·rename_i e
    refine ⟨Zo.2 ⟨h1,by simp,fun a ha b hb=> ?_⟩,fun v=>by rw [Zd,Zd,h2]⟩;have hb':b=s[i]:=by simpa using hb
    subst hb';have ha':=(h2 a).1 ha
    -- a is ahead of s[i] in s
    obtain ⟨j,hj,rfl⟩:=List.getElem_of_mem ha';simp only [Zl] at hj;have hge:ltV s[i] s[j]=false:=X8.1 h j i (by omega) hlt (by omega);rw [List.getElem_take] at ha ⊢;cases hlt2:ltV s[j] s[i] with
    |true=>rfl
    | false =>
     have e2:=qZ (hr _ (Z2 (by omega))) (hr _ (Z2 hlt)) hlt2 hge;exfalso;apply e;have hi0:0<i:=by omega
     obtain ⟨i',rfl⟩: ∃i',i=i'+1:=⟨i - 1,by omega⟩
     rw [Ep s (by omega)]
     -- s[j] <= s[i'] <= s[i' + 1] = s[j]
     congr 1;apply qZ (hr _ (Z2 (by omega))) (hr _ (Z2 hlt))
     ·cases h3:ltV s[i'] s[i'+1] with
      |false=>rfl
      | true =>
       rw [←e2] at h3
       by_cases e3:j=i'
       ·subst e3;rw [pu] at h3;cases h3
       ·have:=X8.1 h j i' (by omega) (by omega) (by omega)
        rw [this] at h3;cases h3
     ·exact X8.1 h i' (i'+1) (by omega) hlt (by omega)
 have:=key s.length (Zn _);rwa [Z4] at this
theorem Fm (s:List Ap) (hs:s.length<1048576):d3 s=some (dd s):=by
 unfold d3
 by_cases h2:s.length<2
 ·rw [if_pos (by simpa using by omega)]
  match s,h2 with
  |[],_=>rfl
  |[a],_=>rfl
 rw [if_neg (by simpa using by omega)];refine oa (I:=fun s':Int=> ∃i:Nat,s'=((i+1:Nat):Int)∧i+1≤s.length∧dd (s.take (i+1))=s.take (i+1)) (μ:=fun x=>s.length - x.toNat) ?_ ⟨0,rfl,by omega,LL s (by omega)⟩;rintro _ ⟨i,rfl,hi,hd⟩;unfold fM
 by_cases hlt:i+1<s.length
 ·have e1 : Zb.wrap (((i + 1 : Nat) : Int) - 1) = (i : Int) := by rw [ak (by omega)]; omega
  rw [if_pos (by simpa using by omega),nN hlt,Z0,Z5 hlt,Z0,e1,nN (by omega),Z0,Z5 (by omega),Z0]
  by_cases e:s[i+1]=s[i]
  ·right
   rw [if_pos (by simpa using e)]
   have hv:vw s ((i+1:Nat):Int) (s.length:Int)=some (i+1,s.length - (i+1)):=by
    unfold vw;rw [if_pos (by omega)];simp only [Y2]
   rw [hv,Z0];refine oa (I:=fun t:Int×Int×List Ap=> ∃p k2:Nat,p=i+1+k2∧1≤k2∧p≤s.length∧t.1=((dd (s.take p)).length:Int)∧t.2.1=(k2:Int)∧t.2.2.length=s.length∧(dd (s.take p)).length+1≤p∧t.2.2.take (dd (s.take p)).length=dd (s.take p)∧t.2.2.drop (p - 1)=s.drop (p - 1)) (μ:=fun t=>s.length - t.2.1.toNat) ?_ ?_
   ·rintro ⟨t1,t2,xs⟩ ⟨p,k2,hp,hk2,hps,rfl,rfl,hxl,hdl,htk,hdr⟩
    unfold fK;have hm:Nat.ble (s.length - (i+1)) cO=true:=Nat.ble_eq_true_of_le (by unfold cO;omega);dsimp only at*;rw [rF hm,Z0]
    by_cases hlt2:p<s.length
    ·left
     have hx1:xs[p]? =some s[p]:=by
      have:(xs.drop (p - 1))[1]? =(s.drop (p - 1))[1]? :=by rw [hdr]
      rw [Xh,Xh] at this;have e:p - 1+1=p:=by omega
      rw [e] at this;rw [this,Z5 hlt2]
     have hx0:xs[p - 1]? =some s[p - 1]:=by
      have:(xs.drop (p - 1))[0]? =(s.drop (p - 1))[0]? :=by rw [hdr]
      rw [Xh,Xh] at this;rw [Nat.add_zero] at this;rw [this,Z5 (by omega)]
     have e2:ixv (i+1) (s.length - (i+1)) (k2:Int)=some p:=by unfold ixv;rw [if_pos (by omega)];simp;omega
     have e3:ixv (i+1) (s.length - (i+1)) (Zb.wrap ((k2:Int) - 1))=some (p - 1):=by
      rw [ak (by omega)];unfold ixv;rw [if_pos (by omega)];simp;omega
     have hst:=Ah s (i:=p - 1) (by omega);have e4:p - 1+1=p:=by omega
     have e5:p - 1+2=p+1:=by omega
     simp only [e4,e5] at hst;rw [if_pos (by simpa using by omega),e2,Z0,hx1,Z0,e3,Z0,hx0,Z0]
     by_cases e6:s[p]=s[p - 1]
     ·rw [if_pos e6] at hst
      rw [if_neg (by simpa using e6)];unfold dA;refine ⟨_,rfl,⟨p+1,k2+1,by omega,by omega,by omega,by rw [hst],?_,hxl,by rw [hst];omega,by rw [hst];exact htk,?_⟩,?_⟩
      ·exact aV (by omega)
      ·have:p+1 - 1=p - 1+1:=by omega
       rw [this, ←Y7, ←Y7,hdr]
      ·dsimp only;rw [aV (by omega)];simp;omega
     ·rw [if_neg e6] at hst
      rw [if_pos (by simpa using e6)];have hkl:(dd (s.take p)).length<xs.length:=by omega
      rw [Z0,hx1,Z0,nN hkl,Z0,Z5 hkl,Z0];unfold dA;refine ⟨_,rfl,⟨p+1,k2+1,by omega,by omega,by omega,?_,aV (by omega),by simp [hxl],by rw [hst];simp;omega,?_,?_⟩,?_⟩
      ·rw [hst,aV (by omega)];simp
      ·rw [hst]
       simp only [Z3,Z6];rw [Z1 (by simp;omega)];rw [List.take_set_of_le (Zn _),htk];simp
      ·rw [List.drop_set_of_lt (by omega)]
       have:p+1 - 1=p - 1+1:=by omega
       rw [this, ←Y7, ←Y7,hdr]
      ·dsimp only;rw [aV (by omega)];simp;omega
    ·right
     have hps':p=s.length:=by omega
     subst hps';rw [if_neg (by simpa using by omega)];unfold fJ;rw [Z4] at*
     have hv2:vw xs ((dd s).length:Int) (xs.length:Int)=some ((dd s).length,xs.length - (dd s).length):=by
      unfold vw;rw [if_pos (by omega)];simp only [Y2]
     rw [hv2,Z0];unfold clr;rw [if_pos (by dsimp only;omega),Z0]
     have hsp:(spl xs (dd s).length (Z9 (xs.length - (dd s).length) Ap.zero)).length=xs.length:=by
      unfold spl;simp;omega
     have:=ek (xs:=spl xs (dd s).length (Z9 (xs.length - (dd s).length) Ap.zero)) (lo:=0) (hi:=(dd s).length) (by omega) (by omega);rw [show ((0:Nat):Int)=0 from rfl] at this;rw [this]
     have e7:(spl xs (dd s).length (Z9 (xs.length - (dd s).length) Ap.zero)).take (dd s).length=dd s:=by
      unfold spl;rw [Zj,Xj (by simp;omega)];exact htk
     rw [Xf,e7];rfl
   ·have hst:=Ah s (i:=i) (by omega)
    rw [if_pos e,hd] at hst;refine ⟨i+2,1,by omega,by omega,by omega,?_,rfl,rfl,?_,?_,rfl⟩
    ·rw [hst];simp;omega
    ·rw [hst];simp;omega
    ·rw [hst];simp
  ·left
   rw [if_neg (by simpa using e)];unfold fI;refine ⟨_,rfl,⟨i+1,aV (by omega),by omega,?_⟩,?_⟩
   ·rw [Ah s (i:=i) (by omega),if_neg e,hd]
    exact (Z1 hlt).symm
   ·rw [aV (by omega)];simp;omega
 ·right
  have:i+1=s.length:=by omega
  rw [if_neg (by simpa using by omega)];rw [this,Z4] at hd;unfold fH;rw [hd];rfl
theorem y9 {l:List Ap} (h: ∀v∈l,Rgt v) (hl:l.length<1048576): ∃r,j9 l cD=some r∧d3 r=some (aP l):=by
 obtain ⟨r,hr⟩: ∃r,w5 cD l=some r:=by
  unfold w5;rw [if_pos (LK h)];exact ⟨_,rfl⟩
 obtain ⟨_,hp,hs⟩:=yE hr;refine ⟨r,hr,?_⟩;rw [Fm r (by rw [hp.length_eq];exact hl)];congr 1;have hr': ∀x∈r,Rgt x:=fun x hx=>h x (hp.mem_iff.1 hx)
 have hs':r.Pairwise fun x y=>ltV y x=false:=hs.imp fun {x y} h=>by
  rw [eJ] at h;simp only [Xe,kW,Ya] at h;exact h
 obtain ⟨h1,h2⟩:=Ko hr' hs';obtain ⟨h3,h4,_⟩:=fj h;exact Ris.one h1 h3 fun v=>by rw [h2,h4,hp.mem_iff]
theorem GH {α β σ:Type} {f:σ→Option (σ⊕β)} {s:σ} (S:Nat→σ) (xs:List α) (p:α→Bool) (b0 b1:β) (h0:s=S 0) (step: ∀(i:Nat) (h:i<xs.length),p xs[i]=true→f (S i)=some (.inl (S (i+1))))
  (out: ∀(i:Nat) (h:i<xs.length),p xs[i]=false→f (S i)=some (.inr b0)) (fin:f (S xs.length)=some (.inr b1)):aq f s=some (if xs.all p then b1 else b0):=by
 have key: ∀k i:Nat,i+k=xs.length→aq f (S i)=some (if (xs.drop i).all p then b1 else b0):=by
  intro k
  induction k with
  |zero=>
   intro i hi;have:i=xs.length:=by omega
   subst this;rw [a7 fin];simp
  |succ k ih=>
   intro i hi;have hlt:i<xs.length:=by omega
   rw [Zh hlt,List.all_cons];cases hp:p xs[i] with
   |true=>rw [bO (step i hlt hp),ih (i+1) (by omega)];simp
   |false=>rw [a7 (out i hlt hp)];simp
 have:=key xs.length 0 (by omega);rw [h0];simpa using this
def wh (out:List aU) (v:Ap):List aU:=
 match out.getLast? with
 |some r=>if r.fValue=v then out.dropLast++[⟨r.fMany+1,v⟩] else out++[⟨1,v⟩]
 |none=>[⟨1,v⟩]
def bW (l:List Ap):List aU:=l.foldl wh []
def gC (l:List aU):List Ap:=l.flatMap fun r=>Z9 r.fMany.toNat r.fValue
theorem qL {l:List Ap} {i:Nat} (h:i<l.length):bW (l.take (i+1))=wh (bW (l.take i)) l[i]:=iI h
theorem GI (out:List aU) (v:Ap): ∃n,(wh out v).getLast?=some ⟨n,v⟩:=by
 unfold wh;split
 ·rename_i r _
  split
  ·exact ⟨r.fMany+1,by simp⟩
  ·exact ⟨1,by simp⟩
 ·exact ⟨1,by simp⟩
theorem qs {α:Type} {l:List α} {a:α} (h:l.getLast?=some a):l=l.dropLast++[a]:=by
 cases l with
 |nil=>cases h
 |cons x r=>
  have h1:(x::r).getLast (by simp)=a:=by rw [List.getLast?_eq_some_getLast (by simp)] at h;exact Option.some.inj h
  rw [←h1,Xq]
theorem wj (l:List Ap) {i:Nat} (hi:i≤l.length):(∀r∈bW (l.take i),1≤r.fMany∧r.fMany≤i∧r.fValue∈l)∧(bW (l.take i)).length≤i∧gC (bW (l.take i))=l.take i:=by
 induction i with
 |zero=>simp [bW,gC]
 | succ i ih =>
  obtain ⟨h1,h2,h3⟩:=ih (by omega);have hlt:i<l.length:=by omega
  rw [qL hlt,Z1 hlt];generalize hw:bW (l.take i)=W at*;unfold wh;have hm:=Z2 hlt;split
  ·rename_i r hr
   split
   ·rename_i e
    have hsp:=qs hr;have hrm:r∈W:=X7 hr;obtain ⟨g1,g2,g3⟩:=h1 r hrm;refine ⟨fun x hx=> ?_,?_,?_⟩
    ·rcases Zd.1 hx with hx|hx
     ·have:=h1 x (by rw [hsp];exact List.mem_append_left _ hx);exact ⟨this.1,by omega,this.2.2⟩
     ·have:x=⟨r.fMany+1,l[i]⟩:=by simpa using hx
      subst this;exact ⟨by simp;omega,by simp;omega,hm⟩
    ·have:W.length=W.dropLast.length+1:=by rw [hsp];simp
     simp;omega
    ·rw [←h3]
     have e1:gC W=gC W.dropLast++Z9 r.fMany.toNat r.fValue:=by
      conv=>lhs;rw [hsp]
      simp [gC]
     rw [e1];have e2:(r.fMany+1).toNat=r.fMany.toNat+1:=by omega
     simp [gC,e2,List.replicate_succ',e]
   ·refine ⟨fun x hx=> ?_,by simp;omega,?_⟩
    ·rcases Zd.1 hx with hx|hx
     ·have:=h1 x hx;exact ⟨this.1,by omega,this.2.2⟩
     ·have:x=⟨1,l[i]⟩:=by simpa using hx
      subst this;exact ⟨by simp,by simp;omega,hm⟩
    ·rw [←h3];simp [gC]
  ·rename_i hr
   have:W=[]:=Xx.1 hr;subst this;refine ⟨fun x hx=> ?_,by simp,?_⟩
   ·have:x=⟨1,l[i]⟩:=by simpa using hx
    subst this;exact ⟨by simp,by simp;omega,hm⟩
   ·rw [←h3];simp [gC]
theorem IH {α:Type} (l:List α) (a:α) (n:Nat) (h:l.length=n+1):l.set n a=l.dropLast++[a]:=by
 apply List.ext_getElem
 ·simp;omega
 intro j h1 h2;rw [List.getElem_set];split
 ·rename_i e;subst e
  rw [List.getElem_append_right (by simp;omega)];simp
 ·simp at h1
  rw [List.getElem_append_left (by simp;omega),List.getElem_dropLast]
theorem Kp (l:List Ap) (hl:l.length≤1048576):lu l=some (bW l):=by
 unfold lu;refine aW (fun i=>((i:Int),bW (l.take i))) l.length (by simp [bW]) (fun i hi=> ?_) ?_
 ·dsimp only
  obtain ⟨h1,h2,_⟩:=wj l (i:=i) (by omega);rw [qL hi];generalize bW (l.take i)=W at*;unfold j8;rw [if_pos (by simpa using hi),aA hi,Z0]
  have app1:eN (i:Int) W l[i] (W.length:Int)=some (.inr (.inl ((((i+1:Nat):Int)),W++[⟨1,l[i]⟩]))):=by
   unfold eN md iL;rw [if_neg (by simp),aJ (by simp;omega),Z0,aV (by omega)];rfl
  have stepk: ∀k,k+1<W.length→eN (i:Int) W l[i] (k:Int)=some (.inl ((k+1:Nat):Int)):=by
   intro k hk;unfold eN gE;rw [if_pos (by simpa using by omega),if_neg (by rw [ak (by omega)];simp;omega),if_neg (by decide),aV (by omega)]
  unfold wh;cases hg:W.getLast? with
  |none=>
   have:W=[]:=Xx.1 hg;subst this;exact a7 app1
  | some r =>
   dsimp only;have hsp:=qs hg
   obtain ⟨n,hn⟩: ∃n,W.length=n+1:=⟨W.length - 1,by
    have:W.length=W.dropLast.length+1:=by rw [hsp];simp
    omega⟩
   have hgn:W[n]? =some r:=by
    rw [Xy,hn] at hg;exact hg
   have hrm:=h1 r (X7 hg)
   by_cases e:r.fValue=l[i]
   ·rw [if_pos e]
    refine aW (fun k=>(k:Int)) n rfl (fun k hk=>stepk k (by omega)) ?_;unfold eN gE iL;rw [if_pos (by simpa using by omega),if_pos (by rw [ak (by omega)];simp;omega),nN (by omega),Z0,hgn,Z0,if_pos (by simpa using e),Z0,hgn,Z0,Z0,hgn,Z0,aV (by omega),IH _ _ _ hn,ak (by omega),e]
    rfl
   ·rw [if_neg e]
    refine aW (fun k=>(k:Int)) W.length rfl (fun k hk=> ?_) app1
    by_cases hk1:k+1<W.length
    ·exact stepk k hk1
    ·have:k=n:=by omega
     subst this;unfold eN gE;rw [if_pos (by simpa using by omega),if_pos (by rw [ak (by omega)];simp;omega),nN (by omega),Z0,hgn,Z0,if_neg (by simpa using e),aV (by omega)]
 ·dsimp only
  unfold j8 mc;rw [if_neg (by simp),Z4];rfl
def lO (r:aU):fy:=⟨r.fMany,r.fValue⟩
theorem DQ (l:List Ap) (hl:l.length≤1048576):zU l=some ((bW l).map lO):=by
 unfold zU;refine aW (fun i=>((bW (l.take i)).map lO,(i:Int))) l.length (by simp [bW]) (fun i hi=> ?_) ?_
 ·dsimp only
  obtain ⟨h1,h2,_⟩:=wj l (i:=i) (by omega);rw [qL hi];unfold ur
  have hnew:oJ l ((bW (l.take i)).map lO) (i:Int) false=some (.inl ((bW (l.take i)++[(⟨1,l[i]⟩:aU)]).map lO,((i+1:Nat):Int))):=by
   unfold oJ qC;rw [if_neg (by decide),aA hi,Z0,aJ (by simp;omega),Z0,aV (by omega)];simp [lO]
  rw [if_pos (by simpa using hi)];rcases Nat.eq_zero_or_pos i with h0|h0
  ·subst h0
   rw [if_neg (by decide),hnew];simp [bW,wh]
  ·obtain ⟨j,rfl⟩: ∃j,i=j+1:=⟨i - 1,by omega⟩
   have e1:Zb.wrap (((j+1:Nat):Int) - 1)=(j:Int):=by rw [ak (by omega)];omega
   rw [if_pos (decide_eq_true (by omega)),aA hi,Z0,e1,aA (by omega),Z0];obtain ⟨n,hlast⟩: ∃n,(bW (l.take (j+1))).getLast?=some ⟨n,l[j]⟩:=by rw [qL (by omega)];exact GI _ _
   generalize hw:bW (l.take (j+1))=W at*;unfold wh;rw [hlast];dsimp only
   by_cases e:l[j+1]=l[j]
   ·rw [if_pos e.symm]
    unfold oJ qC;have hsp:=qs hlast
    obtain ⟨k,hk⟩: ∃k,W.length=k+1:=⟨W.length - 1,by
     have:W.length=W.dropLast.length+1:=by rw [hsp];simp
     omega⟩
    have hrm:=h1 _ (X7 hlast)
    have hgk:(W.map lO)[k]? =some ⟨n,l[j]⟩:=by
     rw [Xy,hk] at hlast;rw [List.getElem?_map];have:W[k]? =some ⟨n,l[j]⟩:=hlast;rw [this];rfl
    have e2:Zb.wrap (((W.map lO).length:Int) - 1)=(k:Int):=by rw [ak (by simp;omega)];simp;omega
    have hkl:k<(W.map lO).length:=by simp;omega
    have e3:(W.map lO)[k]=⟨n,l[j]⟩:=by
     rw [Z5 hkl] at hgk;exact Option.some.inj hgk
    have e4:=ek (xs:=W.map lO) (lo:=0) (hi:=k) (by omega) (by omega);rw [show ((0:Nat):Int)=0 from rfl] at e4;rw [if_pos (by simpa using e),e2,aA hkl,Z0,e3,e4,Z0,aJ (by simp;omega),Z0,aJ (by simp;omega),Z0,aV (by omega)];simp only at hrm;rw [ak (by simp;omega)];simp only [Zz,Xf,Xz,Yc,Yh,lO,List.map_dropLast];rw [List.dropLast_eq_take,Zp,hk,e]
    rfl
   ·rw [if_neg (fun h=>e h.symm)]
    have:decide (l[j+1]=l[j])=false:=by simpa using e
    rw [this,hnew]
 ·dsimp only
  unfold ur yV;rw [if_neg (by simp),Z4];rfl
def xd (l:List Ap):List Int:=(bW l).flatMap fun r=>r.fMany::bv r.fValue
theorem oc {α:Type} (l:List α) (f:α→List Int) (k:Nat) (h: ∀x∈l,(f x).length≤k):(l.flatMap f).length≤k*l.length:=by
 induction l with
 |nil=>simp
 |cons v r ih=>
  have:=h v (by simp);have:=ih fun x hx=>h x (by simp [hx]);rw [Zx,Z3,Z7,Nat.mul_add];omega
theorem od {l:List Ap}:(∀r∈bW l,1≤r.fMany∧r.fMany≤l.length∧r.fValue∈l)∧(bW l).length≤l.length∧gC (bW l)=l:=by
 have:=wj l (Zn _);rwa [Z4] at this
theorem Ai {l:List Ap} (h: ∀v∈l,Rgt v) (hl:l.length≤64):mQ l=some (xd l):=by
 obtain ⟨h1,h2,_⟩:=od (l:=l);unfold mQ;rw [Kp l (by omega),Z0];refine aW (fun i=>(((bW l).take i).flatMap fun r=>r.fMany::bv r.fValue,(i:Int))) (bW l).length (by simp) (fun i hi=> ?_) ?_
 ·dsimp only
  have hm:=h1 _ (Z2 hi);have hr:=h _ hm.2.2
  have hb:=oc ((bW l).take i) (fun r=>r.fMany::bv r.fValue) 67 fun x hx=>by
   have:=(d8 (h _ (h1 x (Zf hx)).2.2)).2;simp;omega
  have hb':=(d8 hr).2;simp only [Zl] at hb;unfold pi;rw [if_pos (by simpa using hi),aA hi,Z0,bm,aJ (by simp only [Z6];omega),Z0,qr hr,Z0,aJ (by simp only [Z3,Z6];omega),Z0,aV (by omega),l5 hi];have:(bW l)[i].fMany%256=(bW l)[i].fMany:=by omega
  rw [this];simp
 ·dsimp only
  unfold pi tL;rw [if_neg (by simp),Z4];rfl
def zig (d:Int):Nat:=if d<0 then (-2*d - 1).toNat else (2*d).toNat
def fk (z:Nat):List Int:=if h:z<128 then [(z:Int)] else ((z%128+128:Nat):Int)::fk (z/128)
termination_by z
theorem pB {z:Nat} (h:z<128):fk z=[(z:Int)]:=by rw [fk,dif_pos h]
theorem rK {z:Nat} (h: ¬ z<128):fk z=((z%128+128:Nat):Int)::fk (z/128):=by rw [fk,dif_neg h]
theorem Bd: ∀(k z:Nat),z<128^(k+1)→(fk z).length≤k+1
 |0,z,h=>by rw [pB (by simpa using h)];simp
 | k + 1, z, h => by
  by_cases hz:z<128
  ·rw [pB hz];simp
  ·rw [rK hz]
   have:z/128<128^(k+1):=by rw [Nat.div_lt_iff_lt_mul (by decide)];rw [Nat.pow_succ] at h;exact h
   have:=Bd k _ this;simp;omega
theorem lB {z:Nat} (h:z<18446744073709551616):(fk z).length≤10:=Bd 9 z (Zt h (by decide))
theorem GJ (z:Nat):Byt (fk z):=by
 induction z using Xb with
 |_ z ih=>
  by_cases hz:z<128
  ·rw [pB hz];exact .cons (by omega) .nil
  ·rw [rK hz];exact .cons (by omega) (ih _ (by omega))
theorem nj {d:Int} (h:cY d):zig d<18446744073709551616:=by
 unfold zig cY at*;split<;>omega
def jF (l:List Int) (i:Nat):List Int:=fk (zig (Zb.wrap (l.getD (i+1) 0 - l.getD i 0)))
def nk (l:List Int):List Int:=be8 (l.getD 0 0%18446744073709551616)++(Zw (l.length - 1)).flatMap (jF l)
theorem Pd: ∀n:_root_.Fin 256,n.val|||128=n.val%128+128:=by decide+kernel
theorem DR (x:Nat): ∀(z:Nat) (acc:List Int),z<18446744073709551616→acc.length+(fk z).length≤140737488355328→x<1000→
  aq (fun s:(List Int×Int)=>jx (x:Int) s.1 s.2) (acc,(z:Int))=some (.inl (acc++fk z,((x+1:Nat):Int))):=by
 intro z
 induction z using Xb with
 | _ z ih =>
  intro acc hz hl hx
  by_cases h:z<128
  ·rw [pB h] at hl ⊢
   apply a7;dsimp only;unfold jx sr sq;rw [if_neg (by simp;omega),bm,aJ (by simpa using hl),Z0,aV (by omega)];have:(z:Int)%256=z:=by omega
   rw [this];rfl
  ·rw [rK h] at hl ⊢
   simp only [Z7] at hl
   have e:jx (x:Int) acc (z:Int)=some (.inl (acc++[((z%128+128:Nat):Int)],((z/128:Nat):Int))):=by
    unfold jx
    have h1:bOr .u8 ((z:Int)%256) 128=((z%128+128:Nat):Int):=by
     have h2:=Pd ⟨z%256,by omega⟩;simp only at h2;rw [show ((z:Int)%256)=((z%256:Nat):Int) by omega,show (128:Int)=((128:Nat):Int) from rfl,or8 (by omega) (by omega),h2];congr 1;omega
    have h3:aD .u64 (z:Int) 7=((z/128:Nat):Int):=by have:=pW (x:=(z:Int)) (k:=7) (by omega);simpa using this
    rw [if_pos (by simp;omega),bm,h1,h3,aJ (by simp;omega),Z0]
   rw [bO (by dsimp only;exact e),ih (z/128) (by omega) _ (by omega) (by simp;omega) hx];simp
theorem II {a:Nat} (ha:a<18446744073709551616):dR .u64 (a:Int) 18446744073709551615=18446744073709551615 - (a:Int):=by
 unfold dR;rw [bD];show (((Ze 64 (a:Int)^^^Ze 64 18446744073709551615).toNat:Nat):Int)%18446744073709551616=_;have h1:(Ze 64 (a:Int)).toNat=a:=by rw [Zm];omega
 have h2:Ze 64 18446744073709551615=BitVec.allOnes 64:=by decide
 rw [h2,BitVec.xor_allOnes,BitVec.toNat_not,h1];have:(2:Nat)^64=18446744073709551616:=by decide
 omega
theorem xor_zero {a:Nat} (ha:a<18446744073709551616):dR .u64 (a:Int) 0=(a:Int):=by
 unfold dR;rw [bD];show (((Ze 64 (a:Int)^^^Ze 64 0).toNat:Nat):Int)%18446744073709551616=_;have h1:(Ze 64 (a:Int)).toNat=a:=by rw [Zm];omega
 have h2:Ze 64 0=0#64:=by decide
 rw [h2,BitVec.xor_zero,h1];omega
theorem LM {d:Int} (h:cY d):dR .u64 (em .u64 (X6.wrap d) 1) (X6.wrap (aD .i64 d 63))=(zig d:Int):=by
 have h1:aD .i64 d 63=if d<0 then -1 else 0:=by
  unfold aD cY at*;rw [X4 _ (Yi (Int.pow_pos (by decide)))];have:(2:Int)^(min (63:Int).toNat Zb.bits)=9223372036854775808:=by decide
  rw [this];split<;>omega
 have h2:em .u64 (X6.wrap d) 1=(2*d)%18446744073709551616:=by
  have:=y6 (x:=X6.wrap d) (k:=1) (by omega);rw [show ((1:Nat):Int)=1 from rfl] at this;rw [this,bD];omega
 rw [h1,h2,bD];unfold zig cY at*;split
 ·have e:((2*d)%18446744073709551616)=((2*d+18446744073709551616).toNat:Int):=by omega
  rw [show ((-1:Int)%18446744073709551616)=18446744073709551615 from by decide,e,II (by omega)];omega
 ·have e:((2*d)%18446744073709551616)=((2*d).toNat:Int):=by omega
  rw [show ((0:Int)%18446744073709551616)=0 from by decide,e,xor_zero (by omega)]
theorem za {l:List Int} (h0:0<l.length) (hl:l.length≤64):lV l=some (nk l):=by
 unfold lV;have h00:idx l 0=some l[0]:=aA (i:=0) h0;have hsub:=ek (xs:=l) (lo:=1) (hi:=l.length) (by omega) (Zn _);rw [show ((1:Nat):Int)=1 from rfl] at hsub;rw [h00,Z0,bD,sC,Z0,hsub,Z0,Z4];have hlen:(l.drop 1).length=l.length - 1:=by simp
 have hg0:l.getD 0 0=l[0]:=by rw [Zu,Z5 h0];rfl
 refine aW (fun i=>(be8 (l[0]%18446744073709551616)++(Zw i).flatMap (jF l),(i:Int))) (l.length - 1) (by simp) (fun i hi=> ?_) ?_
 ·dsimp only
  unfold oE;rw [hlen,if_pos (by simpa using hi),aA (by rw [hlen];exact hi),Z0,aA (by omega),Z0];have hw:=ll ((l.drop 1)[i]'(by rw [hlen];exact hi) - l[i]'(by omega));have hb:=oc (Zw i) (jF l) 10 fun x hx=>lB (nj (ll _));have h10:=lB (nj hw);simp only [Xm] at hb
  have e:jF l i=fk (zig (Zb.wrap ((l.drop 1)[i]'(by rw [hlen];exact hi) - l[i]'(by omega)))):=by
   unfold jF;rw [Zu,Zu,Z5 (show i+1<l.length by omega),Z5 (show i<l.length by omega)];simp only [Xe,List.getElem_drop];congr 5;omega
  rw [LM hw,DR i _ _ (nj hw) (by simp only [Z3,cf];omega) (by omega),Yg,Xa, ←e];simp
 ·dsimp only
  unfold oE sn;rw [hlen,if_neg (by simp)];unfold nk;rw [hg0];rfl
theorem zb (x:Nat): ∀(z:Nat) (acc:List Int),z<18446744073709551616→acc.length+(fk z).length≤140737488355328→x<1000→
  aq (fun s:(List Int×Int)=>mU (x:Int) s.1 s.2) (acc,(z:Int))=some (.inl (acc++fk z,((x+1:Nat):Int))):=by
 intro z
 induction z using Xb with
 | _ z ih =>
  intro acc hz hl hx
  by_cases h:z<128
  ·rw [pB h] at hl ⊢
   apply a7;dsimp only;unfold mU xv xu;rw [if_neg (by simp;omega),bm,aJ (by simpa using hl),Z0,aV (by omega)];have:(z:Int)%256=z:=by omega
   rw [this];rfl
  ·rw [rK h] at hl ⊢
   simp only [Z7] at hl
   have e:mU (x:Int) acc (z:Int)=some (.inl (acc++[((z%128+128:Nat):Int)],((z/128:Nat):Int))):=by
    unfold mU;rw [if_pos (by simp;omega),bm,bD,bD,aJ (by simp;omega),Z0,Zr (by omega),Zs (by omega)];congr 4
    ·congr 1;omega
    ·omega
   rw [bO (by dsimp only;exact e),ih (z/128) (by omega) _ (by omega) (by simp;omega) hx];simp
theorem Aj {α:Type} {l:List α} {i:Nat} {d:α} (h:i<l.length):l.getD i d=l[i]:=by
 rw [Zu,Z5 h];rfl
theorem C1 {l:List Ap} (h0:0<l.length) (hl:l.length≤64):yc l=some (nk (l.map (·.fInt))):=by
 unfold yc;have h00:idx l 0=some l[0]:=aA (i:=0) h0;rw [h00,Z0,bD,wc,Z0];have hg: ∀i (h:i<l.length),(l.map (·.fInt)).getD i 0=l[i].fInt:=fun i h=>by rw [Aj (by simpa using h)];simp
 refine aW (fun i=>(be8 (l[0].fInt%18446744073709551616)++(Zw i).flatMap (jF (l.map (·.fInt))),((i+1:Nat):Int))) (l.length - 1) (by simp) (fun i hi=> ?_) ?_
 ·dsimp only
  unfold sY sX;have e1:Zb.wrap (((i+1:Nat):Int) - 1)=(i:Int):=by rw [ak (by omega)];omega
  rw [if_pos (by simpa using by omega),aA (by omega),Z0,e1,aA (by omega),Z0];have hw:=ll (l[i+1].fInt - l[i].fInt);have hb:=oc (Zw i) (jF (l.map (·.fInt))) 10 fun x hx=>lB (nj (ll _));have h10:=lB (nj hw);simp only [Xm] at hb
  have e:jF (l.map (·.fInt)) i=fk (zig (Zb.wrap (l[i+1].fInt - l[i].fInt))):=by
   unfold jF;rw [hg _ (by omega),hg _ (by omega)]
  have key:=zb (i+1) (zig (Zb.wrap (l[i+1].fInt - l[i].fInt))) (be8 (l[0].fInt%18446744073709551616)++(Zw i).flatMap (jF (l.map (·.fInt)))) (nj hw) (by simp only [Z3,cf];omega) (by omega)
  have hz:(if decide (Zb.wrap (l[i+1].fInt - l[i].fInt)<0)=true then (X6.wrap (Zb.wrap ((Zb.wrap ((-2)*(Zb.wrap (l[i+1].fInt - l[i].fInt)))) - 1))) else (X6.wrap (Zb.wrap (2*(Zb.wrap (l[i+1].fInt - l[i].fInt))))))=((zig (Zb.wrap (l[i+1].fInt - l[i].fInt)):Nat):Int):=by
   generalize Zb.wrap (l[i+1].fInt - l[i].fInt)=d at*;simp only [decide_eq_true_eq];unfold zig cY at*;split
   ·rw [bD,jf,jf];omega
   ·rw [bD,jf];omega
  rw [Yg,Xa,Y9,e, ←Zj, ←key, ←hz];split<;>rfl
 ·dsimp only
  unfold sY xt;rw [if_neg (by simp;omega)];unfold nk;rw [hg 0 h0];simp
def fm (w:List Ap) (v:Ap):Nat:=w.findIdx fun x=>decide (v=x)
def nP (l:List Ap):List Int:=((aP l).length:Int)::((aP l).flatMap bv++cM (l.map fun v=>(fm (aP l) v:Int)) (wid ((aP l).length - 1)))
theorem IK {w:List Ap} {v:Ap} (hw:w.length<1048576) (h:v∈w):gY w v=some (fm w v:Int):=by
 unfold gY;have:=A8 (f:=fun s:Int=>fz w v s) w (fun x=>decide (v=x)) (fun i=>(i:Int)) (-1) (fun i hi hp=> ?_) (fun i hi hp=> ?_) ?_
 ·rw [this]
  have ha:w.any (fun x=>decide (v=x))=true:=List.any_eq_true.2 ⟨v,h,by simp⟩;rw [ha];rfl
 ·unfold fz
  rw [if_pos (by simpa using hi),aA hi,Z0,hp,if_neg (by decide),aV (by omega)]
 ·unfold fz
  rw [if_pos (by simpa using hi),aA hi,Z0,hp,if_pos rfl];rfl
 ·unfold fz n8
  rw [if_neg (by simp)];rfl
theorem nV {w:List Ap} {v:Ap} (h:v∈w):fm w v<w.length:=List.findIdx_lt_length_of_exists ⟨v,h,by simp⟩
theorem yn {w:List Ap} {v:Ap} (h:v∈w):w[fm w v]'(nV h)=v:=by
 have:=List.findIdx_getElem (p:=fun x=>decide (v=x)) (xs:=w) (w:=nV h);simp only [decide_eq_true_eq] at this;exact this.symm
theorem zd {l w:List Ap} (h: ∀v∈l,v∈w) (hw:w.length<1048576):U64 (l.map fun v=>(fm w v:Int)):=fun x hx=>by
 obtain ⟨v,hv,rfl⟩:=X3.1 hx;have:=nV (h v hv);omega
theorem Ak {l:List Ap} (h: ∀v∈l,Rgt v) (hl:l.length≤64) (hne:l≠[]):mR l=some (nP l):=by
 obtain ⟨r,hr1,hr2⟩:=y9 h (by omega);obtain ⟨h3,h4,h5⟩:=fj h;have hwr: ∀v∈aP l,Rgt v:=fun v hv=>h v ((h4 v).1 hv);unfold mR iE;rw [aJ (by simp;omega),Z0,Z0,Zz,hr1,Z0,hr2,Z0,bm,show ((aP l).length:Int)%256=(aP l).length by omega];have hfl:=je hwr;refine aW (fun i=>(((aP l).length:Int)::((aP l).take i).flatMap bv,(i:Int))) (aP l).length (by simp) (fun i hi=> ?_) ?_
 ·dsimp only
  unfold ke;have h1:=je (l:=(aP l).take i) fun v hv=>hwr v (Zf hv);have h2:=(d8 (hwr _ (Z2 hi))).2;simp only [Zl] at h1;rw [if_pos (by simpa using hi),aA hi,Z0,qr (hwr _ (Z2 hi)),Z0,aJ (by simp only [Z7];omega),Z0,aV (by omega),l5 hi]
  rfl
 ·dsimp only
  unfold ke;rw [if_neg (by simp),Z4];unfold mg
  have:aq (fun s:(List Int×Int)=>iM l (aP l) (((aP l).length:Int)::(aP l).flatMap bv) s.1 s.2) ([],0)=some (nP l):=by
   refine aW (fun i=>((l.take i).map fun v=>(fm (aP l) v:Int),(i:Int))) l.length (by simp) (fun i hi=> ?_) ?_
   ·dsimp only
    unfold iM;have hm:=(h4 l[i]).2 (Z2 hi);have hp:=nV hm;rw [if_pos (by simpa using hi),aA hi,Z0,IK (by omega) hm,Z0,bD,aJ (by simp;omega),Z0,aV (by omega),Z1 hi];have:((fm (aP l) l[i]:Nat):Int)%18446744073709551616=(fm (aP l) l[i]:Nat):=by omega
    rw [this,Xz,Yc,Yh]
   ·dsimp only
    unfold iM mf;rw [if_neg (by simp),Z4]
    by_cases h0:(aP l).length=0
    ·have hw0:aP l=[]:=Za h0
     have hl0:l=[]:=by
      cases l with
      |nil=>rfl
      |cons a t=>have:=(h4 a).2 (by simp);rw [hw0] at this;cases this
     subst hl0;exfalso;exact absurd rfl hne
    have e1:X6.wrap (Zb.wrap (((aP l).length:Int) - 1))=(((aP l).length - 1:Nat):Int):=by rw [ak (by omega),bD];omega
    have hwid:wid ((aP l).length - 1)≤64:=oT (Zt (show (aP l).length - 1<64 by omega) (by decide))
    have hpl:(cM (l.map fun v=>(fm (aP l) v:Int)) (wid ((aP l).length - 1))).length≤64*64:=by
     unfold cM;rw [fE,Zp];have:=Zv hl hwid;omega
    rw [e1,len_eq (by omega),Z0,Ba (zd (fun v hv=>(h4 v).2 hv) (by omega)) (by simp;omega) hwid,Z0,aJ (by simp only [Z7];omega)]
    rfl
  rw [this];rfl
theorem Be {w:List Ap} {v:Ap} (hn:w.Nodup) (h:v∈w) {k:Nat} (hk:k<w.length):w[k]=v↔k=fm w v:=by
 constructor
 ·intro e
  rw [←yn h] at e;exact (List.getElem_inj hn).1 e
 ·rintro rfl;exact yn h
theorem DS {l:List Ap} (h: ∀v∈l,Rgt v) (hl:l.length≤64) (hne:l≠[]):zV l=some (nP l):=by
 obtain ⟨h3,h4,h5⟩:=fj h;have hwr: ∀v∈aP l,Rgt v:=fun v hv=>h v ((h4 v).1 hv);unfold zV;rw [C0 h (by omega),Z0,bm,show ((aP l).length:Int)%256=(aP l).length by omega];have hfl:=je hwr;refine aW (fun i=>(((aP l).length:Int)::((aP l).take i).flatMap bv,(i:Int))) (aP l).length (by simp) (fun i hi=> ?_) ?_
 ·dsimp only
  unfold uw;have h1:=je (l:=(aP l).take i) fun v hv=>hwr v (Zf hv);have h2:=(d8 (hwr _ (Z2 hi))).2;simp only [Zl] at h1;rw [if_pos (by simpa using hi),aA hi,Z0,oS (hwr _ (Z2 hi)),Z0,aJ (by simp only [Z7];omega),Z0,aV (by omega),l5 hi]
  rfl
 ·dsimp only
  unfold uw;rw [if_neg (by simp),Z4];unfold yY
  have:aq (fun s:(List Int×Int)=>qD l (aP l) (((aP l).length:Int)::(aP l).flatMap bv) s.1 s.2) ([],0)=some (nP l):=by
   refine aW (fun i=>((l.take i).map fun v=>(fm (aP l) v:Int),(i:Int))) l.length (by simp) (fun i hi=> ?_) ?_
   ·dsimp only
    unfold qD;have hm:=(h4 l[i]).2 (Z2 hi);have hp:=nV hm;rw [if_pos (by simpa using hi)];refine aW (fun k=>(((l.take i).map fun v=>(fm (aP l) v:Int))++if fm (aP l) l[i]<k then [(fm (aP l) l[i]:Int)] else [],(k:Int))) (aP l).length (by simp) (fun k hk=> ?_) ?_
    ·dsimp only
     unfold uv uu;rw [if_pos (by simpa using hk),aA hk,Z0,aA hi,Z0,aV (by omega)]
     by_cases e:k=fm (aP l) l[i]
     ·have e1:=(Be h3.nodup hm hk).2 e
      rw [if_pos (by simpa using e1),if_neg (by omega),Xk,bD,aJ (by simp;omega),Z0,if_pos (by omega)];have:(k:Int)%18446744073709551616=(fm (aP l) l[i]:Nat):=by omega
      rw [this]
     ·have e1: ¬ (aP l)[k]=l[i]:=fun h=>e ((Be h3.nodup hm hk).1 h)
      rw [if_neg (by simpa using e1)];have e2:(fm (aP l) l[i]<k+1)=(fm (aP l) l[i]<k):=by apply propext;omega
      simp only [e2]
    ·dsimp only
     unfold uv yX;rw [if_neg (by simp),if_pos hp,aV (by omega),Z1 hi,Xz,Yc,Yh];rfl
   ·dsimp only
    unfold qD yW;rw [if_neg (by simp),Z4]
    have h0:(aP l).length≠0:=fun h0=>by
     have hw0:aP l=[]:=Za h0;cases l with
     |nil=>exact hne rfl
     |cons a t=>have:=(h4 a).2 (by simp);rw [hw0] at this;cases this
    have e1:X6.wrap (Zb.wrap (((aP l).length:Int) - 1))=(((aP l).length - 1:Nat):Int):=by rw [ak (by omega),bD];omega
    have hwid:wid ((aP l).length - 1)≤64:=oT (Zt (show (aP l).length - 1<64 by omega) (by decide))
    have hpl:(cM (l.map fun v=>(fm (aP l) v:Int)) (wid ((aP l).length - 1))).length≤64*64:=by
     unfold cM;rw [fE,Zp];have:=Zv hl hwid;omega
    rw [e1,CT (by omega),Z0,ve (zd (fun v hv=>(h4 v).2 hv) (by omega)) (by simp;omega) hwid,Z0,aJ (by simp only [Z7];omega)]
    rfl
  rw [this];rfl
def jV:List Int→Int
 |[]=>0
 |a::r=>r.foldl (fun m x=>if x<m then x else m) a
theorem Bf (r:List Int): ∀a:Int,r.foldl (fun m x=>if x<m then x else m) a≤a∧(∀x∈r,r.foldl (fun m x=>if x<m then x else m) a≤x)∧(r.foldl (fun m x=>if x<m then x else m) a=a∨r.foldl (fun m x=>if x<m then x else m) a∈r):=by
 induction r with
 |nil=>intro a;simp
 | cons b r ih =>
  intro a;simp only [Zy];obtain ⟨h1,h2,h3⟩:=ih (if b<a then b else a);have hb:(if b<a then b else a)≤a∧(if b<a then b else a)≤b∧((if b<a then b else a)=a∨(if b<a then b else a)=b):=by split<;>omega
  refine ⟨by omega,fun x hx=> ?_,?_⟩
  ·rcases Zq.1 hx with rfl|hx
   ·omega
   ·exact h2 x hx
  ·rcases h3 with h3|h3
   ·rcases hb.2.2 with h4|h4
    ·left;omega
    ·right;rw [h3,h4];simp
   ·right;simp [h3]
theorem Al {l:List Int} {x:Int} (h:x∈l):jV l≤x:=by
 cases l with
 |nil=>cases h
 |cons a r=>
  obtain ⟨h1,h2,_⟩:=Bf r a;rcases Zq.1 h with rfl|h
  ·exact h1
  ·exact h2 x h
theorem yo {l:List Int} (h:l≠[]):jV l∈l:=by
 cases l with
 |nil=>exact absurd rfl h
 |cons a r=>
  obtain ⟨_,_,h3⟩:=Bf r a;rcases h3 with h3|h3
  ·show r.foldl _ a∈_;rw [h3];simp
  ·exact List.mem_cons_of_mem _ h3
def dK (l:List Int):Nat:=l.foldl (fun w x=>max w (wid x.toNat)) 0
theorem to {l:List Int} {i:Nat} (h:i<l.length):dK (l.take (i+1))=max (dK (l.take i)) (wid l[i].toNat):=iI h
theorem lC {l:List Int} (h:U64 l):dK l≤64∧ ∀x∈l,wid x.toNat≤dK l:=by
 have key: ∀i,i≤l.length→dK (l.take i)≤64∧ ∀x∈l.take i,wid x.toNat≤dK (l.take i):=by
  intro i
  induction i with
  |zero=>intro _;simp [dK]
  | succ i ih =>
   intro hi;obtain ⟨h1,h2⟩:=ih (by omega);have hlt:i<l.length:=by omega
   have hx:=h l[i] (Z2 hlt);have hw:wid l[i].toNat≤64:=oT (by rw [show (2:Nat)^64=18446744073709551616 by decide];omega);rw [to hlt];refine ⟨by omega,fun x hx=> ?_⟩;rw [Z1 hlt] at hx;rcases Zd.1 hx with hx|hx
   ·have:=h2 x hx;omega
   ·have:x=l[i]:=by simpa using hx
    subst this;omega
 have:=key l.length (Zn _);rwa [Z4] at this
def bQ (l:List Int):List Int:=l.map fun x=>x - jV l
def nl (l:List Int):List Int:=be8 (jV l%18446744073709551616)++[(dK (bQ l):Int)]++cM (bQ l) (dK (bQ l))
theorem oh {l:List Int} (h: ∀x∈l,cY x):U64 (bQ l):=fun x hx=>by
 obtain ⟨y,hy,rfl⟩:=X3.1 hx;have h1:=Al hy;have h2:=h y hy;have h3:=h (jV l) (yo (List.ne_nil_of_mem hy));unfold cY at h2 h3;omega
theorem C2 {x m:Int} (hx:cY x) (hm:cY m) (h:m≤x):X6.wrap ((X6.wrap x) - (X6.wrap m))=x - m:=by
 rw [bD,bD,bD];unfold cY at*;omega
theorem LN {l:List Int} (h0:0<l.length) (hl:l.length≤1048576):kH l=some (jV l):=by
 cases l with
 |nil=>simp at h0
 | cons a r =>
  unfold kH o8;rw [if_neg (by simp;omega),dF,Z0];refine aW (fun i=>((r.take i).foldl (fun m x=>if x<m then x else m) a,((i+1:Nat):Int))) r.length (by simp) (fun i hi=> ?_) ?_
  ·dsimp only
   unfold lE;rw [if_pos (by simpa using hi),aA (by simpa using hi),Z0,aV (by simp at hl;omega),iI hi]
   rfl
  ·dsimp only
   unfold lE o7;rw [if_neg (by simp),Z4];rfl
theorem GK (a b:Nat):(if (a:Int)<(b:Int) then (b:Int) else (a:Int))=((max a b:Nat):Int):=by split<;>omega
theorem ze {l:List Int} (h: ∀x∈l,cY x) (h0:0<l.length) (hl:l.length≤64):lW l=some (nl l):=by
 have hne:l≠[]:=fun e=>by subst e;simp at h0
 have hm:=h _ (yo hne);have hu:=oh h;obtain ⟨hw,hw2⟩:=lC hu;have hal:(bQ l).length=l.length:=by simp [bQ]
 unfold lW;rw [LN h0 (by omega),Z0];refine aW (fun i=>((bQ l).take i,((dK ((bQ l).take i):Nat):Int),(i:Int))) l.length (by simp [dK]) (fun i hi=> ?_) ?_
 ·dsimp only
  unfold oG;have hxi:=Z2 hi;have hai:(bQ l)[i]'(by omega)=l[i] - jV l:=by simp [bQ]
  have hlt:=hu _ (Z2 (show i<(bQ l).length by omega));rw [hai] at hlt;have e2:=CZ (n:=(l[i] - jV l).toNat) (by omega);rw [show (((l[i] - jV l).toNat:Nat):Int)=l[i] - jV l by omega] at e2;rw [if_pos (by simpa using hi),aA hi,Z0,C2 (h _ hxi) hm (Al hxi),aJ (by simp;omega),Z0,e2,Z0,aV (by omega),GK,to (by omega),Z1 (by omega),hai]
 ·dsimp only
  unfold oG su
  have hpl:(cM (bQ l) (dK (bQ l))).length≤64*64:=by
   unfold cM;rw [fE,hal];have:=Zv hl hw;omega
  rw [if_neg (by simp), ←hal,Z4,bD,sC,Z0,bm,aJ (by simp [cf]),Z0,Ba hu (by omega) hw,Z0,aJ (by simp only [Z3,cf,Z6];omega)];have:((dK (bQ l):Nat):Int)%256=(dK (bQ l):Nat):=by omega
  rw [this];rfl
theorem C3 {l:List Ap} (h: ∀v∈l,cY v.fInt) (h0:0<l.length) (hl:l.length≤64):ye l=some (nl (l.map (·.fInt))):=by
 have h': ∀x∈l.map (·.fInt),cY x:=fun x hx=>by obtain ⟨v,hv,rfl⟩:=X3.1 hx;exact h v hv
 have hne:l.map (·.fInt)≠[]:=fun e=>by rw [List.map_eq_nil_iff] at e;subst e;simp at h0
 have hm:=h' _ (yo hne);have hu:=oh h';obtain ⟨hw,hw2⟩:=lC hu;have hal:(bQ (l.map (·.fInt))).length=l.length:=by simp [bQ]
 unfold ye;have h00:idx l 0=some l[0]:=aA (i:=0) h0;rw [h00,Z0]
 have hmin:jV (l.map (·.fInt))=l.foldl (fun m x=>if x.fInt<m then x.fInt else m) l[0].fInt:=by
  cases l with
  |nil=>simp at h0
  |cons a r=>simp [jV,List.foldl_map]
 refine aW (fun i=>((l.take i).foldl (fun m x=>if x.fInt<m then x.fInt else m) l[0].fInt,(i:Int))) l.length (by simp) (fun i hi=> ?_) ?_
 ·dsimp only
  unfold td;rw [if_pos (by simpa using hi),aA hi,Z0,aV (by omega),iI hi]
 ·dsimp only
  unfold td xC;rw [if_neg (by simp),Z4, ←hmin]
  have:aq (fun s:(List Int×Int×Int)=>pP l (jV (l.map (·.fInt))) s.1 s.2.1 s.2.2) ([],0,0)=some (nl (l.map (·.fInt))):=by
   refine aW (fun i=>((bQ (l.map (·.fInt))).take i,((dK ((bQ (l.map (·.fInt))).take i):Nat):Int),(i:Int))) l.length (by simp [dK]) (fun i hi=> ?_) ?_
   ·dsimp only
    unfold pP;have hxi:=Z2 hi;have hai:(bQ (l.map (·.fInt)))[i]'(by omega)=l[i].fInt - jV (l.map (·.fInt)):=by simp [bQ]
    have hlt:=hu _ (Z2 (show i<(bQ (l.map (·.fInt))).length by omega));rw [hai] at hlt;have e2:=CT (n:=(l[i].fInt - jV (l.map (·.fInt))).toNat) (by omega);rw [show (((l[i].fInt - jV (l.map (·.fInt))).toNat:Nat):Int)=l[i].fInt - jV (l.map (·.fInt)) by omega] at e2;rw [if_pos (by simpa using hi),aA hi,Z0,C2 (h _ hxi) hm (Al (List.mem_map_of_mem hxi)),aJ (by simp;omega),Z0,e2,Z0,aV (by omega),GK,to (by omega),Z1 (by omega),hai]
   ·dsimp only
    unfold pP xB
    have hpl:(cM (bQ (l.map (·.fInt))) (dK (bQ (l.map (·.fInt))))).length≤64*64:=by
     unfold cM;rw [fE,hal];have:=Zv hl hw;omega
    rw [if_neg (by simp), ←hal,Z4,bD,wc,Z0,bm,aJ (by simp [cf]),Z0,ve hu (by omega) hw,Z0,aJ (by simp only [Z3,cf,Z6];omega)];have:((dK (bQ (l.map (·.fInt))):Nat):Int)%256=(dK (bQ (l.map (·.fInt))):Nat):=by omega
    rw [this];rfl
  rw [this];rfl
def oU (l:List Ap):List Int:=l.flatMap bv
def qt (kind:Int) (l:List Ap):List Int:=
 if kind=1 then xd l else if kind=2 then nk (l.map (·.fInt)) else if kind=3 then nP l else if kind=4 then nl (l.map (·.fInt)) else oU l
def jG (l:List Ap):Bool:=l.all fun v=>v.fKind==2
def enc (kind:Int) (l:List Ap):List Int×Int:=
 if kind<0∨4<kind then ([],62) else if 64<l.length then ([],61) else if l.all right=false then ([],60) else
 if (kind=2∨kind=4)∧jG l=false then ([],62) else if l=[] then ([],0) else (qt kind l,0)
theorem Kq {l:List Ap} (hl:l.length≤1048576):mO l=some (if jG l then (l.map (·.fInt),true) else ([],false)):=by
 unfold mO jG;refine GH (fun i=>((l.take i).map (·.fInt),(i:Int))) l (fun v=>v.fKind==2) _ _ (by simp) (fun i hi hp=> ?_) (fun i hi hp=> ?_) ?_
 ·dsimp only
  unfold mb;rw [if_pos (by simpa using hi),aA hi,Z0,if_neg (by simpa using hp),aJ (by simp;omega),Z0,aV (by omega),Z1 hi,Xz,Yc,Yh]
 ·dsimp only
  unfold mb;rw [if_pos (by simpa using hi),aA hi,Z0,if_pos (by simpa using hp)];rfl
 ·dsimp only
  unfold mb tJ;rw [if_neg (by simp),Z4];rfl
theorem DT {l:List Ap} (hl:l.length≤1048576):eh l eV=some (!l.all right):=by
 unfold eh jO;have:=A8 (f:=fun s:Int=>ef l eV s) l (fun v=> !right v) (fun i=>(i:Int)) (-1) (fun i hi hp=> ?_) (fun i hi hp=> ?_) ?_
 ·rw [this,Z0]
  have e:l.any (fun v=> !right v)= !l.all right:=by simp [List.any_eq_not_all_not]
  rw [e];cases l.all right<;>simp
 ·unfold ef eV
  rw [if_pos (by simpa using hi),aA hi,Z0,iP,Z0,Z0,hp,if_neg (by decide),aV (by omega)]
 ·unfold ef eV
  rw [if_pos (by simpa using hi),aA hi,Z0,iP,Z0,Z0,hp,if_pos rfl];rfl
 ·unfold ef lL
  rw [if_neg (by simp)];rfl
theorem q8 {l:List Ap} (h: ∀v∈l,VOK v) (hr:l.all right=true): ∀v∈l,Rgt v:=fun v hv=>Rgt.of (h v hv) (List.all_eq_true.1 hr v hv)
theorem sH {l:List Ap} (kind:Int) (h: ∀v∈l,VOK v) (hl:l.length≤1048576):ff kind l=some (enc kind l):=by
 unfold ff enc
 have hj: ∀b,gF kind l b=some (if b=true then ([],62) else if 64<l.length then ([],61) else if l.all right=false then ([],60) else if (kind=2∨kind=4)∧jG l=false then ([],62) else if l=[] then ([],0) else (qt kind l,0)):=by
  intro b;unfold gF;cases b
  ·simp only [Z8,if_false]
   by_cases h1:64<l.length
   ·rw [if_pos (decide_eq_true (by omega)),if_pos h1]
   rw [if_neg (by simp;omega),if_neg h1,DT hl,Z0];cases hr:l.all right
   ·rfl
   rw [if_neg (by decide),if_neg (by decide),Kq hl,Z0];have hR:=q8 h hr
   have hj2: ∀ns:List Int×Bool,(kind=2∨kind=4→ns.1=l.map (·.fInt))→eC kind l ns false=some (if l=[] then ([],0) else (qt kind l,0)):=by
    intro ns hns;unfold eC;rw [if_neg (by decide)]
    by_cases h0:l=[]
    ·subst h0;rfl
    have hpos:0<l.length:=Zi.2 h0;rw [if_neg (by simpa using h0),if_neg h0];unfold qt
    by_cases k1:kind=1
    ·rw [if_pos (by simpa using k1),Ai hR (by omega),if_pos k1];rfl
    rw [if_neg (by simpa using k1),if_neg k1]
    by_cases k2:kind=2
    ·rw [if_pos (by simpa using k2),hns (.inl k2),za (by simpa using hpos) (by simp;omega),if_pos k2];rfl
    rw [if_neg (by simpa using k2),if_neg k2]
    by_cases k3:kind=3
    ·rw [if_pos (by simpa using k3),Ak hR (by omega) h0,if_pos k3];rfl
    rw [if_neg (by simpa using k3),if_neg k3]
    by_cases k4:kind=4
    ·rw [if_pos (by simpa using k4),hns (.inr k4),ze (fun x hx=>by obtain ⟨v,hv,rfl⟩:=X3.1 hx;exact (h v hv).int) (by simpa using hpos) (by simp;omega),if_pos k4];rfl
    rw [if_neg (by simpa using k4),if_neg k4];refine aW (fun i=>((l.take i).flatMap bv,(i:Int))) l.length (by simp) (fun i hi=> ?_) ?_
    ·dsimp only
     unfold iX;have h3:=je (l:=l.take i) fun v hv=>hR v (Zf hv);have h2:=(d8 (hR _ (Z2 hi))).2;simp only [Zl] at h3;rw [if_pos (by simpa using hi),aA hi,Z0,qr (hR _ (Z2 hi)),Z0,aJ (by omega),Z0,aV (by omega),l5 hi]
    ·dsimp only
     unfold iX kI;rw [if_neg (by simp),Z4];rfl
   have hj2t: ∀ns:List Int×Bool,eC kind l ns true=some ([],62):=fun ns=>rfl;cases hi:jG l
   ·simp only [Z8,if_false,Y6,if_true,and_true]
    by_cases k2:kind=2
    ·rw [if_pos (by simpa using k2),if_pos (.inl k2),hj2t]
    by_cases k4:kind=4
    ·have:(kind==4)=true:=by simpa using k4
     rw [if_neg (by simpa using k2),this,if_pos (.inr k4),hj2t]
    ·have:(kind==4)=false:=by simpa using k4
     rw [if_neg (by simpa using k2),this,if_neg (by omega),hj2 _ (by omega)]
   ·simp only [if_true,Xw,Z8,if_false,Bool.true_eq_false,and_false]
    exact hj2 _ fun _=>rfl
  ·rfl
 by_cases h0:kind<0
 ·rw [if_pos (by simpa using h0),if_pos (.inl h0),hj];rfl
 rw [if_neg (by simpa using h0),hj]
 by_cases h4:4<kind
 ·rw [if_pos (by simpa using h4),if_pos (show kind<0∨4<kind from .inr h4)]
 ·rw [if_neg (show ¬ (kind<0∨4<kind) by omega),if_neg (by simpa using h4)]
theorem Fo {l:List Ap} (kind:Int) (hl:l.length≤1048576):uq kind l=some (enc kind l).2:=by
 unfold uq enc
 have hj2:qp kind l=some (if l.all (fun v=> !((decide (kind=2)||decide (kind=4))&&v.fKind != 2)) then 0 else 62):=by
  unfold qp;refine uA l _ _ _ (fun i hi hp=> ?_) (fun i hi hp=> ?_) ?_
  ·unfold nD la
   rw [if_pos (by simpa using hi),aA hi,Z0,aV (by omega)]
   by_cases k2:kind=2
   ·subst k2;simp at hp;simp [hp]
   by_cases k4:kind=4
   ·subst k4;simp at hp;simp [hp]
   ·simp [k2,k4]
  ·unfold nD la
   rw [if_pos (by simpa using hi),aA hi,Z0]
   by_cases k2:kind=2
   ·subst k2;simp at hp;simp [hp]
   by_cases k4:kind=4
   ·subst k4;simp at hp;simp [hp]
   ·simp [k2,k4] at hp
  ·unfold nD u7
   rw [if_neg (by simp)];rfl
 have hj : ∀ b, nE kind l b = some (if b = true then 62 else if 64 < l.length then 61 else if l.all right = false then 60 else if (kind = 2 ∨ kind = 4) ∧ jG l = false then 62 else 0) := by
  intro b;unfold nE;cases b
  ·simp only [Z8,if_false]
   by_cases h1:64<l.length
   ·rw [if_pos (decide_eq_true (by omega)),if_pos h1]
   rw [if_neg (by simp;omega),if_neg h1];have:=uA (f:=fun s:Int=>lc kind l s) l right 60 (if (kind=2∨kind=4)∧jG l=false then 62 else 0) (fun i hi hp=> ?_) (fun i hi hp=> ?_) ?_
   ·rw [this];cases l.all right<;>rfl
   ·unfold lc
    rw [if_pos (by simpa using hi),aA hi,Z0,oR,Z0,hp,if_neg (by decide),aV (by omega)]
   ·unfold lc
    rw [if_pos (by simpa using hi),aA hi,Z0,oR,Z0,hp];rfl
   ·unfold lc
    rw [if_neg (by simp),hj2];unfold jG
    by_cases hk:kind=2∨kind=4
    ·have e:(decide (kind=2)||decide (kind=4))=true:=by simpa using hk
     simp only [e,Yb,hk,true_and]
     have e2:(l.all fun v=> !(v.fKind != 2))=l.all fun v=>v.fKind==2:=by
      congr 1;funext v;cases hv:(v.fKind==2)<;>simp [bne,hv]
     rw [e2];cases l.all fun v=>v.fKind==2<;>rfl
    ·have e:(decide (kind=2)||decide (kind=4))=false:=by simpa using hk
     simp [e,hk]
  ·rfl
 by_cases h0:kind<0
 ·rw [if_pos (by simpa using h0),if_pos (.inl h0),hj];rfl
 rw [if_neg (by simpa using h0),hj]
 by_cases h4:4<kind
 ·rw [if_pos (by simpa using h4),if_pos (show kind<0∨4<kind from .inr h4)]
 ·rw [if_neg (show ¬ (kind<0∨4<kind) by omega),if_neg (by simpa using h4)]
  congr 1
  repeat' split
  all_goals rfl
theorem qu {l:List Ap} (kind:Int) (h: ∀v∈l,VOK v) (hl:l.length≤1048576):qe kind l=some (enc kind l):=by
 unfold qe;rw [Fo kind hl,Z0];unfold rA
 by_cases he:(enc kind l).2=0
 ·rw [if_neg (by simpa using he)]
  unfold enc at he ⊢;split at he
  ·cases he
  rename_i hk;rw [if_neg hk];split at he
  ·cases he
  rename_i hlen;rw [if_neg hlen];split at he
  ·cases he
  rename_i hr;rw [if_neg hr];split at he
  ·cases he
  rename_i hi;rw [if_neg hi];have hR:=q8 h (by simpa using hr)
  by_cases h0:l=[]
  ·subst h0;rfl
  rw [if_neg h0,if_neg (by simpa using h0)];have hpos:0<l.length:=Zi.2 h0;unfold qt g7
  by_cases k1:kind=1
  ·rw [if_pos (by simpa using k1),DQ _ hl,if_pos k1,Z0]
   obtain ⟨h1,h2,_⟩:=od (l:=l);refine aW (fun i=>(((bW l).take i).flatMap fun r=>r.fMany::bv r.fValue,(i:Int))) (bW l).length (by simp) (fun i hi=> ?_) ?_
   ·dsimp only
    have hm:=h1 _ (Z2 hi);have hr:=hR _ hm.2.2
    have hb:=oc ((bW l).take i) (fun r=>r.fMany::bv r.fValue) 67 fun x hx=>by
     have:=(d8 (hR _ (h1 x (Zf hx)).2.2)).2;simp;omega
    have hb':=(d8 hr).2;simp only [Zl] at hb;have hg:((bW l).map lO)[i]'(by simpa using hi)=lO (bW l)[i]:=by simp
    unfold ry;rw [if_pos (by simpa using hi),aA (by simpa using hi),Z0,hg,bm,aJ (by simp only [Z6];omega),Z0,Z0];unfold lO;dsimp only;rw [oS hr,Z0,aJ (by simp only [Z3,Z6];omega),Z0,aV (by omega),l5 hi];have:(bW l)[i].fMany%256=(bW l)[i].fMany:=by omega
    rw [this];simp
   ·dsimp only
    unfold ry g7;rw [if_neg (by simp),Z4];rfl
  rw [if_neg (by simpa using k1),if_neg k1]
  by_cases k2:kind=2
  ·rw [if_pos (by simpa using k2),C1 hpos (by omega),if_pos k2];rfl
  rw [if_neg (by simpa using k2),if_neg k2]
  by_cases k3:kind=3
  ·rw [if_pos (by simpa using k3),DS hR (by omega) h0,if_pos k3];rfl
  rw [if_neg (by simpa using k3),if_neg k3]
  by_cases k4:kind=4
  ·rw [if_pos (by simpa using k4),C3 (fun v hv=>(h v hv).int) hpos (by omega),if_pos k4];rfl
  rw [if_neg (by simpa using k4),if_neg k4];refine aW (fun i=>((l.take i).flatMap bv,(i:Int))) l.length (by simp) (fun i hi=> ?_) ?_
  ·dsimp only
   unfold rz;have h3:=je (l:=l.take i) fun v hv=>hR v (Zf hv);have h2:=(d8 (hR _ (Z2 hi))).2;simp only [Zl] at h3;rw [if_pos (by simpa using hi),aA hi,Z0,oS (hR _ (Z2 hi)),Z0,aJ (by omega),Z0,aV (by omega),l5 hi]
  ·dsimp only
   unfold rz g7;rw [if_neg (by simp),Z4];rfl
 ·rw [if_pos (by simpa using he),if_pos rfl]
  have:(enc kind l).1=[]:=by
   unfold enc at he ⊢
   repeat' split
   all_goals first|rfl|(exfalso;simp_all)
  congr 1;exact Yk this.symm rfl
theorem ft {kind:Int} {l:List Ap} {b:List Int} (h:enc kind l=(b,0)):(0≤kind∧kind≤4)∧l.length≤64∧l.all right=true∧((kind=2∨kind=4)→jG l=true)∧((l=[]∧b=[])∨(l≠[]∧b=qt kind l)):=by
 unfold enc at h;split at h
 ·cases h
 rename_i h1;split at h
 ·cases h
 rename_i h2;split at h
 ·cases h
 rename_i h3;split at h
 ·cases h
 rename_i h4;refine ⟨by omega,by omega,by simpa using h3,fun h5=> ?_,?_⟩
 ·cases hi:jG l with
  |true=>rfl
  |false=>exact absurd ⟨h5,hi⟩ h4
 ·split at h
  ·rename_i h6;left;exact ⟨h6,(Prod.mk.inj h).1.symm⟩
  ·rename_i h6;right;exact ⟨h6,(Prod.mk.inj h).1.symm⟩
def Pe (kind:Int) (b:List Int) (many:Nat) (g:List Ap) (ok:Bool):Prop:= ∀l:List Ap,(∀v∈l,Rgt v)→l.length=many→enc kind l=(b,0)→g=l∧ok=true
def jZ (kind:Int) (b:List Int) (many:Nat) (x:List Ap×aj):Prop:=(∀v∈x.1,VOK v)∧x.1.length≤1048576∧Pe kind b many x.1 x.2.fOk
theorem DU {l:List Ap} {k:Nat} (h:k<l.length):oU (l.drop k)=bv l[k]++oU (l.drop (k+1)):=by
 unfold oU;rw [Zh h,Zx]
theorem wk {v:Ap} (h:Rgt v) {r:List Int} {ok:Bool} {rest:List Int} (hr:r=bv v++rest) (hb:Byt r) (hl:r.length<140737488355328):dE ⟨r,ok⟩=some (v,⟨rest,ok⟩):=by
 rw [CQ hb hl];dsimp only;rw [hr,qh h];dsimp only;rw [Xg]
theorem wm {r:aj} (hb:Byt r.fB) (hl:r.fB.length<140737488355328): ∃v r',dE r=some (v,r')∧Rgt v∧Byt r'.fB∧r'.fB.length≤r.fB.length∧(r.fOk=false→r'.fOk=false):=by
 rw [CQ hb hl];cases hp:cj r.fB with
 |none=>exact ⟨_,_,rfl,.null,hb,Zn _,fun _=>rfl⟩
 |some x=>
  obtain ⟨v,n⟩:=x;exact ⟨_,_,rfl,(mr hb hp).1,hb.drop _,by simp,fun h=>h⟩
theorem DV {b:List Int} {many:Nat} (hb:Byt b) (hl:b.length<140737488355328) (hm:1≤many∧many≤64): ∃x,bU ⟨b,true⟩ 0 (many:Int)=some x∧jZ 0 b many x:=by
 unfold bU;rw [if_pos (by decide)];refine gq (I:=fun s:List Ap×aj=>Byt s.2.fB∧s.2.fB.length<140737488355328∧(∀v∈s.1,Rgt v)∧s.1.length≤many∧ ∀l:List Ap,(∀v∈l,Rgt v)→l.length=many→b=oU l→s.1=l.take s.1.length∧s.2=⟨oU (l.drop s.1.length),true⟩) (μ:=fun s=>many - s.1.length) (Q:=jZ 0 b many) ?_ ⟨hb,hl,by simp,by simp,fun l _ _ h=>⟨rfl,by rw [h];rfl⟩⟩;rintro ⟨acc,r⟩ ⟨h1,h2,h3,h4,h5⟩;dsimp only at*
 have hend:acc.length=many∨r.fOk=false→jZ 0 b many (acc,r):=fun h=>⟨fun v hv=>(h3 v hv).ok,by dsimp only;omega,fun l hr hlen he=>by
  obtain ⟨_,_,_,_,he⟩:=ft he
  have he':b=oU l:=by
   rcases he with ⟨e,_⟩|⟨_,e⟩
   ·subst e;simp at hlen;omega
   ·exact e
  obtain ⟨g1,g2⟩:=h5 l hr hlen he';subst g2;rcases h with h|h
  ·rw [h, ←hlen,Z4] at g1;exact ⟨g1,rfl⟩
  ·cases h⟩
 unfold mW jQ cl
 by_cases hlt:acc.length<many
 ·rw [if_pos (decide_eq_true (by omega))]
  cases hok:r.fOk with
  |false=>right;exact ⟨_,rfl,hend (.inr hok)⟩
  | true =>
   left;rw [if_pos rfl];obtain ⟨v,r',e1,e2,e3,e4,_⟩:=wm h1 h2;rw [e1,Z0,aJ (by simp;omega),Z0];refine ⟨_,rfl,⟨e3,by dsimp only;omega,fun x hx=> ?_,by simp;omega,fun l hr hlen he=> ?_⟩,by simp;omega⟩
   ·rcases Zd.1 hx with hx|hx
    ·exact h3 x hx
    ·have:x=v:=by simpa using hx
     subst this;exact e2
   ·obtain ⟨g1,g2⟩:=h5 l hr hlen he
    subst g2;have hk:acc.length<l.length:=by omega
    have:=wk (hr _ (Z2 hk)) (ok:=true) (DU hk) h1 h2;rw [this] at e1;obtain ⟨rfl,rfl⟩:=Prod.mk.inj (Option.some.inj e1);refine ⟨?_,by simp⟩;simp only [Z3,Z6];rw [Z1 hk, ←g1]
 ·right
  rw [if_neg (by simp;omega),if_neg (by decide)];exact ⟨_,rfl,hend (.inl (by omega))⟩
theorem Pf: ∀n:_root_.Fin 256,qH 1 ((n.val:Nat):Int)=some (0,((n.val:Nat):Int)):=by decide+kernel
theorem GL (v:Ap) {n:Nat} (hn:n≤255):eW [v] (n:Int)=some (Z9 n v):=by
 have hm:qH 1 (n:Int)=some (0,(n:Int)):=Pf ⟨n,by omega⟩;have e1:X6.wrap ((([v]:List Ap).length:Nat):Int)=1:=by rw [bD];rfl
 have e2:X6.wrap (n:Int)=(n:Int):=by rw [bD];omega
 unfold eW gO uy;rw [if_neg (by simp),e1,e2,hm,Z0,Z0];unfold fa gN;dsimp only;rw [if_neg (by simp),if_neg (by simp;omega)];rw [ak (by omega),uD (by omega),Z0];refine oa (I:=fun s:Int×List Ap=> ∃k:Nat,s.1=(k:Int)∧k≤n∧(0<n→0<k)∧s.2=Z9 k v++Z9 (n - k) Ap.zero) (μ:=fun s=>n - s.1.toNat) ?_ ?_
 ·rintro ⟨_,_⟩ ⟨k,rfl,hk,hk0,rfl⟩
  dsimp only;unfold gM gL;have hlen:(Z9 k v++Z9 (n - k) Ap.zero).length=n:=by simp;omega
  by_cases hlt:k<n
  ·left
   have hv1:vw (Z9 k v++Z9 (n - k) Ap.zero) (k:Int) ((Z9 k v++Z9 (n - k) Ap.zero).length:Int)=some (k,n - k):=by
    unfold vw;rw [if_pos (by omega),hlen];simp
   have hv2:vw (Z9 k v++Z9 (n - k) Ap.zero) 0 (k:Int)=some (0,k):=by
    unfold vw;rw [if_pos (by omega)];simp
   have hmn:Nat.ble (min k (n - k)) cO=true:=Nat.ble_eq_true_of_le (by unfold cO;omega);rw [if_pos (by rw [hlen];exact decide_eq_true (by omega)),hv1,Z0,hv2,Z0];dsimp only;rw [rF hmn,Z0]
   have hc:cpv (Z9 k v++Z9 (n - k) Ap.zero) (k,n - k) (0,k)=some (Z9 (k+min k (n - k)) v++Z9 (n - (k+min k (n - k))) Ap.zero):=by
    unfold cpv;rw [if_pos (by dsimp only;omega)];dsimp only;unfold spl
    have e3:((Z9 k v++Z9 (n - k) Ap.zero).drop 0).take (min k (n - k))=Z9 (min k (n - k)) v:=by
     rw [Xf,List.take_append_of_le_length (by simp;omega)];rw [List.take_replicate];congr 1;omega
    rw [e3,Xj (by simp),Xn,List.drop_append,List.drop_replicate,List.drop_replicate,Xn];have e4:k - (k+min k (n - k))=0:=by omega
    have e5:n - k - (k+min k (n - k) - k)=n - (k+min k (n - k)):=by omega
    rw [e4,e5, ←Zj, ←List.replicate_append_replicate];simp
   rw [hc,Z0];refine ⟨_,rfl,⟨k+min k (n - k),?_,by omega,by omega,rfl⟩,?_⟩
   ·dsimp only;rw [ak (by omega)];omega
   ·dsimp only;rw [ak (by omega)]
    have:=hk0 (by omega);omega
  ·right
   have:k=n:=by omega
   subst this;rw [if_neg (by rw [hlen];simp)];simp
 ·refine ⟨min 1 n,by simp,by omega,by omega,?_⟩
  dsimp only;unfold cpy;rcases Nat.eq_zero_or_pos n with h|h
  ·subst h;rfl
  ·have:min 1 n=1:=by omega
   rw [this];have e:n=(n - 1)+1:=by omega
   rw [e,List.replicate_succ];simp
def tk1 (r:aj):List Int×aj:=match r.fB with|[]=>([0],⟨[],false⟩)|c::t=>([c],⟨t,r.fOk⟩)
theorem take_one (r:aj):cH r 1=some (tk1 r):=by
 have:=Ae (r:=r) (n:=1) (by omega);rw [show ((1:Nat):Int)=1 from rfl] at this;rw [this];obtain ⟨b,ok⟩:=r;unfold tk1;cases b with
 |nil=>rfl
 |cons c t=>simp
theorem uE (c:Int) (t:List Int) (ok:Bool):tk1 ⟨c::t,ok⟩=([c],⟨t,ok⟩):=rfl
theorem xe (r:aj) (h:Byt r.fB): ∃c r1,tk1 r=([c],r1)∧(0≤c∧c<256)∧Byt r1.fB∧r1.fB.length≤r.fB.length∧(r1.fOk=false∨(r.fB=c::r1.fB∧r1.fOk=r.fOk)):=by
 obtain ⟨b,ok⟩:=r;cases b with
 |nil=>exact ⟨0,⟨[],false⟩,rfl,by decide,.nil,Zn _,.inl rfl⟩
 |cons c t=>exact ⟨c,⟨t,ok⟩,rfl,h.head,h.tail,by simp,.inr ⟨rfl,rfl⟩⟩
def zf (rs:List aU):List Int:=rs.flatMap fun r=>r.fMany::bv r.fValue
theorem zg {rs:List aU} {j:Nat} (h:j<rs.length):gC (rs.take (j+1))=gC (rs.take j)++Z9 rs[j].fMany.toNat rs[j].fValue:=by
 unfold gC;rw [Z1 h,Xa,Y9]
theorem wo (rs:List aU) (j:Nat):gC rs=gC (rs.take j)++gC (rs.drop j):=by
 unfold gC;rw [←Xa,Zg]
theorem Fp {b:List Int} {many:Nat} (hb:Byt b) (hl:b.length<140737488355328) (hm:1≤many∧many≤64): ∃x,bU ⟨b,true⟩ 1 (many:Int)=some x∧jZ 1 b many x:=by
 unfold bU;rw [if_neg (by decide),if_pos (by decide)];refine gq (I:=fun s:List Ap×aj=>Byt s.2.fB∧s.2.fB.length<140737488355328∧(∀v∈s.1,Rgt v)∧s.1.length≤many∧ ∀l:List Ap,(∀v∈l,Rgt v)→l.length=many→b=xd l→ ∃j,j≤(bW l).length∧s.1=gC ((bW l).take j)∧s.2=⟨zf ((bW l).drop j),true⟩) (μ:=fun s=>if s.2.fOk then s.2.fB.length+1 else 0) (Q:=jZ 1 b many) ?_ ⟨hb,hl,by simp,by simp,fun l _ _ h=>⟨0,by omega,rfl,by rw [h];rfl⟩⟩;rintro ⟨acc,r⟩ ⟨h1,h2,h3,h4,h5⟩;dsimp only at*
 have hend:acc.length=many∨r.fOk=false→jZ 1 b many (acc,r):=fun h=>⟨fun v hv=>(h3 v hv).ok,by dsimp only;omega,fun l hr hlen he=>by
  obtain ⟨_,_,_,_,he⟩:=ft he
  have he':b=xd l:=by
   rcases he with ⟨e,_⟩|⟨_,e⟩
   ·subst e;simp at hlen;omega
   ·exact e
  obtain ⟨j,g0,g1,g2⟩:=h5 l hr hlen he';subst g2;rcases h with h|h
  ·refine ⟨?_,rfl⟩
   have h6:=wo (bW l) j;rw [od.2.2, ←g1] at h6;have h7:=congrArg List.length h6;simp only [Z3] at h7;have h8:gC ((bW l).drop j)=[]:=Za (by omega);rw [h8,Xk] at h6;exact h6.symm
  ·cases h⟩
 unfold mX jR cl
 by_cases hlt:acc.length<many
 ·rw [if_pos (decide_eq_true (by omega))]
  cases hok:r.fOk with
  |false=>right;exact ⟨_,rfl,hend (.inr hok)⟩
  | true =>
   left;rw [if_pos rfl,take_one,Z0];obtain ⟨rb,rok⟩:=r;dsimp only at*;subst hok;obtain ⟨c,r1,e1,hc,hr1,hr2,hr3⟩:=xe ⟨rb,true⟩ h1;replace hr2:r1.fB.length<140737488355328:=by dsimp only at hr2;omega
   dsimp only at hr3;rw [e1];dsimp only;rw [dF,Z0];obtain ⟨v,r',f1,f2,f3,f4,f5⟩:=wm hr1 hr2;obtain ⟨cn,rfl⟩:=Zc hc.1
   have hn:(if (Zb.wrap ((many:Int) - (acc.length:Int)))<(Zb.wrap (cn:Int)) then Zb.wrap ((many:Int) - (acc.length:Int)) else Zb.wrap (cn:Int))=((min cn (many - acc.length):Nat):Int):=by
    rw [ak (by omega),ak (by omega)];split<;>omega
   rw [f1,Z0];dsimp only;rw [hn,GL v (by omega),Z0,aJ (by simp;omega),Z0];refine ⟨_,rfl,⟨f3,by dsimp only;omega,fun x hx=> ?_,by simp;omega,fun l hr hlen he=> ?_⟩,?_⟩
   ·rcases Zd.1 hx with hx|hx
    ·exact h3 x hx
    ·have:=(Y3.1 hx).2
     subst this;exact f2
   ·obtain ⟨j,g0,g1,g2⟩:=h5 l hr hlen he
    obtain ⟨rfl,_⟩:=aj.mk.inj g2;obtain ⟨q1,q2,q3⟩:=od (l:=l)
    have hj:j<(bW l).length:=by
     rcases Nat.lt_or_ge j (bW l).length with h|h
     ·exact h
     ·rw [Xi h,q3] at g1
      rw [g1] at hlt;omega
    have hd:zf ((bW l).drop j)=(bW l)[j].fMany::(bv (bW l)[j].fValue++zf ((bW l).drop (j+1))):=by
     unfold zf;rw [Zh hj,Zx];rfl
    have hm1:=q1 _ (Z2 hj)
    have hr4:((cn:Int)::r1.fB=(bW l)[j].fMany::(bv (bW l)[j].fValue++zf ((bW l).drop (j+1))))∧r1.fOk=true:=by
     rcases hr3 with h|⟨h,h'⟩
     ·exfalso
      rw [hd,uE] at e1;rw [←(Prod.mk.inj e1).2] at h;cases h
     ·rw [←hd, ←h];exact ⟨rfl,h'⟩
    obtain ⟨hr5,hr6⟩:=hr4;obtain ⟨hc1,hr7⟩:=List.cons.inj hr5;obtain ⟨r1b,r1o⟩:=r1;dsimp only at*;subst hr6;have hv:=wk (hr _ hm1.2.2) (ok:=true) hr7 hr1 hr2;rw [hv] at f1;obtain ⟨rfl,rfl⟩:=Prod.mk.inj (Option.some.inj f1);refine ⟨j+1,by omega,?_,by simp⟩;have hel:=zg hj;have hsp:=wo (bW l) (j+1);rw [q3,hel, ←g1] at hsp;have:=congrArg List.length hsp;simp only [Z3,Xn] at this;rw [hel, ←g1];congr 2;omega
   ·dsimp only
    rcases hr3 with h|⟨h,h'⟩
    ·rw [if_neg (by rw [f5 h];decide)];simp
    ·have:=congrArg List.length h
     simp only [Z7] at this;simp only [if_true];split<;>omega
 ·right
  rw [if_neg (by simp;omega),if_neg (by decide)];exact ⟨_,rfl,hend (.inl (by omega))⟩
theorem zh {r:aj} (hb:Byt r.fB):fZ r=some (if r.fB.length<8 then (0,⟨[],false⟩) else (en (r.fB.take 8),⟨r.fB.drop 8,r.fOk⟩)):=by
 have key: ∀(t:List Int) (r':aj),Byt t→t.length=8→aq (fun s:(Int×Int)=>gr (t,r') s.1 s.2) (0,0)=some (en t,r'):=by
  intro t r' ht hl;refine aW (fun i=>(en (t.take i),(i:Int))) 8 (by simp [en]) (fun i hi=> ?_) ?_
  ·dsimp only
   unfold gr;have hi':i<t.length:=by omega
   have hbd:=z6 (t.take i) (ht.take i);have hci:=ht t[i] (Z2 hi')
   have hp:(256:Int)^(t.take i).length≤256^7:=by
    have:(t.take i).length≤7:=by simp;omega
    have h9:=Xo (show 0<256 by omega) this;have h8:=Int.ofNat_le.2 h9;simpa [Xt] using h8
   have hsh:=y6 (x:=en (t.take i)) (k:=8) (by omega);rw [show ((8:Nat):Int)=8 from rfl] at hsh
   have e:en (t.take (i+1))=en (t.take i)*256+t[i]:=by
    rw [Z1 hi',tn]
   have e1:en (t.take i)*2^8%18446744073709551616=en (t.take i)*2^8:=by omega
   have e2:t[i]%18446744073709551616=t[i]:=by omega
   dsimp only;rw [if_pos (decide_eq_true (by omega)),aA hi',Z0,aV (by omega),hsh,bD,e,e1,e2,GC 8 (by omega) (by omega) (by omega) (by omega)]
   rfl
  ·unfold gr mF
   dsimp only;rw [if_neg (by rw [hl];simp),Xi (by omega)];rfl
 unfold fZ;have h8:=Ae (r:=r) (n:=8) (by omega);rw [show ((8:Nat):Int)=8 from rfl] at h8;rw [h8,Z0]
 by_cases h:r.fB.length<8
 ·rw [if_pos h,if_pos h,key _ _ (fun c hc=>by rw [Y5 hc];decide) (by simp)];rfl
 ·rw [if_neg h,if_neg h,key _ _ (hb.take _) (by simp;omega)]
theorem GM {r:aj} (hb:Byt r.fB): ∃x,eX r=some x∧(Byt x.2.fB∧x.2.fB.length≤r.fB.length):=by
 unfold eX;refine gq (I:=fun s:Int×Int×aj=> ∃k:Nat,s.2.1=(k:Int)∧k≤76∧Byt s.2.2.fB∧s.2.2.fB.length≤r.fB.length) (μ:=fun s=>77 - s.2.1.toNat) (Q:=fun x:Int×aj=>Byt x.2.fB∧x.2.fB.length≤r.fB.length) ?_ ⟨0,rfl,by omega,hb,Zn _⟩;rintro ⟨z,_,r1⟩ ⟨k,rfl,hk,h1,h2⟩;dsimp only at*;unfold jP gP mV
 by_cases h70:(k:Int)<70
 ·rw [if_pos (decide_eq_true h70)]
  cases hok:r1.fOk with
  |false=>right;exact ⟨_,rfl,h1,h2⟩
  | true =>
   rw [if_pos rfl,take_one,Z0];obtain ⟨c,r2,e1,hc,hr1,hr2,_⟩:=xe r1 h1;rw [e1];dsimp only;rw [dF,Z0,tR,Z0]
   by_cases h128:c<128
   ·right;rw [if_pos (decide_eq_true h128)];exact ⟨_,rfl,hr1,by dsimp only;omega⟩
   ·left;rw [if_neg (by simpa using h128)]
    refine ⟨_,rfl,⟨k+7,?_,by omega,hr1,by dsimp only;omega⟩,?_⟩
    ·dsimp only;rw [ak (by omega)];rfl
    ·dsimp only;rw [ak (by omega)];omega
 ·right;rw [if_neg (by simpa using h70),if_neg (by decide)];exact ⟨_,rfl,h1,h2⟩
theorem LO: ∀n:_root_.Fin 256,n.val&&&127=n.val%128:=by decide+kernel
theorem Fq (q:Nat): ∃(c:Nat) (t:List Int),fk q=(c:Int)::t∧c<256∧c%128=q%128∧((c<128∧q<128∧t=[])∨(128≤c∧128≤q∧t=fk (q/128))):=by
 by_cases h:q<128
 ·exact ⟨q,[],pB h,by omega,rfl,.inl ⟨h,h,rfl⟩⟩
 ·exact ⟨q%128+128,_,rK h,by omega,by omega,.inr ⟨by omega,by omega,rfl⟩⟩
theorem GN {z:Nat} (hz:z<18446744073709551616) (rest:List Int):eX ⟨fk z++rest,true⟩=some ((z:Int),⟨rest,true⟩):=by
 unfold eX;have h64:(2:Nat)^64=18446744073709551616:=by decide
 refine oa (I:=fun s:Int×Int×aj=> ∃i:Nat,i≤9∧s=(((z%2^(7*i):Nat):Int),((7*i:Nat):Int),⟨fk (z/2^(7*i))++rest,true⟩)) (μ:=fun s=>77 - s.2.1.toNat) ?_ ⟨0,by omega,by simp [Nat.mod_one]⟩;rintro _ ⟨i,hi,rfl⟩;dsimp only;unfold jP gP;obtain ⟨c,t,e1,hc,hcm,hcase⟩:=Fq (z/2^(7*i))
 have hqz:2^(7*i)*(z/2^(7*i)%128)+z%2^(7*i)≤z:=by
  have h1:=Nat.div_add_mod z (2^(7*i));have h2:2^(7*i)*(z/2^(7*i)%128)≤2^(7*i)*(z/2^(7*i)):=Nat.mul_le_mul_left _ (Nat.mod_le _ _);omega
 have hnext:z%2^(7*(i+1))=2^(7*i)*(z/2^(7*i)%128)+z%2^(7*i):=by
  rw [show 7*(i+1)=7*i+7 by omega,Nat.pow_add,Nat.mod_mul,show (2:Nat)^7=128 from rfl];omega
 have hdiv:z/2^(7*(i+1))=z/2^(7*i)/128:=by
  rw [show 7*(i+1)=7*i+7 by omega,Nat.pow_add,Nat.div_div_eq_div_mul]
 have hlt:z%2^(7*i)<2^(7*i):=Nat.mod_lt _ (Nat.pow_pos (by decide))
 have hor:bOr .u64 ((z%2^(7*i):Nat):Int) (em .u64 (X6.wrap (dh .u8 (c:Int) 127)) ((7*i:Nat):Int))=((z%2^(7*(i+1)):Nat):Int):=by
  have h1:dh .u8 (c:Int) 127=((c%128:Nat):Int):=by
   have:=LO ⟨c,hc⟩;simp only at this;rw [show (127:Int)=((127:Nat):Int) from rfl,LH hc (by omega),this]
  rw [h1,hcm,bD,y6 (by omega)]
  have h2:(((z/2^(7*i)%128:Nat):Int))%18446744073709551616=((z/2^(7*i)%128:Nat):Int):=by
   generalize z/2^(7*i)=q;omega
  have h3:(((z/2^(7*i)%128:Nat):Int))*2^(7*i)=((2^(7*i)*(z/2^(7*i)%128):Nat):Int):=by
   rw [Int.natCast_mul,Xt,Int.mul_comm];rfl
  rw [h2,h3]
  have h4:((2^(7*i)*(z/2^(7*i)%128):Nat):Int)%18446744073709551616=((2^(7*i)*(z/2^(7*i)%128):Nat):Int):=by
   generalize 2^(7*i)*(z/2^(7*i)%128)=u at*;omega
  rw [h4,Iz (by omega) (by omega),Nat.or_comm, ←Xr hlt,hnext]
 rw [if_pos (decide_eq_true (by omega)),if_pos rfl,take_one,Z0,e1,Xc,uE];dsimp only;rw [dF,Z0,tR,Z0,hor];rcases hcase with ⟨g1,g2,rfl⟩|⟨g1,g2,rfl⟩
 ·right
  rw [if_pos (decide_eq_true (by omega))]
  have:z%2^(7*(i+1))=z:=by
   apply Nat.mod_eq_of_lt;rw [show 7*(i+1)=7*i+7 by omega,Nat.pow_add,Nat.mul_comm];have:=(Nat.div_lt_iff_lt_mul (Nat.pow_pos (n:=7*i) (show 0<2 by decide))).1 g2;exact this
  rw [this];rfl
 ·left
  rw [if_neg (by simp;omega)];refine ⟨_,rfl,⟨i+1,?_,?_⟩,?_⟩
  ·have h1:128*2^(7*i)≤z:=(Nat.le_div_iff_mul_le (Nat.pow_pos (by decide))).1 g2
   rcases Nat.lt_or_ge i 9 with h|h
   ·omega
   ·have:i=9:=by omega
    subst this;have:(128:Nat)*2^(7*9)=1180591620717411303424:=by decide
    omega
  ·rw [hdiv,ak (by omega)]
   congr 2
  ·dsimp only;rw [ak (by omega)];omega
theorem Kr {a:Int} (ha:cY a):dR .i64 a (-1)= -a - 1∧dR .i64 a 0=a:=by
 unfold dR;rw [jf,jf]
 have hb:((Ze 64 a).toNat:Int)=a%18446744073709551616:=by
  rw [Zm];omega
 constructor
 ·show (((Ze 64 a^^^Ze 64 (-1)).toNat:Nat)+9223372036854775808:Int)%18446744073709551616 - 9223372036854775808=_
  have h2:Ze 64 (-1)=BitVec.allOnes 64:=by decide
  rw [h2,BitVec.xor_allOnes,BitVec.toNat_not];have:=(Ze 64 a).isLt;have e:(2:Nat)^64=18446744073709551616:=by decide
  unfold cY at ha;omega
 ·show (((Ze 64 a^^^Ze 64 0).toNat:Nat)+9223372036854775808:Int)%18446744073709551616 - 9223372036854775808=_
  have h2:Ze 64 0=0#64:=by decide
  rw [h2,BitVec.xor_zero];unfold cY at ha;omega
theorem Pg {d:Int} (h:cY d):dR .i64 (Zb.wrap (aD .u64 (zig d:Int) 1)) (Zb.wrap (0 - (Zb.wrap (dh .u64 (zig d:Int) 1))))=d:=by
 have hz:=nj h;have h1:aD .u64 (zig d:Int) 1=((zig d/2:Nat):Int):=by have:=pW (x:=(zig d:Int)) (k:=1) (by omega);simpa using this
 have h2:dh .u64 (zig d:Int) 1=((zig d%2:Nat):Int):=by
  rw [show (1:Int)=((1:Nat):Int) from rfl,Jr hz (by omega),Nat.and_one_is_mod]
 rw [h1,h2,ak (n:=((zig d/2:Nat):Int)) (by omega),ak (n:=((zig d%2:Nat):Int)) (by omega)];have hr:cY ((zig d/2:Nat):Int):=by unfold cY;omega
 obtain ⟨g1,g2⟩:=Kr hr;unfold zig at*
 by_cases hd:d<0
 ·rw [if_pos hd] at*
  have:(0 - (((-2*d - 1).toNat%2:Nat):Int))= -1:=by omega
  rw [this,show Zb.wrap (-1)= -1 from by decide,g1];omega
 ·rw [if_neg hd] at*
  have:(0 - (((2*d).toNat%2:Nat):Int))=0:=by omega
  rw [this,show Zb.wrap 0=0 from by decide,g2];omega
theorem GO {n m:Int} (h:cY m):Zb.wrap (n+Zb.wrap (m - n))=m:=by
 rw [jf,jf];unfold cY at h;omega
theorem Ks {v:Ap} (h:Rgt v) (hk:v.fKind=2):v=iH v.fInt:=by
 cases h<;>first|rfl|(simp at hk)
theorem sI {l:List Ap} (h:jG l=true) (hr: ∀v∈l,Rgt v): ∀v∈l,v=iH v.fInt∧cY v.fInt:=fun v hv=>by
 have:=List.all_eq_true.1 h v hv;exact ⟨Ks (hr v hv) (by simpa using this),(hr v hv).ok.int⟩
theorem DW {b:List Int} {many:Nat} (hb:Byt b) (hl:b.length<140737488355328) (hm:1≤many∧many≤64): ∃x,bU ⟨b,true⟩ 2 (many:Int)=some x∧jZ 2 b many x:=by
 unfold bU;rw [if_neg (by decide),if_neg (by decide),if_pos (by decide),zh hb,Z0];unfold ez;rw [Z0,aJ (by simp),Z0];generalize hx:(if ({ fB:=b,fOk:=true }:aj).fB.length<8 then ((0:Int),({ fB:=[],fOk:=false }:aj)) else (en (({ fB:=b,fOk:=true }:aj).fB.take 8),⟨({ fB:=b,fOk:=true }:aj).fB.drop 8,true⟩))=x0
 have hx1:Byt x0.2.fB∧x0.2.fB.length<140737488355328:=by
  rw [←hx];dsimp only;split
  ·exact ⟨.nil,by simp⟩
  ·exact ⟨hb.drop _,by simp;omega⟩
 refine gq (I:=fun s:List Ap×Int×aj=>Byt s.2.2.fB∧s.2.2.fB.length<140737488355328∧(∀v∈s.1,VOK v)∧s.1.length≤many∧ ∀l:List Ap,(∀v∈l,Rgt v)→l.length=many→jG l=true→b=nk (l.map (·.fInt))→ ∃k,s.1.length=k+1∧s.1=l.take (k+1)∧s.2.1=(l.map (·.fInt)).getD k 0∧s.2.2=⟨((Zw (many - 1)).drop k).flatMap (jF (l.map (·.fInt))),true⟩) (μ:=fun s=>many - s.1.length) (Q:=jZ 2 b many) ?_ ⟨hx1.1,hx1.2,fun v hv=> ?_,by simp;omega,fun l hr hlen hi he=> ?_⟩
 ·rintro ⟨acc,n,r⟩ ⟨h1,h2,h3,h4,h5⟩
  dsimp only at*
  have hend:acc.length=many∨r.fOk=false→jZ 2 b many (acc,r):=fun h=>⟨h3,by dsimp only;omega,fun l hr hlen he=>by
   obtain ⟨_,_,_,hi,he⟩:=ft he
   have he':b=nk (l.map (·.fInt)):=by
    rcases he with ⟨e,_⟩|⟨_,e⟩
    ·subst e;simp at hlen;omega
    ·exact e
   obtain ⟨k,g1,g2,g3,g4⟩:=h5 l hr hlen (hi (.inl rfl)) he';subst g4;rcases h with h|h
   ·rw [←g1,h, ←hlen,Z4] at g2;exact ⟨g2,rfl⟩
   ·cases h⟩
  unfold mY jS cl
  by_cases hlt:acc.length<many
  ·rw [if_pos (decide_eq_true (by omega))]
   cases hok:r.fOk with
   |false=>right;exact ⟨_,rfl,hend (.inr hok)⟩
   | true =>
    left;rw [if_pos rfl];obtain ⟨⟨z,r'⟩,e1,e2,e3⟩:=GM h1;rw [e1,Z0];unfold ez;rw [Z0,aJ (by simp;omega),Z0];dsimp only at e2 e3 ⊢;refine ⟨_,rfl,⟨e2,by dsimp only;omega,fun x hx=> ?_,by simp;omega,fun l hr hlen hi he=> ?_⟩,by simp;omega⟩
    ·rcases Zd.1 hx with hx|hx
     ·exact h3 x hx
     ·have:x=iH (Zb.wrap (n+(dR .i64 (Zb.wrap (aD .u64 z 1)) (Zb.wrap (0 - (Zb.wrap (dh .u64 z 1))))))):=by simpa using hx
      subst this;exact (Rgt.int _ (ll _)).ok
    ·obtain ⟨k,g1,g2,g3,g4⟩:=h5 l hr hlen hi he
     have hk:k+1<l.length:=by omega
     have hin:=sI hi hr;have hns: ∀i (h:i<l.length),(l.map (·.fInt)).getD i 0=l[i].fInt:=fun i h=>by rw [Aj (by simpa using h)];simp
     have hd:(Zw (many - 1)).drop k=k::(Zw (many - 1)).drop (k+1):=by
      rw [Zh (by simp;omega)];simp
     rw [hd,Zx] at g4
     have hds:jF (l.map (·.fInt)) k=fk (zig (Zb.wrap (l[k+1].fInt - l[k].fInt))):=by
      unfold jF;rw [hns _ hk,hns _ (by omega)]
     rw [hds] at g4;rw [g4,GN (nj (ll _))] at e1;obtain ⟨rfl,rfl⟩:=Prod.mk.inj (Option.some.inj e1);rw [Pg (ll _),g3,hns _ (by omega),GO (hin _ (Z2 hk)).2];refine ⟨k+1,by simp;omega,?_,(hns _ hk).symm,rfl⟩;dsimp only;rw [Z1 hk,g2];congr 2;exact (hin _ (Z2 hk)).1.symm
  ·right
   rw [if_neg (by simp;omega),if_neg (by decide)];exact ⟨_,rfl,hend (.inl (by omega))⟩
 ·have:v=iH (Zb.wrap x0.1):=by simpa using hv
  subst this;exact (Rgt.int _ (ll _)).ok
 ·have h0:0<l.length:=by omega
  have hin:=sI hi hr;have hns: ∀i (h:i<l.length),(l.map (·.fInt)).getD i 0=l[i].fInt:=fun i h=>by rw [Aj (by simpa using h)];simp
  have h64:=(hin _ (Z2 h0)).2
  have hb8:b=be8 (l[0].fInt%18446744073709551616)++(Zw (many - 1)).flatMap (jF (l.map (·.fInt))):=by
   rw [he];unfold nk;rw [hns 0 h0,Zp,hlen]
  have hlen8: ¬ b.length<8:=by rw [hb8];simp [cf]
  dsimp only at hx;rw [if_neg hlen8] at hx;have h1:b.take 8=be8 (l[0].fInt%18446744073709551616):=by rw [hb8];exact Xj (cf _)
  have h2:b.drop 8=(Zw (many - 1)).flatMap (jF (l.map (·.fInt))):=by rw [hb8];exact List.drop_left' (cf _)
  rw [h1,h2,yi (by omega) (by omega)] at hx;subst hx;refine ⟨0,rfl,?_,?_,rfl⟩
  ·dsimp only
   rw [Z1 h0,yj h64];simp only [List.take_zero,Zz];congr 1;exact (hin _ (Z2 h0)).1.symm
  ·dsimp only;rw [hns 0 h0,yj h64]
theorem Bg (r:aj) (many w:Nat):(rI r many w).1.length=many∧(∀x∈(rI r many w).1,∃n:Nat,x=(n:Int)∧n<18446744073709551616):=by
  unfold rI;split
  · exact ⟨by simp,fun x hx=>⟨0,(Y3.1 hx).2,by decide⟩⟩
  split
  · exact ⟨by simp,fun x hx=>⟨0,(Y3.1 hx).2,by decide⟩⟩
  · rename_i h _
    refine ⟨by simp,fun x hx=> ?_⟩;obtain ⟨i,_,rfl⟩:=X3.1 hx;refine ⟨_,rfl,?_⟩;have h1:=mt (fun k=>eu r.fB (i*w+k)) w;have h2:(2:Nat)^w≤2^64:=Xo (by decide) (by omega);have h3:(2:Nat)^64=18446744073709551616:=by decide
    unfold unp;omega
theorem xF {pl:List Int} {w:Nat} (hw:w≤64) (h: ∀x∈pl,0≤x∧x<2^w):rI ⟨cM pl w,true⟩ pl.length w=(pl,⟨[],true⟩):=by
  have hl:(cM pl w).length=(pl.length*w+7)/8:=fE _ _ _;unfold rI;rw [if_neg (by omega),if_neg (by dsimp only;omega)];dsimp only;congr 1
  · apply List.ext_getElem
    · simp
    · intro i h1 h2
      have:=Fi pl w i [] h2 (h _ (Z2 h2));rw [Xk] at this;simp [this]
  · rw [←hl,List.drop_length]
theorem Fs {b : List Int} {many : Nat} (hb : Byt b) (hl : b.length < 140737488355328) (hm : 1 ≤ many ∧ many ≤ 64) : ∃ x, bU ⟨b, true⟩ 3 (many : Int) = some x ∧ jZ 3 b many x := by
  unfold bU;rw [if_neg (by decide),if_neg (by decide),if_neg (by decide),if_pos (by decide),take_one,Z0];obtain ⟨c,r1,e1,hc,hr1,hr2,hr3⟩:=xe ⟨b,true⟩ hb;rw [e1];dsimp only at*;rw [dF,Z0];obtain ⟨cn,rfl⟩:=Zc hc.1
  refine gq (I:=fun s:List Ap×Int×aj=>Byt s.2.2.fB∧s.2.2.fB.length<140737488355328∧(∀v∈s.1,Rgt v)∧s.1.length≤cn∧s.2.1=(s.1.length:Int)∧ ∀l:List Ap,(∀v∈l,Rgt v)→l.length=many→b=nP l→s.1=(aP l).take s.1.length∧cn=(aP l).length∧s.2.2=⟨((aP l).drop s.1.length).flatMap bv++cM (l.map fun v=>(fm (aP l) v:Int)) (wid ((aP l).length - 1)),true⟩) (μ:=fun s=>cn - s.1.length) (Q:=jZ 3 b many) ?_ ⟨hr1,by dsimp only;omega,by simp,by simp,rfl,fun l hr hlen he=> ?_⟩
  · rintro ⟨W, wn, r⟩ ⟨h1, h2, h3, h4, hwn, h5⟩
    dsimp only at*;subst hwn;unfold nf
    by_cases hlt:W.length<cn
    · left
      rw [if_pos (decide_eq_true (by omega))];obtain ⟨v,r',f1,f2,f3,f4,f5⟩:=wm h1 h2;rw [f1,Z0,aJ (by simp;omega),Z0];refine ⟨_,rfl,⟨f3,by dsimp only;omega,fun x hx=> ?_,by simp;omega,?_,fun l hr hlen he=> ?_⟩,by simp;omega⟩
      · rcases Zd.1 hx with hx | hx
        · exact h3 x hx
        · have : x = v := by simpa using hx
          subst this;exact f2
      · dsimp only;rw [bm];simp;omega
      · obtain ⟨g1, g2, g3⟩ := h5 l hr hlen he
        have hk:W.length<(aP l).length:=by omega
        obtain ⟨w1,w2,w3⟩:=fj hr;rw [Zh hk,Zx,Zj] at g3;subst g3;have hv:=wk (hr _ ((w2 _).1 (Z2 hk))) (ok:=true) rfl h1 h2;rw [hv] at f1;obtain ⟨rfl,rfl⟩:=Prod.mk.inj (Option.some.inj f1);refine ⟨?_,g2,by simp⟩;simp only [Z3,Z6];rw [Z1 hk, ←g1]
    · right
      rw [if_neg (by simp;omega)];unfold mZ
      have hmx:X6.wrap (Zb.wrap ((if (W.length:Int)<1 then 1 else (W.length:Int)) - 1))=((W.length - 1:Nat):Int):=by
        rw [ak (by split<;>omega),bD];split<;>omega
      have hwid:wid (W.length - 1)≤64:=oT (Zt (show W.length - 1<256 by omega) (by decide));rw [hmx,len_eq (by omega),Z0,xE h1 (by omega),Z0];obtain ⟨u1,u2⟩:=Bg r many (wid (W.length - 1))
      have hex: ∀l:List Ap,(∀v∈l,Rgt v)→l.length=many→b=nP l→W=aP l∧rI r many (wid (W.length - 1))=(l.map (fun v=>(fm (aP l) v:Int)),⟨[],true⟩):=fun l hr hlen he=>by
        obtain ⟨g1,g2,g3⟩:=h5 l hr hlen he;obtain ⟨w1,w2,w3⟩:=fj hr;have e2:W.length=(aP l).length:=by omega
        rw [e2,Z4] at g1;refine ⟨g1,?_⟩;rw [e2,List.drop_length] at g3;simp only [List.flatMap_nil,Zz] at g3;rw [g3,e2, ←hlen]
        have:=xF (pl:=l.map fun v=>(fm (aP l) v:Int)) (w:=wid ((aP l).length - 1)) (by rw [←e2];exact hwid) (fun x hx=>by
          obtain ⟨v,hv,rfl⟩:=X3.1 hx;have hp:=nV ((w2 v).2 hv);have hw2:=CR ((aP l).length - 1);refine ⟨by omega,?_⟩;have:((fm (aP l) v:Nat):Int)<((2^wid ((aP l).length - 1):Nat):Int):=Int.ofNat_lt.2 (by omega)
          rwa [Xt] at this)
        rw [Zp] at this;exact this
      generalize rI r many (wid (W.length - 1))=U at*;obtain ⟨pl,r2⟩:=U;dsimp only at*
      have hin: ∃x,aq (fun s:(List Ap×Int)=>jT W (pl,r2) s.1 s.2) ([],0)=some x∧jZ 3 b many x:=by
        refine gq (I:=fun s:List Ap×Int=>(∀v∈s.1,Rgt v)∧s.1.length≤many∧s.2=(s.1.length:Int)∧ ∀l:List Ap,(∀v∈l,Rgt v)→l.length=many→b=nP l→s.1=l.take s.1.length) (μ:=fun s=>many - s.1.length) (Q:=jZ 3 b many) ?_ ⟨by simp,by simp,rfl,fun l _ _ _=>by simp⟩;rintro ⟨acc,an⟩ ⟨k1,k2,han,k3⟩;dsimp only at*;subst han;unfold jT cl;dsimp only
        by_cases hlt2:acc.length<many
        · have hi : acc.length < pl.length := by omega
          obtain ⟨n,hn1,hn2⟩:=u2 _ (Z2 hi);have e3:X6.wrap (W.length:Int)=(W.length:Int):=by rw [bD];omega
          rw [if_pos (decide_eq_true (by omega)),aA hi,Z0,e3,hn1]
          by_cases hge:W.length≤n
          · right
            rw [if_pos (decide_eq_true (by omega))];refine ⟨_,rfl,by simp,by simp,fun l hr hlen he=> ?_⟩;exfalso;obtain ⟨_,_,_,_,he⟩:=ft he
            have he':b=nP l:=by
              rcases he with ⟨e,_⟩|⟨_,e⟩
              · subst e;simp at hlen;omega
              · exact e
            obtain ⟨g1,g2⟩:=hex l hr hlen he';obtain ⟨rfl,_⟩:=Prod.mk.inj g2;have hp:=nV (((fj hr).2.1 _).2 (Z2 (show acc.length<l.length by omega)));simp only [List.getElem_map] at hn1;rw [g1] at hge;omega
          · left
            rw [if_neg (by simp;omega),aA (by omega),Z0,aJ (by simp;omega),Z0];refine ⟨_,rfl,⟨fun x hx=> ?_,by simp;omega,?_,fun l hr hlen he=> ?_⟩,by simp;omega⟩
            · rcases Zd.1 hx with hx | hx
              · exact k1 x hx
              · have : x = W[n] := by simpa using hx
                subst this;exact h3 _ (Z2 _)
            · dsimp only;rw [aV (by omega)];simp
            · have q := k3 l hr hlen he
              obtain ⟨g1,g2⟩:=hex l hr hlen he;obtain ⟨rfl,_⟩:=Prod.mk.inj g2;have hk:acc.length<l.length:=by omega
              have hmem:=((fj hr).2.1 _).2 (Z2 hk);simp only [List.getElem_map] at hn1;have hnp:n=fm (aP l) l[acc.length]:=by omega
              subst g1;subst hnp;dsimp only;simp only [Z3,Z6];rw [Z1 hk, ←q,yn hmem]
        · right
          rw [if_neg (by simp;omega)];refine ⟨_,rfl,fun v hv=>(k1 v hv).ok,by dsimp only;omega,fun l hr hlen he=> ?_⟩;obtain ⟨_,_,_,_,he⟩:=ft he
          have he':b=nP l:=by
            rcases he with ⟨e,_⟩|⟨_,e⟩
            · subst e;simp at hlen;omega
            · exact e
          have q:=k3 l hr hlen he';obtain ⟨g1,g2⟩:=hex l hr hlen he';obtain ⟨_,rfl⟩:=Prod.mk.inj g2;have:acc.length=l.length:=by omega
          rw [this,Z4] at q;exact ⟨q,rfl⟩
      obtain ⟨x,hx1,hx2⟩:=hin;rw [hx1];exact ⟨x,rfl,hx2⟩
  · obtain ⟨w1, w2, w3⟩ := fj hr
    have hcons:b=(((aP l).length:Nat):Int)::((aP l).flatMap bv++cM (l.map fun v=>(fm (aP l) v:Int)) (wid ((aP l).length - 1))):=he;subst hcons;rw [uE] at e1;obtain ⟨e2,e3⟩:=Prod.mk.inj e1;refine ⟨by simp,?_,?_⟩
    · have:=(List.cons.inj e2).1;omega
    · rw [←e3];rfl
theorem Ft {b : List Int} {many : Nat} {kind : Int} (hk : kind ≠ 0 ∧ kind ≠ 1 ∧ kind ≠ 2 ∧ kind ≠ 3) (hb : Byt b) (hm : 1 ≤ many ∧ many ≤ 64) : ∃ x, bU ⟨b, true⟩ kind (many : Int) = some x ∧ jZ kind b many x := by
  unfold bU;rw [if_neg (by simpa using hk.1),if_neg (by simpa using hk.2.1),if_neg (by simpa using hk.2.2.1),if_neg (by simpa using hk.2.2.2),zh hb,Z0];dsimp only;generalize hx:(if b.length<8 then ((0:Int),({ fB:=[],fOk:=false }:aj)) else (en (b.take 8),⟨b.drop 8,true⟩))=x0
  have hx1:Byt x0.2.fB:=by
    rw [←hx];split
    · exact .nil
    · exact hb.drop _
  rw [take_one,Z0];obtain ⟨c,r1,e1,hc,hr1,hr2,hr3⟩:=xe x0.2 hx1;rw [e1];dsimp only;obtain ⟨cn,rfl⟩:=Zc hc.1;rw [dF,Z0,ak (by omega),xE hr1 (by omega),Z0];obtain ⟨u1,u2⟩:=Bg r1 many cn
  have hex: ∀l:List Ap,(∀v∈l,Rgt v)→l.length=many→jG l=true→b=nl (l.map (·.fInt))→x0.1=jV (l.map (·.fInt))%18446744073709551616∧rI r1 many cn=(bQ (l.map (·.fInt)),⟨[],true⟩):=fun l hr hlen hi he=>by
    have hin:=sI hi hr;have h': ∀x∈l.map (·.fInt),cY x:=fun x hx=>by obtain ⟨v,hv,rfl⟩:=X3.1 hx;exact (hin v hv).2
    have hu:=oh h';obtain ⟨hw,hw2⟩:=lC hu
    have he2:b=be8 (jV (l.map (·.fInt))%18446744073709551616)++((dK (bQ (l.map (·.fInt))):Nat):Int)::cM (bQ (l.map (·.fInt))) (dK (bQ (l.map (·.fInt)))):=by
      rw [he];unfold nl;simp
    have h8: ¬ b.length<8:=by rw [he2];simp [cf]
    rw [if_neg h8] at hx;have h1:b.take 8=be8 (jV (l.map (·.fInt))%18446744073709551616):=by rw [he2];exact Xj (cf _)
    have h2:b.drop 8=((dK (bQ (l.map (·.fInt))):Nat):Int)::cM (bQ (l.map (·.fInt))) (dK (bQ (l.map (·.fInt)))):=by rw [he2];exact List.drop_left' (cf _)
    rw [h1,h2,yi (by omega) (by omega)] at hx;subst hx;dsimp only at e1;rw [uE] at e1;obtain ⟨e3,e4⟩:=Prod.mk.inj e1;have e5:cn=dK (bQ (l.map (·.fInt))):=by have:=(List.cons.inj e3).1;omega
    subst e4;refine ⟨rfl,?_⟩
    have:=xF (pl:=bQ (l.map (·.fInt))) (w:=dK (bQ (l.map (·.fInt)))) hw (fun x hx=>by
      have h3:=hu x hx;have h4:=CR x.toNat;have h5:=hw2 x hx;have h6:(2:Nat)^wid x.toNat≤2^dK (bQ (l.map (·.fInt))):=Xo (by decide) h5;refine ⟨h3.1,?_⟩;have:((x.toNat:Nat):Int)<((2^dK (bQ (l.map (·.fInt))):Nat):Int):=Int.ofNat_lt.2 (by omega);rw [Xt] at this;have e:((x.toNat:Nat):Int)=x:=by omega
      rw [e] at this
      exact this)
    have hal:(bQ (l.map (·.fInt))).length=many:=by simp [bQ,hlen]
    rw [hal] at this;rw [e5];exact this
  generalize rI r1 many cn=U at*;obtain ⟨pl,r2⟩:=U;obtain ⟨n0,rn⟩:=x0;dsimp only at*;refine gq (I:=fun s:List Ap×Int=>(∀v∈s.1,Rgt v)∧s.1.length≤many∧s.2=(s.1.length:Int)∧ ∀l:List Ap,(∀v∈l,Rgt v)→l.length=many→jG l=true→b=nl (l.map (·.fInt))→s.1=l.take s.1.length) (μ:=fun s=>many - s.1.length) (Q:=jZ kind b many) ?_ ⟨by simp,by simp,rfl,fun l _ _ _ _=>by simp⟩;rintro ⟨acc,an⟩ ⟨k1,k2,han,k3⟩;dsimp only at*;subst han;unfold ng cl;dsimp only
  by_cases hlt2:acc.length<many
  · have hi : acc.length < pl.length := by omega
    left;unfold ez;rw [if_pos (decide_eq_true (by omega)),aA hi,Z0,Z0,aJ (by simp;omega),Z0];refine ⟨_,rfl,⟨fun x hx=> ?_,by simp;omega,?_,fun l hr hlen hi2 he=> ?_⟩,by simp;omega⟩
    · rcases Zd.1 hx with hx | hx
      · exact k1 x hx
      · have : x = iH (Zb.wrap (X6.wrap (n0 + pl[acc.length]))) := by simpa using hx
        subst this;exact .int _ (ll _)
    · dsimp only;rw [aV (by omega)];simp
    · have q := k3 l hr hlen hi2 he
      obtain ⟨g1,g2⟩:=hex l hr hlen hi2 he;obtain ⟨rfl,_⟩:=Prod.mk.inj g2;have hin:=sI hi2 hr;have hk:acc.length<l.length:=by omega
      have h1:=hin _ (Z2 hk);dsimp only;simp only [Z3,Z6];rw [Z1 hk, ←q];congr 1
      have e9:Zb.wrap (X6.wrap (n0+(bQ (l.map (·.fInt)))[acc.length]))=l[acc.length].fInt:=by
        have:(bQ (l.map (·.fInt)))[acc.length]=l[acc.length].fInt - jV (l.map (·.fInt)):=by simp [bQ]
        rw [this,g1,bD,jf];have:=h1.2;unfold cY at this;omega
      rw [e9];congr 1;exact h1.1.symm
  · right
    rw [if_neg (by simp;omega)];refine ⟨_,rfl,fun v hv=>(k1 v hv).ok,by dsimp only;omega,fun l hr hlen he=> ?_⟩;obtain ⟨hk5,_,_,hi2,he⟩:=ft he;have hk4:kind=4:=by omega
    subst hk4
    have he':b=nl (l.map (·.fInt)):=by
      rcases he with ⟨e,_⟩|⟨_,e⟩
      · subst e;simp at hlen;omega
      · exact e
    have q:=k3 l hr hlen (hi2 (.inr rfl)) he';obtain ⟨g1,g2⟩:=hex l hr hlen (hi2 (.inr rfl)) he';obtain ⟨_,rfl⟩:=Prod.mk.inj g2;have:acc.length=l.length:=by omega
    rw [this,Z4] at q;exact ⟨q,rfl⟩
theorem Bh {b:List Int} {many:Nat} (kind:Int) (hb:Byt b) (hl:b.length<140737488355328) (hm:1≤many∧many≤64): ∃x,bU ⟨b,true⟩ kind (many:Int)=some x∧jZ kind b many x:=by
  by_cases h0:kind=0
  · subst h0;exact DV hb hl hm
  by_cases h1:kind=1
  · subst h1;exact Fp hb hl hm
  by_cases h2:kind=2
  · subst h2;exact DW hb hl hm
  by_cases h3:kind=3
  · subst h3;exact Fs hb hl hm
  · exact Ft ⟨h0,h1,h2,h3⟩ hb hm
open Option renaming bind_some→Z0,getD_some→Xe,bind_assoc→Y0
open List renaming take_succ_eq_append_getElem→Z1,getElem_mem→Z2,length_append→Z3,take_length→Z4,getElem?_eq_getElem→Z5,length_singleton→Z6,length_cons→Z7,replicate→Z9,eq_nil_of_length_eq_zero→Za,mem_append→Zd,mem_of_mem_take→Zf,take_append_drop→Zg,drop_eq_getElem_cons→Zh,length_pos_iff→Zi,append_assoc→Zj,pairwise_cons→Zk,length_take→Zl,pairwise_append→Zo,length_map→Zp,mem_cons→Zq,getD_eq_getElem?_getD→Zu,range→Zw,flatMap_cons→Zx,foldl_cons→Zy,nil_append→Zz,mem_map→X3,mem_singleton→X5,mem_of_getLast?→X7,pairwise_iff_getElem→X8,getElem?_eq_some_iff→X9,flatMap_append→Xa,cons_append→Xc,drop_zero→Xf,drop_left→Xg,getElem?_drop→Xh,take_of_length_le→Xi,take_left'→Xj,append_nil→Xk,foldl_append→Xl,length_range→Xm,length_replicate→Xn,dropLast_concat_getLast→Xq,getElem?_append_right→Xv,getLast?_eq_none_iff→Xx,getLast?_eq_getElem?→Xy,map_append→Xz,getElem?_append_left→Y1,mem_replicate→Y3,eq_of_mem_replicate→Y5,drop_drop→Y7,flatMap_singleton→Y9,map_cons→Yc,singleton_append→Yd,getElem?_eq_none→Ye,range_succ→Yg,map_nil→Yh
open Nat renaming le_refl→Zn,lt_of_lt_of_le→Zt,mul_le_mul→Zv,strongRecOn→Xb,testBit_xor→Xd,pow_le_pow_right→Xo,eq_of_testBit_eq→Xp,two_pow_add_eq_or_of_lt→Xr,mod_two_eq_zero_or_one→Xu,testBit_succ→Y8,xor_comm→Yj
open Bool renaming false_eq_true→Z8,not_true→Xw,not_false→Y6,not_eq_true→Ya,true_and→Yb
open Int renaming eq_ofNat_of_zero_le→Zc,tmod_eq_emod_of_nonneg→Zr,tdiv_eq_ediv_of_nonneg→Zs,fdiv_eq_ediv_of_nonneg→X4,natCast_pow→Xt,toNat_natCast→Y2,emod_eq_of_lt→Y4,le_of_lt→Yi
open BitVec renaming ofInt→Ze,toNat_ofInt→Zm
open Prod renaming ext→Yk
open IntKind renaming i64→Zb,u64→X6,u32→Xs,u8→Yf
open Classical in
noncomputable def dec (kind:Int) (b:List Int) (many:Int):List Ap×Int:=
 if kind<0∨4<kind then ([],62) else if many<0∨64<many then ([],61) else
 if h: ∃l:List Ap,(∀v∈l,Rgt v)∧(l.length:Int)=many∧enc kind l=(b,0) then (h.choose,0) else ([],60)
theorem C4 {a b:List Int} (ha:a.length≤4611686018427387903):gh a b=some (decide (a=b)):=by
 unfold gh
 by_cases h:a.length=b.length
 ·rw [if_neg (by simp; omega)]
  have:=uA (f:=fun s:Int=>fY a b s) (a.zip b) (fun p=>p.1==p.2) false true (fun i hi hp=> ?_) (fun i hi hp=> ?_) ?_
  ·rw [this]
   have e:(a.zip b).all (fun p=>p.1==p.2)=decide (a=b):=by
    clear this ha
    induction a generalizing b with
    |nil=>cases b with
     |nil=>rfl
     |cons _ _=>simp at h
    | cons x a ih => cases b with
     |nil=>simp at h
     |cons y b=>
      rw [List.zip_cons_cons,List.all_cons,ih (by simpa using h)]
      by_cases e:x=y
      ·simp [e]
      ·simp [e]
   rw [e];cases decide (a=b)<;>rfl
  ·simp only [List.length_zip] at hi
   simp only [List.getElem_zip,beq_iff_eq] at hp;unfold fY;rw [if_pos (decide_eq_true (by omega)),aA (by omega),Z0,aA (by omega),Z0,if_neg (by simpa using hp),aV (by omega)]
  ·simp only [List.length_zip] at hi
   simp only [List.getElem_zip,beq_eq_false_iff_ne] at hp;unfold fY;rw [if_pos (decide_eq_true (by omega)),aA (by omega),Z0,aA (by omega),Z0,if_pos (by simpa using hp)];rfl
  ·unfold fY oN
   rw [if_neg (by simp;omega)];rfl
 ·rw [if_pos (by simp;omega)]
  have:a≠b:=fun e=>h (by rw [e]);simp [this]
theorem Bx {kind:Int} {l:List Ap}:(enc kind l).2=0→l.all right=true∧l.length≤64:=fun h=>by
 have:enc kind l=((enc kind l).1,0):=Yk rfl h;obtain ⟨_,h1,h2,_⟩:=ft this;exact ⟨h2,h1⟩
theorem qN (l:List Int) (w:Nat):(cM l w).length=(l.length*w+7)/8:=fE _ _ _
theorem IL {kind:Int} {l:List Ap} (h: ∀v∈l,Rgt v) (hl:l.length≤64):(qt kind l).length≤100000:=by
 obtain ⟨w1,w2,w3⟩:=fj h;unfold qt;split
 ·obtain ⟨h1,h2,_⟩:=od (l:=l)
  have:=oc (bW l) (fun r=>r.fMany::bv r.fValue) 67 fun x hx=>by
   have:=(d8 (h _ (h1 x hx).2.2)).2;simp;omega
  unfold xd;omega
 split
 ·have:=oc (Zw ((l.map (·.fInt)).length - 1)) (jF (l.map (·.fInt))) 10 fun x _=>lB (nj (ll _))
  unfold nk;simp only [Z3,cf,Xm,Zp] at*;omega
 split
 ·have h1:=je (l:=aP l) fun v hv=>h v ((w2 v).1 hv)
  have hwid:wid ((aP l).length - 1)≤64:=oT (Zt (show (aP l).length - 1<64 by omega) (by decide));have:=Zv hl hwid;unfold nP;simp only [Z7,Z3,qN,Zp];omega
 split
 ·by_cases hi: ∀x∈l.map (·.fInt),cY x
  ·have hu:=oh hi
   have:=Zv hl (lC hu).1;have hal:(bQ (l.map (·.fInt))).length=l.length:=by simp [bQ]
   unfold nl;simp only [Z3,cf,Z6,qN,hal];omega
  ·exfalso
   apply hi;intro x hx;obtain ⟨v,hv,rfl⟩:=X3.1 hx;exact (h v hv).ok.int
 ·have:=je h
  unfold oU;omega
theorem Er (kind:Int) {l:List Ap} (h: ∀v∈l,VOK v):(enc kind l).1.length≤100000:=by
 unfold enc
 repeat' split
 all_goals first|exact Nat.zero_le _|skip
 rename_i h2 h3 _ _;exact IL (q8 h (by simpa using h3)) (by omega)
theorem GP {kind:Int} {b:List Int} {many:Nat} {g:List Ap} {ok:Bool} (hk:0≤kind∧kind≤4) (hm:many≤64) (hg: ∀v∈g,VOK v) (hx: ∀l:List Ap,(∀v∈l,Rgt v)→l.length=many→enc kind l=(b,0)→g=l∧ok=true):
  (if (!ok)=true∨(enc kind g).2≠0∨g.length≠many∨(enc kind g).1≠b then ([],60) else (g,0))=dec kind b (many:Int):=by
 unfold dec;rw [if_neg (show ¬ (kind<0∨4<kind) by omega),if_neg (show ¬ ((many:Int)<0∨64<(many:Int)) by omega)]
 by_cases h: ∃l:List Ap,(∀v∈l,Rgt v)∧(l.length:Int)=(many:Int)∧enc kind l=(b,0)
 ·rw [dif_pos h]
  obtain ⟨c1,c2,c3⟩:=h.choose_spec;obtain ⟨e1,e2⟩:=hx _ c1 (by omega) c3;rw [←e1] at c2 c3;rw [if_neg,e1];rintro (h1|h1|h1|h1)
  ·rw [e2] at h1;cases h1
  ·rw [c3] at h1;exact h1 rfl
  ·omega
  ·rw [c3] at h1;exact h1 rfl
 ·rw [dif_neg h,if_pos]
  apply Classical.byContradiction;intro hn;apply h;have n2:(enc kind g).2=0:=Classical.byContradiction fun h=>hn (.inr (.inl h));have n3:g.length=many:=Classical.byContradiction fun h=>hn (.inr (.inr (.inl h)));have n4:(enc kind g).1=b:=Classical.byContradiction fun h=>hn (.inr (.inr (.inr h)));exact ⟨g,q8 hg (Bx n2).1,by omega,Yk n4 n2⟩
theorem wq {kind many:Int} {b:List Int} (h:kind<0∨4<kind):dec kind b many=([],62):=by unfold dec;rw [if_pos h]
theorem wt {kind many:Int} {b:List Int} (hk: ¬ (kind<0∨4<kind)) (h:many<0∨64<many):dec kind b many=([],61):=by unfold dec;rw [if_neg hk,if_pos h]
theorem GQ {b:List Int} (kind many:Int) (hb:Byt b) (hl:b.length≤1048576):ld kind b many=some (dec kind b many):=by
 have jt1:kN kind b many true=some ([],62):=rfl;have jt2:kM kind b many true=some ([],61):=rfl;unfold ld
 by_cases h0:kind<0
 ·rw [if_pos (by simpa using h0),jt1,wq (.inl h0)]
 by_cases h4:4<kind
 ·rw [if_neg (by simpa using h0),decide_eq_true h4,jt1,wq (.inr h4)]
 have hk: ¬ (kind<0∨4<kind):=by omega
 rw [if_neg (by simpa using h0),decide_eq_false h4];unfold kN;rw [if_neg (by decide)]
 by_cases m0:many<0
 ·rw [if_pos (by simpa using m0),jt2,wt hk (.inl m0)]
 by_cases m64:64<many
 ·rw [if_neg (by simpa using m0),decide_eq_true m64,jt2,wt hk (.inr m64)]
 rw [if_neg (by simpa using m0),decide_eq_false m64];unfold kM;rw [if_neg (by decide)];obtain ⟨n,rfl⟩:=Zc (show 0≤many by omega);have j4: ∀g x,iZ g x=some (if x=true then ([],60) else (g,0)):=fun g x=>by cases x<;>rfl
 have key: ∀(g:List Ap) (r:aj),(∀v∈g,VOK v)→g.length≤1048576→kL kind b (n:Int) g r=some (if (!r.fOk)=true∨(enc kind g).2≠0∨g.length≠n∨(enc kind g).1≠b then ([],60) else (g,0)):=by
  intro g r hg hgl;unfold kL;rw [sH kind hg hgl,Z0]
  by_cases e1:(!r.fOk)=true
  ·rw [if_pos e1,j4,if_pos rfl,if_pos (.inl e1)]
  by_cases e2:(enc kind g).2=0
  ·by_cases e3:g.length=n
   ·rw [if_neg e1,if_neg (by simpa using e2),if_neg (by simpa using by omega),C4 (by have:=Er kind hg;omega),Z0,j4]
    by_cases e4:(enc kind g).1=b
    ·rw [if_neg (by simpa using e4),if_neg]
     rintro (h|h|h|h)
     ·exact e1 h
     ·exact h e2
     ·exact h e3
     ·exact h e4
    ·rw [if_pos (by simpa using e4),if_pos (.inr (.inr (.inr e4)))]
   ·rw [if_neg e1,if_neg (by simpa using e2),if_pos (by simp;omega),j4,if_pos rfl,if_pos (.inr (.inr (.inl e3)))]
  ·rw [if_neg e1,if_pos (by simpa using e2),j4,if_pos rfl,if_pos (.inr (.inl e2))]
 by_cases n0:n=0
 ·subst n0
  rw [if_neg (by decide),key _ _ (by simp) (by simp),GP (by omega) (by omega) (by simp) fun l _ h2 _=>⟨(Za h2).symm,rfl⟩]
 ·obtain ⟨x,hx1,hx2,hx3,hx4⟩:=Bh (b:=b) (many:=n) kind hb (by omega) (by omega)
  rw [if_pos (by simp;omega),hx1,Z0,key _ _ hx2 hx3,GP (by omega) (by omega) hx2 hx4]
theorem IM {kind:Int} {l:List Ap} (h: ∀v∈l,Rgt v) (hl:l.length≤64):Byt (qt kind l):=by
 obtain ⟨w1,w2,w3⟩:=fj h
 have fl: ∀{α:Type} (xs:List α) (f:α→List Int),(∀x∈xs,Byt (f x))→Byt (xs.flatMap f):=fun xs f hf c hc=>by
  obtain ⟨x,hx,hc⟩:=List.mem_flatMap.1 hc;exact hf x hx c hc
 unfold qt;split
 ·obtain ⟨h1,h2,_⟩:=od (l:=l)
  exact fl _ _ fun x hx=> .cons (by have:=h1 x hx;omega) (rG (h _ (h1 x hx).2.2))
 split
 ·exact Byt.app (wd _) (fl _ _ fun x _=>GJ _)
 split
 ·exact .cons (by omega) (.app (fl _ _ fun v hv=>rG (h v ((w2 v).1 hv))) (y7 _ _))
 split
 ·have hi: ∀x∈l.map (·.fInt),cY x:=fun x hx=>by
   obtain ⟨v,hv,rfl⟩:=X3.1 hx;exact (h v hv).ok.int
  have:=(lC (oh hi)).1;exact .app (.app (wd _) (.cons (by omega) .nil)) (y7 _ _)
 ·exact fl _ _ fun v hv=>rG (h v hv)
theorem xf (kind:Int) {l:List Ap} (h: ∀v∈l,VOK v):Byt (enc kind l).1:=by
 unfold enc
 repeat' split
 all_goals first|exact .nil|skip
 rename_i h2 h3 _ _;exact IM (q8 h (by simpa using h3)) (by omega)
theorem tS {kind:Int} {l:List Ap} {b:List Int} (h: ∀v∈l,VOK v) (he:enc kind l=(b,0)): ∀v∈l,Rgt v:=q8 h (ft he).2.2.1
theorem Kt {kind:Int} {l l':List Ap} {b:List Int} (h: ∀v∈l,Rgt v) (h': ∀v∈l',Rgt v) (hl:l'.length=l.length) (he:enc kind l=(b,0)) (he':enc kind l'=(b,0)):l'=l:=by
 by_cases h0:l.length=0
 ·rw [Za h0,Za (hl.trans h0)]
 have hb:Byt b:=by have:=xf kind fun v hv=>(h v hv).ok;rw [he] at this;exact this
 have hbl:b.length≤100000:=by have:=Er kind fun v hv=>(h v hv).ok;rw [he] at this;exact this
 obtain ⟨x,_,_,_,hx⟩:=Bh (b:=b) (many:=l.length) kind hb (by omega) ⟨by omega,(ft he).2.1⟩;rw [←(hx l h rfl he).1, ←(hx l' h' hl he').1]
theorem Ku {kind:Int} {l:List Ap} {b:List Int} (h: ∀v∈l,VOK v) (he:enc kind l=(b,0)):dec kind b (l.length:Int)=(l,0):=by
 have hR:=tS h he;obtain ⟨k1,k2,_⟩:=ft he;unfold dec;rw [if_neg (show ¬ (kind<0∨4<kind) by omega),if_neg (show ¬ ((l.length:Int)<0∨64<(l.length:Int)) by omega)];have hx: ∃l':List Ap,(∀v∈l',Rgt v)∧(l'.length:Int)=(l.length:Int)∧enc kind l'=(b,0):=⟨l,hR,rfl,he⟩
 rw [dif_pos hx];obtain ⟨c1,c2,c3⟩:=hx.choose_spec;rw [Kt hR c1 (by omega) he c3]
theorem GT (kind:Int) (b:List Int) (many:Int):(∃l:List Ap,dec kind b many=(l,0)∧(∀v∈l,Rgt v)∧(l.length:Int)=many∧enc kind l=(b,0))∨(∃e,dec kind b many=([],e)∧e≠0):=by
 unfold dec;split
 ·right;exact ⟨62,rfl,by decide⟩
 split
 ·right;exact ⟨61,rfl,by decide⟩
 split
 ·rename_i h
  left;exact ⟨_,rfl,h.choose_spec⟩
 ·right;exact ⟨60,rfl,by decide⟩
def zi (l:List Ap) (s:Int×Int) (k:Nat):Int×Int:=if (enc (k:Int) l).2=0∧(s.2<0∨((enc (k:Int) l).1.length:Int)<s.2) then ((k:Int),((enc (k:Int) l).1.length:Int)) else s
def io (l:List Ap) (n:Nat):Int×Int:=(Zw n).foldl (zi l) (0,-1)
def Am (l:List Ap):Int:=(io l 5).1
theorem uF (l:List Ap) (n:Nat):io l (n+1)=zi l (io l n) n:=by simp [io,Yg]
theorem Fu (l:List Ap) (n:Nat):((io l n).2<0∧(io l n).1=0∧ ∀k:Nat,k<n→(enc (k:Int) l).2≠0)∨(0≤(io l n).2∧(∃k:Nat,k<n∧(io l n).1=(k:Int))∧(enc (io l n).1 l).2=0∧(io l n).2=((enc (io l n).1 l).1.length:Int)∧ ∀k:Nat,k<n→(enc (k:Int) l).2=0→(io l n).2≤((enc (k:Int) l).1.length:Int)):=by
 induction n with
 |zero=>left;exact ⟨show ((-1:Int))<0 by decide,rfl,fun k hk=>by omega⟩
 | succ n ih =>
  rw [uF];generalize io l n=s at*;unfold zi
  by_cases h:(enc (n:Int) l).2=0∧(s.2<0∨((enc (n:Int) l).1.length:Int)<s.2)
  ·rw [if_pos h]
   right;refine ⟨by dsimp only;omega,⟨n,by omega,rfl⟩,h.1,rfl,fun k hk he=> ?_⟩;dsimp only;rcases ih with ⟨i1,_,i2⟩|⟨i1,_,_,i4,i5⟩
   ·by_cases e:k=n
    ·subst e;omega
    ·exact absurd he (i2 k (by omega))
   ·by_cases e:k=n
    ·subst e;omega
    ·have:=i5 k (by omega) he
     omega
  ·rw [if_neg h]
   rcases ih with ⟨i1,i0,i2⟩|⟨i1,⟨k0,i20,i21⟩,i3,i4,i5⟩
   ·left
    refine ⟨i1,i0,fun k hk he=> ?_⟩
    by_cases e:k=n
    ·subst e;exact h ⟨he,.inl i1⟩
    ·exact i2 k (by omega) he
   ·right
    refine ⟨i1,⟨k0,by omega,i21⟩,i3,i4,fun k hk he=> ?_⟩
    by_cases e:k=n
    ·subst e
     rcases Int.lt_or_le ((enc (k:Int) l).1.length:Int) s.2 with h2|h2
     ·exact absurd ⟨he,.inr h2⟩ h
     ·exact h2
    ·exact i5 k (by omega) he
theorem Kv {l:List Ap} (h: ∀v∈l,VOK v) (hl:l.length≤1048576):pO l=some (Am l):=by
 unfold pO;refine aW (fun i=>((io l i).1,(io l i).2,(i:Int))) 5 rfl (fun i hi=> ?_) ?_
 ·dsimp only
  rw [uF];generalize io l i=s;unfold tM mh pk zi;rw [if_pos (decide_eq_true (by omega)),sH _ h hl,Z0,aV (by omega)]
  by_cases e:(enc (i:Int) l).2=0
  ·rw [if_pos (by simpa using e)]
   by_cases e2:s.2<0
   ·rw [if_pos (decide_eq_true e2),if_pos rfl,if_pos ⟨e,.inl e2⟩]
   ·rw [if_neg (by simpa using e2)]
    by_cases e3:((enc (i:Int) l).1.length:Int)<s.2
    ·rw [if_pos (decide_eq_true e3),if_pos ⟨e,.inr e3⟩]
    ·rw [if_neg (by simpa using e3),if_neg (fun h=>by rcases h.2 with h|h<;>contradiction)]
  ·rw [if_neg (by simpa using e),if_neg (by decide),if_neg (fun h=>e h.1)]
 ·rfl
theorem DX {l:List Ap} (h: ∀v∈l,VOK v) (hl:l.length≤1048576):zW l=some (Am l):=by
 unfold zW;refine aW (fun i=>((io l i).1,(io l i).2,(i:Int))) 5 rfl (fun i hi=> ?_) ?_
 ·dsimp only
  rw [uF];generalize io l i=s;unfold yZ qE ux zi;rw [if_pos (decide_eq_true (by omega)),qu _ h hl,Z0,aV (by omega)]
  by_cases e:(enc (i:Int) l).2=0
  ·rw [if_pos (by simpa using e)]
   by_cases e2:s.2<0
   ·rw [if_pos (decide_eq_true e2),if_pos rfl,if_pos ⟨e,.inl e2⟩]
   ·rw [if_neg (by simpa using e2)]
    by_cases e3:((enc (i:Int) l).1.length:Int)<s.2
    ·rw [if_pos (decide_eq_true e3),if_pos ⟨e,.inr e3⟩]
    ·rw [if_neg (by simpa using e3),if_neg (fun h=>by rcases h.2 with h|h<;>contradiction)]
  ·rw [if_neg (by simpa using e),if_neg (by decide),if_neg (fun h=>e h.1)]
 ·rfl
theorem Kw {l:List Ap}:(enc 0 l).2≠0→ ∀k:Int,0≤k∧k≤4→(enc k l).2≠0:=by
 intro h k hk;unfold enc at*;rw [if_neg (show ¬ ((0:Int)<0∨4<(0:Int)) by omega)] at h;rw [if_neg (show ¬ (k<0∨4<k) by omega)];split
 ·decide
 split
 ·decide
 rename_i h1 h2;rw [if_neg h1,if_neg h2,if_neg (fun h=>by omega)] at h;exfalso;apply h;split<;>rfl
theorem Re {l:List Ap}:(enc (Am l) l).2=(enc 0 l).2∧(enc (Am l) l).1.length≤(enc 0 l).1.length:=by
 unfold Am;rcases Fu l 5 with ⟨_,q1,_⟩|⟨_,⟨k,q0,q01⟩,q1,q2,q3⟩
 ·rw [q1];exact ⟨rfl,Zn _⟩
 ·have e:(enc 0 l).2=0:=Classical.byContradiction fun hn=>Kw hn (io l 5).1 (by omega) q1
  have:=q3 0 (by omega) e;rw [show ((0:Nat):Int)=0 from rfl] at this;exact ⟨by rw [q1,e],by omega⟩
def U32 (x:Int):Prop:=0≤x∧x<4294967296
theorem C5 (x:Int):U32 (Xs.wrap x):=by rw [lA];unfold U32;omega
theorem Ao (x y:Int):U32 (dR .u32 x y):=C5 _
theorem Ph (x:Int): ∃n:Nat,dh .u32 x 15=(n:Int)∧n<16:=by
 unfold dh;rw [lA,BitVec.toNat_and];have h2:(Ze Xs.bits 15).toNat=15:=by decide
 rw [h2];have:(Ze Xs.bits x).toNat&&&15≤15:=Nat.and_le_right;exact ⟨_,by rw [Y4 (by omega) (by omega)],by omega⟩
theorem LP {t:List Int} (h:t.length=16) (ht: ∀x∈t,U32 x) (x:Int): ∃(j:Nat) (y:Int),ix t (dh .u32 x 15)=some j∧t[j]? =some y∧U32 y:=by
 obtain ⟨n,h1,h2⟩:=Ph x;have hn:n<t.length:=by omega
 exact ⟨n,t[n],by rw [h1];exact nN hn,Z5 hn,ht _ (Z2 hn)⟩
theorem GU {b t:List Int} (hl:b.length<4611686018427387904) (h:t.length=16) (ht: ∀x∈t,U32 x): ∃n,lX b t=some n∧U32 n:=by
 unfold lX;refine gq (fun s=>U32 s.1∧ ∃i:Nat,s.2=(i:Int)∧i≤b.length) (fun s=>((b.length:Int) - s.2).toNat) U32 ?_ ⟨⟨by decide,by decide⟩,0,rfl,by omega⟩;rintro ⟨x,i'⟩ ⟨hx,i,hi,hi'⟩;dsimp only at hi;subst hi;dsimp only;unfold oH
 by_cases hlt:i<b.length
 ·left
  rw [if_pos (by simpa using hlt),aA hlt,Z0];obtain ⟨j,y,h1,h2,h3⟩:=LP h ht (dR .u32 x (Xs.wrap b[i]));rw [h1,Z0,h2,Z0];obtain ⟨j',z,k1,k2,k3⟩:=LP h ht (dR .u32 y (aD .u32 (dR .u32 x (Xs.wrap b[i])) 4));rw [k1,Z0,k2,Z0,aV (by omega)];exact ⟨_,rfl,⟨Ao _ _,i+1,rfl,by omega⟩,by dsimp only;omega⟩
 ·right
  rw [if_neg (by simpa using hlt)];exact ⟨_,rfl,Ao _ _⟩
theorem LQ {b:List Int} (hl:b.length<4611686018427387904): ∃n,gZ b=some n∧U32 n:=by
 unfold gZ;refine gq (fun s=>(∃i:Nat,s.1=(i:Int)∧i≤16)∧s.2.length=16∧ ∀x∈s.2,U32 x) (fun s=>(16 - s.1).toNat) U32 ?_ ⟨⟨0,rfl,by omega⟩,by simp,fun x hx=>by rw [Y5 hx];exact ⟨by decide,by decide⟩⟩;rintro ⟨i',t⟩ ⟨⟨i,hi,hi'⟩,ht,hu⟩;dsimp only at hi ht hu;subst hi;dsimp only;unfold oI
 by_cases hlt:i<16
 ·left
  rw [if_pos (by simpa using by omega)]
  have: ∃r,aq (fun s:(Int×Int)=>lY (i:Int) t s.1 s.2) (Xs.wrap (i:Int),0)=some r∧ ∃v,U32 v∧r= .inl (((i+1:Nat):Int),t.set i v):=by
   refine gq (fun s=>U32 s.1∧ ∃i:Nat,s.2=(i:Int)∧i≤4) (fun s=>(4 - s.2).toNat) _ ?_ ⟨C5 _,0,rfl,by omega⟩;rintro ⟨x,q'⟩ ⟨hx,q,hq,hq'⟩;dsimp only at hq;subst hq;dsimp only;unfold lY
   by_cases hql:q<4
   ·left
    rw [if_pos (by simpa using by omega),aV (by omega)];exact ⟨_,rfl,⟨Ao _ _,q+1,rfl,by omega⟩,by dsimp only;omega⟩
   ·right
    rw [if_neg (by simpa using by omega)];unfold rk rj;have hit:i<t.length:=by omega
    rw [nN hit,Z0,Z5 hit,Z0,aV (by omega)];exact ⟨_,rfl,x,hx,rfl⟩
  obtain ⟨r,h1,v,hv,rfl⟩:=this;refine ⟨_,h1,⟨⟨i+1,rfl,by omega⟩,by simpa using ht,fun x hx=> ?_⟩,by dsimp only;omega⟩;rcases List.mem_or_eq_of_mem_set hx with h|h
  ·exact hu x h
  ·rw [h];exact hv
 ·right
  rw [if_neg (by simpa using by omega)];obtain ⟨n,h1,h2⟩:=GU hl ht hu;exact ⟨n,by rw [h1];rfl,h2⟩
noncomputable def lF (b:List Int):Int:=(gZ b).getD 0
theorem wu {b:List Int} (hl:b.length<4611686018427387904):gZ b=some (lF b)∧U32 (lF b):=by
 obtain ⟨n,h1,h2⟩:=LQ hl;unfold lF;rw [h1];exact ⟨rfl,h2⟩
def be4 (n:Int):List Int:=[n/2^24%256,n/2^16%256,n/2^8%256,n%256]
theorem Aq (n:Int):Byt (be4 n):=by
 unfold be4;exact .cons (by omega) (.cons (by omega) (.cons (by omega) (.cons (by omega) .nil)))
theorem dQ (n:Int):(be4 n).length=4:=rfl
theorem zj {x:Int} {k:Nat} (hk:k≤32):aD .u32 x (k:Int)=x/2^k:=by
 unfold aD;rw [X4 _ (Yi (Int.pow_pos (by decide)))];congr 2;simp [IntKind.bits];omega
theorem Fv {x:Int} {k:Nat} (hk:k≤64):aD .i64 x (k:Int)=x/2^k:=by
 unfold aD;rw [X4 _ (Yi (Int.pow_pos (by decide)))];congr 2;simp [IntKind.bits];omega
noncomputable def mw (b:List Int):List Int:=b++be4 (lF b)
theorem Bi {b:List Int} (hl:b.length≤1000000000000):kf b=some (mw b):=by
 unfold kf;rw [(wu (b:=b) (by omega)).1,Z0,bm,bm,bm,bm];have e1:=zj (x:=lF b) (k:=24) (by omega);have e2:=zj (x:=lF b) (k:=16) (by omega);have e3:=zj (x:=lF b) (k:=8) (by omega);rw [show ((24:Nat):Int)=24 from rfl] at e1;rw [show ((16:Nat):Int)=16 from rfl] at e2;rw [show ((8:Nat):Int)=8 from rfl] at e3;rw [e1,e2,e3,aJ (by simp;omega),Z0]
 rfl
theorem GV {v:Ap} (h:Rgt v):qc v=some (bv v):=by
 unfold qc;rw [tP (l:=[v]) (fun x hx=>by rw [X5.1 hx];exact h) (by simp),Z0];simp only [uC,Z6,Zx,List.flatMap_nil,Xk];rw [sE,Z0]
def oV:List Ap→Ap
 |[]=>kV
 |v::l=>l.foldl (fun m x=>if ltV x m then x else m) v
def oW:List Ap→Ap
 |[]=>kV
 |v::l=>l.foldl (fun m x=>if ltV m x then x else m) v
theorem uG (a b:Ap):0<ku a b↔ltV b a=true:=by
 unfold ku;split
 ·rename_i h;simp [rJ h]
 ·split
  ·rename_i h;simp [h]
  ·rename_i h;simp at h;simp [h]
theorem wv {f:Ap→Ap→Ap} (hf: ∀m x,f m x=m∨f m x=x): ∀(l:List Ap) (v:Ap),l.foldl f v∈v::l
 |[],v=>by simp
 | x :: l, v => by
  have:=wv hf l (f v x);rw [Zy];rcases hf v x with h|h
  ·rw [h] at this ⊢
   rcases Zq.1 this with h'|h'
   ·rw [h'];simp
   ·simp [h']
  ·rw [h] at this ⊢
   simp [this]
theorem uH {l:List Ap} (h:l≠[]):oV l∈l:=by
 cases l with
 |nil=>exact absurd rfl h
 |cons v l=>exact wv (fun m x=>by split<;>simp) l v
theorem uI {l:List Ap} (h:l≠[]):oW l∈l:=by
 cases l with
 |nil=>exact absurd rfl h
 |cons v l=>exact wv (fun m x=>by split<;>simp) l v
theorem Fw {l:List Ap} (h:l≠[]) (hl:l.length≤1048576):fW l cD=some (oV l):=by
 cases l with
 |nil=>exact absurd rfl h
 |cons v r=>
 unfold fW;rw [if_neg (by simp;omega)];unfold mB;rw [dF,Z0];refine aW (fun i=>(((i+1:Nat):Int),(r.take i).foldl (fun m x=>if ltV x m then x else m) v)) r.length (by simp) (fun i hi=> ?_) ?_
 ·dsimp only
  unfold jq;have hi':i+1<(v::r).length:=by simp;omega
  simp only [Z7] at hl;rw [if_pos (by simpa using by omega),aA hi',Z0,eJ,Z0];rw [iI hi];unfold jp;have e:(v::r)[i+1]=r[i]:=rfl;rw [e,aV (by omega)]
  by_cases hc:ltV r[i] ((r.take i).foldl (fun m x=>if ltV x m then x else m) v)=true
  ·rw [if_pos (decide_eq_true ((kW _ _).2 hc)),Z0,if_pos hc]
  ·rw [if_neg (by simpa using fun h=>hc ((kW _ _).1 h)),if_neg hc]
 ·unfold jq mA
  dsimp only;rw [if_neg (by simp),Z4]
  rfl
theorem Fy {l:List Ap} (h:l≠[]) (hl:l.length≤1048576):fX l cD=some (oW l):=by
 cases l with
 |nil=>exact absurd rfl h
 |cons v r=>
 unfold fX;rw [if_neg (by simp;omega)];unfold mE;rw [dF,Z0];refine aW (fun i=>(((i+1:Nat):Int),(r.take i).foldl (fun m x=>if ltV m x then x else m) v)) r.length (by simp) (fun i hi=> ?_) ?_
 ·dsimp only
  unfold jt;have hi':i+1<(v::r).length:=by simp;omega
  simp only [Z7] at hl;rw [if_pos (by simpa using by omega),aA hi',Z0,eJ,Z0];rw [iI hi];unfold jr;have e:(v::r)[i+1]=r[i]:=rfl;rw [e,aV (by omega)]
  by_cases hc:ltV ((r.take i).foldl (fun m x=>if ltV m x then x else m) v) r[i]=true
  ·rw [if_pos (decide_eq_true ((uG _ _).2 hc)),Z0,if_pos hc]
  ·rw [if_neg (by simpa using fun h=>hc ((uG _ _).1 h)),if_neg hc]
 ·unfold jt mD
  dsimp only;rw [if_neg (by simp),Z4]
  rfl
def fo (l:List Ap):Nat:=(l.filter fun v=>v.fKind==0).length
def Fz (kind:Int) (l:List Ap):bM:=⟨kind,(l.length:Int),oV l,oW l,(fo l:Int),0⟩
theorem uJ (i:bM): ∀(l:List Ap) (n:Nat),n+l.length≤1048576→ew (fun (s:bM) (x:Ap)=>fg s x) { i with fNulls:=(n:Int) } l=some ({ i with fNulls:=((n+fo l:Nat):Int) },true)
 |[],n,_=>by simp [ew,fo]
 | v :: l, n, h => by
  simp only [Z7] at h;simp only [ew]
  by_cases hv:(v.fKind==0)=true
  ·have e:fg { i with fNulls:=(n:Int) } v=some ({ i with fNulls:=((n+1:Nat):Int) },true):=by
    unfold fg;rw [if_pos hv,aV (by omega)]
   rw [e,Z0,if_pos rfl,uJ i l (n+1) (by omega)];simp only [fo,List.filter_cons,hv,if_true,Z7];congr 4;omega
  ·have e:fg { i with fNulls:=(n:Int) } v=some ({ i with fNulls:=(n:Int) },true):=by
    unfold fg;rw [if_neg hv]
   rw [e,Z0,if_pos rfl,uJ i l n (by omega)];simp only [fo,List.filter_cons,hv,Z8,if_false]
theorem rM (l:List Ap):fo l≤l.length:=List.length_filter_le _ _
theorem Es {l:List Ap} (kind:Int) (h:l≠[]) (hl:l.length≤1048576):kJ kind l=some (Fz kind l):=by
 unfold kJ jl;rw [Fw h hl,Z0,Fy h hl,Z0,Z0];rw [show (⟨kind,(l.length:Int),oV l,oW l,0,0⟩:bM)={ (⟨kind,(l.length:Int),oV l,oW l,0,0⟩:bM) with fNulls:=((0:Nat):Int) } from rfl,uJ _ l 0 (by omega),Z0,if_pos rfl,Nat.zero_add]
 rfl
theorem GW {kind:Int} {l:List Ap} (h: ∀v∈l,Rgt v) (hl:l.length≤64):(qt kind l).length≤60000:=by
 obtain ⟨w1,w2,w3⟩:=fj h;unfold qt;split
 ·obtain ⟨h1,h2,_⟩:=od (l:=l)
  have:=oc (bW l) (fun r=>r.fMany::bv r.fValue) 67 fun x hx=>by
   have:=(d8 (h _ (h1 x hx).2.2)).2;simp;omega
  unfold xd;omega
 split
 ·have:=oc (Zw ((l.map (·.fInt)).length - 1)) (jF (l.map (·.fInt))) 10 fun x _=>lB (nj (ll _))
  unfold nk;simp only [Z3,cf,Xm,Zp] at*;omega
 split
 ·have h1:=je (l:=aP l) fun v hv=>h v ((w2 v).1 hv)
  have hwid:wid ((aP l).length - 1)≤64:=oT (Zt (show (aP l).length - 1<64 by omega) (by decide));have:=Zv hl hwid;unfold nP;simp only [Z7,Z3,qN,Zp];omega
 split
 ·by_cases hi: ∀x∈l.map (·.fInt),cY x
  ·have hu:=oh hi
   have:=Zv hl (lC hu).1;have hal:(bQ (l.map (·.fInt))).length=l.length:=by simp [bQ]
   unfold nl;simp only [Z3,cf,Z6,qN,hal];omega
  ·exfalso
   apply hi;intro x hx;obtain ⟨v,hv,rfl⟩:=X3.1 hx;exact (h v hv).ok.int
 ·have:=je h
  unfold oU;omega
theorem uK {kind:Int} {l:List Ap} {b:List Int} (h: ∀v∈l,VOK v) (he:enc kind l=(b,0)):b.length≤60000:=by
 obtain ⟨_,h2,_,_,h4⟩:=ft he;rcases h4 with ⟨_,rfl⟩|⟨_,rfl⟩
 ·simp
 ·exact GW (tS h he) h2
def be2 (n:Nat):List Int:=[((n/256:Nat):Int),((n%256:Nat):Int)]
def fQ (k m z:Int) (v w:Ap) (d:List Int):List Int:=k::m::z::(bv v++(bv w++(be2 d.length++d)))
def kw (kind:Int) (l:List Ap):Int:=if kind= -1 then Am l else kind
def ip (k:Int) (l:List Ap):List Int:=fQ k (l.length:Int) (fo l:Int) (oV l) (oW l) (enc k l).1
noncomputable def wr (kind:Int) (l:List Ap):List Int×Int:=
 if l=[] then ([],70) else if (enc (kw kind l) l).2≠0 then ([],(enc (kw kind l) l).2) else (mw (ip (kw kind l) l),0)
theorem Bj {k m z:Int} {v w:Ap} {d:List Int} (hk:0≤k∧k≤4) (hm:1≤m∧m≤64) (hz:0≤z∧z≤m) (hv:Rgt v) (hw:Rgt w) (hd:Byt d) (hl:d.length<65536):Byt (fQ k m z v w d):=by
 unfold fQ be2;refine .cons (by omega) (.cons (by omega) (.cons (by omega) (.app (rG hv) (.app (rG hw) (.app (.cons (by omega) (.cons (by omega) .nil)) hd)))))
theorem qj {k m z:Int} {v w:Ap} {d:List Int}:(fQ k m z v w d).length=5+(bv v).length+(bv w).length+d.length:=by
 unfold fQ be2;simp;omega
theorem IN {l:List Ap} (kind:Int) (h: ∀v∈l,VOK v) (hl:l.length≤1048576):mS kind l=some (wr kind l):=by
 have key: ∀k,l≠[]→mj l k=some (if (enc k l).2≠0 then ([],(enc k l).2) else (mw (ip k l),0)):=by
  intro k hne;unfold mj;rw [sH k h hl,Z0]
  by_cases he:(enc k l).2=0
  ·have he':enc k l=((enc k l).1,0):=Yk rfl he
   obtain ⟨hk,h64,_⟩:=ft he';have hR:=tS h he';have hmin:=hR _ (uH hne);have hmax:=hR _ (uI hne);have hdl:=uK h he';have hdb:=xf k h;have hn:=rM l;have h0:0<l.length:=Zi.2 hne;have l1:=(d8 hmin).2;have l2:=(d8 hmax).2;rw [if_neg (by simpa using he),if_neg (by simpa using he),Es k hne hl,Z0];have e8:=Fv (x:=((enc k l).1.length:Int)) (k:=8) (by omega);rw [show ((8:Nat):Int)=8 from rfl] at e8;simp only [Fz];rw [GV hmin,Z0,aJ (by simp;omega),Z0,GV hmax,Z0,aJ (by simp;omega),Z0,aJ (by simp;omega),Z0,aJ (by simp;omega),Z0]
   have e:([Yf.wrap k,Yf.wrap (l.length:Int),Yf.wrap (fo l:Int)]++bv (oV l)++bv (oW l)++[Yf.wrap (aD .i64 ((enc k l).1.length:Int) 8),Yf.wrap ((enc k l).1.length:Int)]++(enc k l).1)=ip k l:=by
    unfold ip fQ be2;rw [bm,bm,bm,bm,bm,e8];have a1:k%256=k:=by omega
    have a2:(l.length:Int)%256=(l.length:Int):=by omega
    have a3:(fo l:Int)%256=(fo l:Int):=by omega
    have a4:((enc k l).1.length:Int)/2^8%256=(((enc k l).1.length/256:Nat):Int):=by omega
    have a5:((enc k l).1.length:Int)%256=(((enc k l).1.length%256:Nat):Int):=by omega
    rw [a1,a2,a3,a4,a5];simp
   have s2:(ip k l).length≤1000000000000:=by unfold ip;rw [qj];omega
   rw [e,Bi s2,Z0]
  ·rw [if_pos (by simpa using he),if_pos he]
 unfold mS wr
 by_cases hne:l=[]
 ·subst hne;rfl
 ·have h0:0<l.length:=Zi.2 hne
  rw [if_neg (by simp;omega),if_neg hne];unfold kw
  by_cases hk:kind= -1
  ·rw [if_pos (by simpa using hk),if_pos hk,Kv h hl,Z0,key _ hne]
  ·rw [if_neg (by simpa using hk),if_neg hk,key _ hne]
theorem yp {b:List Int} (hb:Byt b) (hl:b.length<140737488355328):lx b=some (match cj b with|some (v,n)=>(v,b.drop n,true)|none=>(kV,[],false)):=by
 unfold lx
 have step: ∀k,1≤k→k≤b.length→k≤66→mn b (k:Int)=match cj (b.take k) with|some (v,n)=>(if n=k then some (.inr (v,b.drop k,true)) else some (.inl ((k+1:Nat):Int)))|none=>some (.inl ((k+1:Nat):Int)):=by
  intro k h1 h2 h3;have hs:=ek (xs:=b) (lo:=0) (hi:=k) (by omega) h2;rw [show ((0:Nat):Int)=0 from rfl] at hs;unfold mn ml;rw [if_pos (by simpa using by omega),if_pos (by simp;omega),hs,Z0,aJ (by simp;omega),Z0,Xf,Yd,sF (hb.take _),Z0,ge h2,aV (by omega)];have hlen:(b.take k).length=k:=by simp;omega
  cases hp:cj (b.take k) with
  |none=>rfl
  |some x=>
   obtain ⟨v,n⟩:=x;simp only [hlen]
   by_cases e:n=k
   ·rw [if_pos e,if_pos e];rfl
   ·rw [if_neg e,if_neg e];rfl
 cases hp:cj b with
 | some x =>
  obtain ⟨v,n⟩:=x;have hn:=rH hb hp;refine aW (fun i=>((i+1:Nat):Int)) (n - 1) rfl (fun i hi=> ?_) ?_
  ·rw [step (i+1) (by omega) (by omega) (by omega)]
   cases hq:cj (b.take (i+1)) with
   |none=>rfl
   |some y=>
    obtain ⟨v',n'⟩:=y;obtain ⟨h1,h2⟩:=qK hb hq;rw [hp] at h1;simp only [Option.some.injEq,Prod.mk.injEq] at h1;omega
  ·have e:n - 1+1=n:=by omega
   rw [e,step n (by omega) (by omega) (by omega),vd hb hp (Zn _)];simp
 | none =>
  refine aW (fun i=>((i+1:Nat):Int)) (min b.length 66) rfl (fun i hi=> ?_) ?_
  ·rw [step (i+1) (by omega) (by omega) (by omega)]
   cases hq:cj (b.take (i+1)) with
   |none=>rfl
   |some y=>
    obtain ⟨v',n'⟩:=y;obtain ⟨h1,h2⟩:=qK hb hq;rw [hp] at h1;cases h1
  ·have e0:ml b ((min b.length 66+1:Nat):Int) false=some (.inr (kV,[],false)):=rfl
   unfold mn;split
   ·have:decide (((min b.length 66+1:Nat):Int)≤66)=false:=by
     rename_i h;simp at h ⊢;omega
    rw [this,e0]
   ·exact e0
theorem orI {a b:Nat} (ha:a<65536) (hb:b<65536):bOr .i64 (a:Int) (b:Int)=((a|||b:Nat):Int):=by
 unfold bOr
 have h1:(Ze Zb.bits (a:Int)).toNat=a:=by
  show (Ze 64 (a:Int)).toNat=a;rw [Zm];omega
 have h2:(Ze Zb.bits (b:Int)).toNat=b:=by
  show (Ze 64 (b:Int)).toNat=b;rw [Zm];omega
 rw [BitVec.toNat_or,h1,h2];have:a|||b<2^16:=Nat.or_lt_two_pow (by simpa using ha) (by simpa using hb)
 have e:(2:Nat)^16=65536:=by decide
 rw [ak (by omega)]
theorem GX {x y:Int} (hx:0≤x∧x<256) (hy:0≤y∧y<256):bOr .i64 (em .i64 (Zb.wrap x) 8) (Zb.wrap y)=((x.toNat*256+y.toNat:Nat):Int):=by
 rw [tQ hx,tQ hy];obtain ⟨a,rfl⟩:=Zc hx.1;obtain ⟨b,rfl⟩:=Zc hy.1
 have e:em .i64 (a:Int) 8=((2^8*a:Nat):Int):=by
  unfold em;have:(2:Int)^(min (8:Int).toNat Zb.bits)=256:=by decide
  rw [this,ak (by omega)];omega
 rw [e,orI (by omega) (by omega), ←Xr (by omega)];simp only [Y2];omega
structure Blk (b:List Int) (k m z:Int) (v w:Ap) (d r:List Int):Prop where
 eq:b=fQ k m z v w d++r
 hk:0≤k∧k≤4
 hm:1≤m∧m≤64
 hz:0≤z∧z≤m
 hv:Rgt v
 hw:Rgt w
 hd:d.length<65536
 hr:4≤r.length
def BS (k m z:Int) (v w:Ap) (d:List Int):bM:=⟨k,m,v,w,z,((fQ k m z v w d).length+4:Nat)⟩
theorem Blk.parts {b:List Int} {k m z k' m' z':Int} {v w:Ap} {d r:List Int} (h:Blk (k::m::z::b) k' m' z' v w d r):k=k'∧m=m'∧z=z'∧cj b=some (v,(bv v).length)∧cj (b.drop (bv v).length)=some (w,(bv w).length)∧(b.drop (bv v).length).drop (bv w).length=be2 d.length++(d++r):=by
 have:=h.eq;unfold fQ at this;simp only [Xc,List.cons.injEq,Zj] at this;obtain ⟨h1,h2,h3,h4⟩:=this;refine ⟨h1,h2,h3,?_,?_,?_⟩
 ·rw [h4,qh h.hv]
 ·rw [h4,Xg,qh h.hw]
 ·rw [h4,Xg,Xg]
theorem Blk.one {b:List Int} {k m z k' m' z':Int} {v w v' w':Ap} {d r d' r':List Int} (h:Blk b k m z v w d r) (h':Blk b k' m' z' v' w' d' r'):k=k'∧m=m'∧z=z'∧v=v'∧w=w'∧d=d'∧r=r':=by
 have e:=h.eq;unfold fQ at e;simp only [Xc] at e;rw [e] at h h';obtain ⟨a1,a2,a3,a4,a5,a6⟩:=h.parts;obtain ⟨b1,b2,b3,b4,b5,b6⟩:=h'.parts;rw [a4] at b4;simp only [Option.some.injEq,Prod.mk.injEq] at b4;obtain ⟨rfl,_⟩:=b4;rw [a5] at b5;simp only [Option.some.injEq,Prod.mk.injEq] at b5;obtain ⟨rfl,_⟩:=b5;rw [a6] at b6;unfold be2 at b6;simp only [Xc,Zz,List.cons.injEq] at b6;have hlen:d.length=d'.length:=by omega
 obtain ⟨c1,c2⟩:=List.append_inj b6.2.2 hlen;exact ⟨b1,b2,b3,rfl,rfl,c1,c2⟩
abbrev C6:bM:=⟨0,0,Ap.zero,Ap.zero,0,0⟩
theorem Kx {b:List Int} (hb:Byt b) (hl:b.length≤1000000000000):
  (∃k m z v w d r,Blk b k m z v w d r∧jA b=some (BS k m z v w d,d,true))∨(jA b=some (C6,[],false)∧ ∀k m z v w d r,¬ Blk b k m z v w d r):=by
 have fk: ∀{b:List Int},b.length<3→ ∀k m z v w d r,¬ Blk b k m z v w d r:=by
  intro b hs k m z v w d r h;have:=h.eq;rw [this] at hs;simp [qj] at hs;omega
 have bad: ∀b,gm b true=some (C6,[],false):=fun b=>rfl
 match b,hb,hl with
 |[],_,_=>exact .inr ⟨rfl,fk (by simp)⟩
 |[_],_,_=>exact .inr ⟨rfl,fk (by simp)⟩
 |[_,_],_,_=>exact .inr ⟨rfl,fk (by simp)⟩
 | k :: m :: z :: t, hb, hl =>
  have b0:=hb.head;have b1:=hb.tail.head;have b2:=hb.tail.tail.head;have bt:Byt t:=hb.tail.tail.tail;simp only [Z7] at hl;have i0:idx (k::m::z::t) 0=some k:=dF _ _;have i1:idx (k::m::z::t) 1=some m:=A9 _ _ _;have i2:idx (k::m::z::t) 2=some z:=aA (xs:=k::m::z::t) (i:=2) (by simp);have e3:sub (k::m::z::t) 3 ((k::m::z::t).length:Int)=some t:=ge (xs:=k::m::z::t) (k:=3) (by simp)
  have hr0:jA (k::m::z::t)=if 4<k∨m=0∨64<m∨m<z then some (C6,[],false) else gm (k::m::z::t) false:=by
   unfold jA;rw [if_neg (by simp;omega),i0,Z0,i1,Z0,Z0,i2,Z0,Z0]
   by_cases c1:4<k
   ·rw [if_pos (by simpa using c1),if_pos (.inl c1)];rfl
   rw [if_neg (by simpa using c1)]
   by_cases c2:m=0
   ·rw [if_pos (by simpa using c2),if_pos (.inr (.inl c2))];rfl
   rw [if_neg (by simpa using c2)]
   by_cases c3:64<m
   ·rw [if_pos (by simpa using c3),if_pos (.inr (.inr (.inl c3)))];rfl
   rw [if_neg (by simpa using c3)]
   by_cases c4:m<z
   ·rw [if_pos (.inr (.inr (.inr c4))),decide_eq_true c4];rfl
   rw [if_neg (by omega),decide_eq_false c4]
  rw [hr0]
  by_cases c:4<k∨m=0∨64<m∨m<z
  ·rw [if_pos c]
   refine .inr ⟨rfl,fun k' m' z' v w d r h=> ?_⟩;obtain ⟨rfl,rfl,rfl,_⟩:=h.parts;have:=h.hk;have:=h.hm;have:=h.hz;omega
  rw [if_neg c];unfold gm;rw [if_neg (by decide),i0,Z0,i1,Z0,i2,Z0,e3,Z0,yp bt (by omega),Z0];cases hp:cj t with
  |none=>
   have hf: ∃x,lx ([]:List Int)=some x:=⟨_,yp (b:=[]) .nil (by simp)⟩
   obtain ⟨x,hx⟩:=hf;simp only;rw [hx,Z0];refine .inr ⟨rfl,fun k' m' z' v w d r h=> ?_⟩;have:=h.parts.2.2.2.1;rw [hp] at this;cases this
  | some q =>
   obtain ⟨v,n1⟩:=q;have hbd1:=rH bt hp;simp only;rw [yp (bt.drop _) (by simp;omega),Z0];cases hp2:cj (t.drop n1) with
   |none=>
    refine .inr ⟨rfl,fun k' m' z' v' w d r h=> ?_⟩;obtain ⟨_,_,_,h1,h2,_⟩:=h.parts;rw [hp] at h1;simp only [Option.some.injEq,Prod.mk.injEq] at h1;rw [←h1.2,hp2] at h2;cases h2
   | some q2 =>
    obtain ⟨w,n2⟩:=q2;have hbd2:=rH (bt.drop _) hp2;simp only [Xw,Z8,if_false];obtain ⟨hRv,t1,ht1,hn1⟩:=mr bt hp;obtain ⟨hRw,t2,ht2,hn2⟩:=mr (bt.drop _) hp2;have htt:(t.drop n1).drop n2=t2:=by rw [ht2,hn2,Xg]
    have hbt2:Byt t2:=by rw [←htt];exact (bt.drop _).drop _
    have hd1:t.drop n1=t1:=by rw [ht1,hn1,Xg]
    have hteq:t=bv v++(bv w++t2):=by rw [ht1, ←ht2,hd1]
    have hno:t2.length<2→ ∀k' m' z' v' w' d r,¬ Blk (k::m::z::t) k' m' z' v' w' d r:=by
     intro h2 k' m' z' v' w' d r h;obtain ⟨_,_,_,p1,p2,p3⟩:=h.parts;rw [hp] at p1;simp only [Option.some.injEq,Prod.mk.injEq] at p1;rw [←p1.2,hp2] at p2;simp only [Option.some.injEq,Prod.mk.injEq] at p2;rw [←p1.2, ←p2.2,htt] at p3;rw [p3] at h2;simp [be2] at h2;omega
    unfold nF;simp only [htt]
    match t2,hteq,htt,hbt2,hno,ht2 with
    |[],_,_,_,hno,_=>exact .inr ⟨by rw [if_pos (by decide)],hno (by simp)⟩
    |[_],_,_,_,hno,_=>exact .inr ⟨by rw [if_pos (by simp)],hno (by simp)⟩
    | x :: y :: rest, hteq, htt, hbt2, hno, ht2 =>
     have bx:=hbt2.head;have by_:=hbt2.tail.head;obtain ⟨n,hn⟩: ∃n,n=x.toNat*256+y.toNat:=⟨_,rfl⟩
     have e2:sub (x::y::rest) 2 ((x::y::rest).length:Int)=some rest:=ge (xs:=x::y::rest) (k:=2) (by simp);have hlr:rest.length≤t.length:=by rw [hteq];simp;omega
     rw [if_neg (by simp;omega),dF,Z0,A9,Z0,e2,Z0,GX bx by_, ←hn,ak (by omega)];have hsmall:n<65536:=by omega
     by_cases hrl:rest.length<n+4
     ·rw [if_pos (by simpa using by omega)]
      refine .inr ⟨rfl,fun k' m' z' v' w' d r h=> ?_⟩;obtain ⟨_,_,_,p1,p2,p3⟩:=h.parts;rw [hp] at p1;simp only [Option.some.injEq,Prod.mk.injEq] at p1;rw [←p1.2,hp2] at p2;simp only [Option.some.injEq,Prod.mk.injEq] at p2;rw [←p1.2, ←p2.2,htt] at p3;unfold be2 at p3;simp only [Xc,Zz,List.cons.injEq] at p3;have h4:=h.hr;have h5:rest.length=d.length+r.length:=by rw [p3.2.2];simp
      omega
     ·have e4:=ek (xs:=rest) (lo:=0) (hi:=n) (by omega) (by omega)
      rw [show ((0:Nat):Int)=0 from rfl,Xf] at e4;rw [if_neg (by simpa using by omega),e4,Z0];have hdl:(rest.take n).length=n:=by simp;omega
      have hB:Blk (k::m::z::t) k m z v w (rest.take n) (rest.drop n):=by
       refine ⟨?_,by omega,by omega,by omega,hRv,hRw,by omega,by simp;omega⟩;rw [hteq];unfold fQ be2;rw [hdl];have q1:((n/256:Nat):Int)=x:=by omega
       have q2:((n%256:Nat):Int)=y:=by omega
       rw [q1,q2];simp
      refine .inl ⟨k,m,z,v,w,rest.take n,rest.drop n,hB,?_⟩
      have hlen:(k::m::z::t).length=3+(bv v).length+(bv w).length+2+rest.length:=by
       rw [hteq];simp;omega
      rw [hlen];unfold BS;rw [qj,hdl,ak (show -9223372036854775808≤k∧_ by omega),ak (show -9223372036854775808≤m∧_ by omega),ak (show -9223372036854775808≤z∧_ by omega)]
      have q3:Zb.wrap (((3+(bv v).length+(bv w).length+2+rest.length:Nat):Int) - (rest.length:Int))=((5+(bv v).length+(bv w).length:Nat):Int):=by
       rw [ak (by simp only [Z7] at hlen;omega)];omega
      have q4:Zb.wrap (((5+(bv v).length+(bv w).length:Nat):Int)+(n:Int))=((5+(bv v).length+(bv w).length+n:Nat):Int):=by
       rw [ak (by simp only [Z7] at hlen;omega)];omega
      have q5:Zb.wrap (((5+(bv v).length+(bv w).length+n:Nat):Int)+4)=((5+(bv v).length+(bv w).length+n+4:Nat):Int):=by
       rw [ak (by simp only [Z7] at hlen;omega)];omega
      rw [q3,q4,q5]
theorem IP {b:List Int} (hb:Byt b) (hl:b.length≤1000000000000) {k m z:Int} {v w:Ap} {d r:List Int} (h:Blk b k m z v w d r):jA b=some (BS k m z v w d,d,true):=by
 rcases Kx hb hl with ⟨k',m',z',v',w',d',r',h1,h2⟩|⟨_,h2⟩
 ·obtain ⟨rfl,rfl,rfl,rfl,rfl,rfl,_⟩:=h.one h1
  exact h2
 ·exact absurd h (h2 _ _ _ _ _ _ _)
noncomputable def FA (k m z:Int) (v w:Ap) (d r:List Int):List Ap×Int×Int:=
 if r.take 4=be4 (lF (fQ k m z v w d)) then
  if (dec k d m).2≠0 then ([],0,70)
  else if (fo (dec k d m).1:Int)=z∧oV (dec k d m).1=v∧oW (dec k d m).1=w then ((dec k d m).1,((fQ k m z v w d).length+4:Nat),0) else ([],0,70)
 else ([],0,71)
theorem IQ {b:List Int} (hb:Byt b) (hl:b.length≤1000000000000) {k m z:Int} {v w:Ap} {d r:List Int} (h:Blk b k m z v w d r):kO b=some (FA k m z v w d r):=by
 unfold kO;rw [IP hb hl h,Z0];have hbe:=h.eq;have hr:=h.hr;have hd:=h.hd;have hbody:Byt (fQ k m z v w d):=by rw [hbe] at hb;exact hb.left
 have hdb:Byt d:=by
  have:=hbody;unfold fQ at this;exact this.tail.tail.tail.right.right.right
 have hbl:b.length=(fQ k m z v w d).length+r.length:=by rw [hbe,Z3]
 obtain ⟨n,hn⟩: ∃n,n=(fQ k m z v w d).length:=⟨_,rfl⟩
 have t1:b.take n=fQ k m z v w d:=by rw [hbe,hn,List.take_left]
 have t2:b.take (n+4)=fQ k m z v w d++r.take 4:=by
  rw [hbe,hn,List.take_append,Xi (Nat.le_add_right _ _),Nat.add_sub_cancel_left]
 have s1:=ek (xs:=b) (lo:=0) (hi:=n) (by omega) (by omega);have s2:=ek (xs:=b) (lo:=0) (hi:=n+4) (by omega) (by omega);rw [show ((0:Nat):Int)=0 from rfl,Xf] at s1 s2;have hw:Zb.wrap (((n+4:Nat):Int) - 4)=(n:Int):=by rw [ak (by omega)];omega
 unfold BS;simp only [←hn,Xw,Z8,if_false];rw [hw,s1,Z0];unfold jX;rw [t1,aJ (by simp;omega),Z0,Zz,Z0,Bi (by omega),Z0,s2,Z0,t2,C4 (by unfold mw;simp [dQ];omega),Z0];unfold FA mw
 by_cases c1:r.take 4=be4 (lF (fQ k m z v w d))
 ·rw [if_pos c1,c1,decide_eq_true rfl]
  simp only [Xw,Z8,if_false];rw [GQ _ _ hdb (by omega),Z0]
  by_cases c2:(dec k d m).2=0
  ·rw [if_neg (by simpa using c2),if_neg (by simpa using c2)]
   rcases GT k d m with ⟨l,e,g1,g2,g3⟩|⟨e,g1,g2⟩
   ·rw [e]
    simp only;have hm:=h.hm;have hne:l≠[]:=fun e=>by rw [e] at g2;simp at g2;omega
    rw [Es k hne (by omega),Z0];simp only [Fz]
    by_cases a1:(fo l:Int)=z<;>by_cases a2:oV l=v<;>by_cases a3:oW l=w<;>simp [ju,a1,a2,a3,hn]
   ·rw [g1] at c2;exact absurd c2 g2
  ·rw [if_pos (by simpa using c2),if_pos c2]
 ·have c1': ¬ (fQ k m z v w d++be4 (lF (fQ k m z v w d))=fQ k m z v w d++r.take 4):=fun h=>c1 (List.append_cancel_left h).symm
  rw [if_neg c1,decide_eq_false c1']
  rfl
theorem C7 {l:List Ap} {kind:Int} (h: ∀v∈l,VOK v) (hw:(wr kind l).2=0): ∃k,l≠[]∧(∀v∈l,Rgt v)∧enc k l=((enc k l).1,0)∧k=kw kind l∧wr kind l=(mw (ip k l),0)∧ ∀t,Blk (mw (ip k l)++t) k (l.length:Int) (fo l:Int) (oV l) (oW l) (enc k l).1 (be4 (lF (ip k l))++t):=by
 unfold wr at hw
 by_cases hne:l=[]
 ·rw [if_pos hne] at hw;cases hw
 rw [if_neg hne] at hw
 by_cases he:(enc (kw kind l) l).2=0
 ·have he':enc (kw kind l) l=((enc (kw kind l) l).1,0):=Yk rfl he
  obtain ⟨hk,h64,_⟩:=ft he';have hR:=tS h he';have hn:=rM l;have h0:0<l.length:=Zi.2 hne;have hdl:=uK h he';refine ⟨kw kind l,hne,hR,he',rfl,by unfold wr;rw [if_neg hne,if_neg (by simpa using he)],fun t=>⟨by unfold mw ip;simp,hk,by omega,by omega,hR _ (uH hne),hR _ (uI hne),by omega,by simp [dQ]⟩⟩
 ·rw [if_pos (by simpa using he)] at hw;exact absurd hw he
theorem GY {l:List Ap} {kind:Int} (h: ∀v∈l,VOK v) (hw:(wr kind l).2=0):Byt (wr kind l).1∧(wr kind l).1.length≤100000:=by
 obtain ⟨k,hne,hR,he,_,hw,hB⟩:=C7 h hw;obtain ⟨hk,h64,_⟩:=ft he;have hn:=rM l;have h0:0<l.length:=Zi.2 hne;have hdl:=uK h he;have hmin:=hR _ (uH hne);have hmax:=hR _ (uI hne);have l1:=(d8 hmin).2;have l2:=(d8 hmax).2;rw [hw];unfold mw;refine ⟨.app (Bj hk ⟨by omega,by omega⟩ ⟨by omega,by omega⟩ hmin hmax (xf k h) (by omega)) (Aq _),?_⟩;simp only [Z3,dQ];unfold ip;rw [qj];omega
theorem Ky {l:List Ap} {kind:Int} (h: ∀v∈l,VOK v) (hw:(wr kind l).2=0) {t:List Int} (ht:Byt t) (hl:t.length≤900000000000):kO ((wr kind l).1++t)=some (l,((wr kind l).1.length:Int),0):=by
 obtain ⟨hby,hle⟩:=GY h hw;obtain ⟨k,hne,hR,he,_,hw,hB⟩:=C7 h hw;rw [hw] at hby hle ⊢;simp only at hby hle ⊢;rw [IQ (hby.app ht) (by simp only [Z3];omega) (hB t)];have hd:=Ku h he;unfold FA;rw [hd,if_pos (by rw [Xj (dQ _)];rfl),if_neg (by simp),if_pos ⟨rfl,rfl,rfl⟩];have:(mw (ip k l)).length=(ip k l).length+4:=by unfold mw;simp [dQ]
 rw [this];rfl
open Option renaming bind_some→Z0,getD_some→Xe,bind_assoc→Y0
open List renaming take_succ_eq_append_getElem→Z1,getElem_mem→Z2,length_append→Z3,take_length→Z4,getElem?_eq_getElem→Z5,length_singleton→Z6,length_cons→Z7,replicate→Z9,eq_nil_of_length_eq_zero→Za,mem_append→Zd,mem_of_mem_take→Zf,take_append_drop→Zg,drop_eq_getElem_cons→Zh,length_pos_iff→Zi,append_assoc→Zj,pairwise_cons→Zk,length_take→Zl,pairwise_append→Zo,length_map→Zp,mem_cons→Zq,getD_eq_getElem?_getD→Zu,range→Zw,flatMap_cons→Zx,foldl_cons→Zy,nil_append→Zz,mem_map→X3,mem_singleton→X5,mem_of_getLast?→X7,pairwise_iff_getElem→X8,getElem?_eq_some_iff→X9,flatMap_append→Xa,cons_append→Xc,drop_zero→Xf,drop_left→Xg,getElem?_drop→Xh,take_of_length_le→Xi,take_left'→Xj,append_nil→Xk,foldl_append→Xl,length_range→Xm,length_replicate→Xn,dropLast_concat_getLast→Xq,getElem?_append_right→Xv,getLast?_eq_none_iff→Xx,getLast?_eq_getElem?→Xy,map_append→Xz,getElem?_append_left→Y1,mem_replicate→Y3,eq_of_mem_replicate→Y5,drop_drop→Y7,flatMap_singleton→Y9,map_cons→Yc,singleton_append→Yd,getElem?_eq_none→Ye,range_succ→Yg,map_nil→Yh
open Nat renaming le_refl→Zn,lt_of_lt_of_le→Zt,mul_le_mul→Zv,strongRecOn→Xb,testBit_xor→Xd,pow_le_pow_right→Xo,eq_of_testBit_eq→Xp,two_pow_add_eq_or_of_lt→Xr,mod_two_eq_zero_or_one→Xu,testBit_succ→Y8,xor_comm→Yj
open Bool renaming false_eq_true→Z8,not_true→Xw,not_false→Y6,not_eq_true→Ya,true_and→Yb
open Int renaming eq_ofNat_of_zero_le→Zc,tmod_eq_emod_of_nonneg→Zr,tdiv_eq_ediv_of_nonneg→Zs,fdiv_eq_ediv_of_nonneg→X4,natCast_pow→Xt,toNat_natCast→Y2,emod_eq_of_lt→Y4,le_of_lt→Yi
open BitVec renaming ofInt→Ze,toNat_ofInt→Zm
open Prod renaming ext→Yk
open IntKind renaming i64→Zb,u64→X6,u32→Xs,u8→Yf
end Go.Proofs.YthbonoagbeilkaaGreat.Hay
/- The checksum, bit by bit and by half bytes (plain numbers). -/
namespace Go.Proofs.YthbonoagbeilkaaGreat.Hay
open Option renaming bind_some→Z0,getD_some→Xe,bind_assoc→Y0
open List renaming take_succ_eq_append_getElem→Z1,getElem_mem→Z2,length_append→Z3,take_length→Z4,getElem?_eq_getElem→Z5,length_singleton→Z6,length_cons→Z7,replicate→Z9,eq_nil_of_length_eq_zero→Za,mem_append→Zd,mem_of_mem_take→Zf,take_append_drop→Zg,drop_eq_getElem_cons→Zh,length_pos_iff→Zi,append_assoc→Zj,pairwise_cons→Zk,length_take→Zl,pairwise_append→Zo,length_map→Zp,mem_cons→Zq,getD_eq_getElem?_getD→Zu,range→Zw,flatMap_cons→Zx,foldl_cons→Zy,nil_append→Zz,mem_map→X3,mem_singleton→X5,mem_of_getLast?→X7,pairwise_iff_getElem→X8,getElem?_eq_some_iff→X9,flatMap_append→Xa,cons_append→Xc,drop_zero→Xf,drop_left→Xg,getElem?_drop→Xh,take_of_length_le→Xi,take_left'→Xj,append_nil→Xk,foldl_append→Xl,length_range→Xm,length_replicate→Xn,dropLast_concat_getLast→Xq,getElem?_append_right→Xv,getLast?_eq_none_iff→Xx,getLast?_eq_getElem?→Xy,map_append→Xz,getElem?_append_left→Y1,mem_replicate→Y3,eq_of_mem_replicate→Y5,drop_drop→Y7,flatMap_singleton→Y9,map_cons→Yc,singleton_append→Yd,getElem?_eq_none→Ye,range_succ→Yg,map_nil→Yh
open Nat renaming le_refl→Zn,lt_of_lt_of_le→Zt,mul_le_mul→Zv,strongRecOn→Xb,testBit_xor→Xd,pow_le_pow_right→Xo,eq_of_testBit_eq→Xp,two_pow_add_eq_or_of_lt→Xr,mod_two_eq_zero_or_one→Xu,testBit_succ→Y8,xor_comm→Yj
open Bool renaming false_eq_true→Z8,not_true→Xw,not_false→Y6,not_eq_true→Ya,true_and→Yb
open Int renaming eq_ofNat_of_zero_le→Zc,tmod_eq_emod_of_nonneg→Zr,tdiv_eq_ediv_of_nonneg→Zs,fdiv_eq_ediv_of_nonneg→X4,natCast_pow→Xt,toNat_natCast→Y2,emod_eq_of_lt→Y4,le_of_lt→Yi
open BitVec renaming ofInt→Ze,toNat_ofInt→Zm
open Prod renaming ext→Yk
open IntKind renaming i64→Zb,u64→X6,u32→Xs,u8→Yf
def zk:Nat:=3988292384
def gt (x:Nat):Nat:=(x/2)^^^(if x.testBit 0 then zk else 0)
theorem IR (a b:Nat):(a^^^b)/2=a/2^^^b/2:=by
 apply Xp;intro i;rw [Xd, ←Y8, ←Y8, ←Y8,Xd]
theorem sJ (a b:Nat):gt (a^^^b)=gt a^^^gt b:=by
 unfold gt;rw [IR,Xd];apply Xp;intro i;cases a.testBit 0<;>cases b.testBit 0<;>simp [Xd]<;>cases (a/2).testBit i<;>cases (b/2).testBit i<;>simp
theorem qO (x:Nat):gt (2*x)=x:=by
 unfold gt;simp
def gD (x:Nat):Nat:=gt (gt (gt (gt x)))
theorem ww (x:Nat):gD x=gD (x%16)^^^(x/16):=by
 have h:x=(2*(2*(2*(2*(x/16)))))^^^(x%16):=by
  have e2:2*(2*(2*(2*(x/16))))=2^4*(x/2^4):=by
   have e:(2:Nat)^4=16:=rfl;rw [e];omega
  rw [e2,show x%16=x%2^4 from rfl];apply Xp;intro i;rw [Xd,Nat.testBit_two_pow_mul,Nat.testBit_div_two_pow,Nat.testBit_mod_two_pow]
  by_cases hi:i<4
  ·have: ¬ 4≤i:=by omega
   simp [hi,this]
  ·have h4:4≤i:=by omega
   have h5:i - 4+4=i:=by omega
   simp [hi,h4,h5]
 conv=>lhs;rw [h]
 unfold gD;rw [sJ,sJ,sJ,sJ,qO,qO,qO,qO,Yj]
def wy (x:Nat):Nat:=gD (gD x)
theorem Ju {a b:Nat} (ha:a<4294967296) (hb:b<4294967296):dh .u32 (a:Int) (b:Int)=((a&&&b:Nat):Int):=by
 unfold dh;rw [lA]
 have h1:(Ze Xs.bits (a:Int)).toNat=a:=by
  show (Ze 32 (a:Int)).toNat=a;rw [Zm];omega
 have h2:(Ze Xs.bits (b:Int)).toNat=b:=by
  show (Ze 32 (b:Int)).toNat=b;rw [Zm];omega
 rw [BitVec.toNat_and,h1,h2];have:a&&&b≤a:=Nat.and_le_left;omega
theorem sK {a b:Nat} (ha:a<4294967296) (hb:b<4294967296):dR .u32 (a:Int) (b:Int)=((a^^^b:Nat):Int):=by
 unfold dR;rw [lA]
 have h1:(Ze Xs.bits (a:Int)).toNat=a:=by
  show (Ze 32 (a:Int)).toNat=a;rw [Zm];omega
 have h2:(Ze Xs.bits (b:Int)).toNat=b:=by
  show (Ze 32 (b:Int)).toNat=b;rw [Zm];omega
 rw [BitVec.toNat_xor,h1,h2];have:a^^^b<2^32:=Nat.xor_lt_two_pow (by simpa using ha) (by simpa using hb);have e:(2:Nat)^32=4294967296:=by decide
 omega
theorem zl {a b:Nat} (ha:a<4294967296) (hb:b<4294967296):a^^^b<4294967296:=by
 have:a^^^b<2^32:=Nat.xor_lt_two_pow (by simpa using ha) (by simpa using hb);simpa using this
theorem pC {x:Nat} (h:x<4294967296):gt x<4294967296:=by
 unfold gt;exact zl (by omega) (by split<;>decide)
theorem ol {x:Nat} (h:x<4294967296):gD x<4294967296:=pC (pC (pC (pC h)))
theorem IS (x:Nat):x&&&1=(x.testBit 0).toNat:=by
 rw [Nat.and_one_is_mod,Nat.testBit_zero];rcases Xu x with h|h<;>simp [h]
theorem DY {x:Nat} (hx:x<4294967296):dR .u32 (aD .u32 (x:Int) 1) (Xs.wrap (3988292384*dh .u32 (x:Int) 1))=((gt x:Nat):Int):=by
 have e1:=zj (x:=(x:Int)) (k:=1) (by omega);rw [show ((1:Nat):Int)=1 from rfl] at e1;have e2:=Ju (a:=x) (b:=1) hx (by omega);rw [show ((1:Nat):Int)=1 from rfl] at e2;rw [e1,e2,IS,lA];have e3:(x:Int)/2^1=((x/2:Nat):Int):=by omega
 have e4:3988292384*(((x.testBit 0).toNat:Nat):Int)%4294967296=((if x.testBit 0 then zk else 0:Nat):Int):=by
  cases x.testBit 0<;>simp [zk]
 rw [e3,e4,sK (by omega) (by split<;>decide)]
 rfl
def qv (n:Nat):List Int:=(Zw 16).map fun j=>if j<n then ((gD j:Nat):Int) else 0
theorem rN (n:Nat):(qv n).length=16:=by simp [qv]
theorem xg {n j:Nat} (h:j<16):(qv n)[j]? =some (if j<n then ((gD j:Nat):Int) else 0):=by
 unfold qv;rw [List.getElem?_map,List.getElem?_range h];rfl
theorem IT {n:Nat} (h:n<16):(qv n).set n ((gD n:Nat):Int)=qv (n+1):=by
 apply List.ext_getElem?
 intro j;rw [List.getElem?_set]
 by_cases hj:j<16
 ·rw [xg hj,xg hj]
  by_cases e:n=j
  ·subst e;rw [if_pos rfl,if_pos (by rw [rN];exact h),if_pos (by omega)]
  ·rw [if_neg e]
   by_cases h1:j<n
   ·rw [if_pos h1,if_pos (by omega)]
   ·rw [if_neg h1,if_neg (by omega)]
 ·have h1:(qv n)[j]? =none:=Ye (by rw [rN];omega)
  have h2:(qv (n+1))[j]? =none:=Ye (by rw [rN];omega);rw [h1,h2,if_neg (by omega)]
def lP (l:List Int):Nat:=l.foldl (fun c x=>wy (c^^^x.toNat)) 4294967295
def C8 (l:List Int):Nat:=4294967295^^^lP l
theorem uL {l:List Int} (h:Byt l):lP l<4294967296:=by
 unfold lP
 have: ∀(l:List Int) (c:Nat),Byt l→c<4294967296→l.foldl (fun c x=>wy (c^^^x.toNat)) c<4294967296:=by
  intro l
  induction l with
  |nil=>intro c _ h;exact h
  |cons x l ih=>
   intro c hb hc;have:=hb.head;exact ih _ hb.tail (ol (ol (zl hc (by omega))))
 exact this l _ h (by decide)
theorem GZ {n:Nat} (h:n<4294967296):dh .u32 (n:Int) 15=((n%16:Nat):Int):=by
 have:=Ju (a:=n) (b:=15) h (by omega);rw [show ((15:Nat):Int)=15 from rfl] at this;rw [this,show (15:Nat)=2^4 - 1 from rfl,Nat.and_two_pow_sub_one_eq_mod]
theorem LS {n:Nat}:aD .u32 (n:Int) 4=((n/16:Nat):Int):=by
 have:=zj (x:=(n:Int)) (k:=4) (by omega);rw [show ((4:Nat):Int)=4 from rfl] at this;rw [this];omega
theorem G0 (n:Nat) (h:n<4294967296):ix (qv 16) (dh .u32 (n:Int) 15)=some (n%16)∧(qv 16)[n%16]? =some ((gD (n%16):Nat):Int):=by
 rw [GZ h];refine ⟨nN (by rw [rN];omega),?_⟩;rw [xg (by omega),if_pos (by omega)]
theorem C9 {b:List Int} (hb:Byt b) (hl:b.length<4611686018427387904):gZ b=some ((C8 b:Nat):Int):=by
 have hj1:lX b (qv 16)=some ((C8 b:Nat):Int):=by
  unfold lX;refine aW (fun i=>(((lP (b.take i):Nat):Int),(i:Int))) b.length rfl (fun i hi=> ?_) ?_
  ·dsimp only
   unfold oH;have hc:=uL (hb.take i);have hx:=hb _ (Z2 hi);obtain ⟨x,hx'⟩:=Zc hx.1;have e0:Xs.wrap b[i]=(x:Int):=by rw [lA];omega
   obtain ⟨c,hcc⟩: ∃c,c=lP (b.take i)^^^x:=⟨_,rfl⟩
   have hclt:c<4294967296:=by rw [hcc];exact zl hc (by omega)
   have hnext:lP (b.take (i+1))=wy c:=by
    rw [Z1 hi];unfold lP at hcc ⊢;rw [Xl,hcc];simp [hx']
   obtain ⟨t1,t2⟩:=G0 c hclt;have h4:=ol (x:=c%16) (by omega)
   have e1:dR .u32 ((gD (c%16):Nat):Int) ((c/16:Nat):Int)=((gD c:Nat):Int):=by
    rw [sK h4 (by omega), ←ww]
   obtain ⟨u1,u2⟩:=G0 (gD c) (ol hclt);have h5:=ol (x:=gD c%16) (by omega)
   have e2:dR .u32 ((gD (gD c%16):Nat):Int) ((gD c/16:Nat):Int)=((wy c:Nat):Int):=by
    rw [sK h5 (by have:=ol hclt;omega), ←ww];rfl
   rw [if_pos (by simpa using hi),aA hi,Z0,e0,sK hc (by omega), ←hcc,t1,Z0,t2,Z0,LS,e1,u1,Z0,u2,Z0,LS,e2,aV (by omega),hnext]
  ·dsimp only
   unfold oH vJ;rw [if_neg (by simp),Z4]
   have e:zG .u32 ((lP b:Nat):Int)=((C8 b:Nat):Int):=by
    have:=sK (a:=4294967295) (b:=lP b) (by omega) (uL hb);unfold C8;rw [←this];rfl
   rw [e];rfl
 unfold gZ;refine aW (fun i=>((i:Int),qv i)) 16 (by decide) (fun i hi=> ?_) ?_
 ·dsimp only
  unfold oI;rw [if_pos (by simpa using by omega)];have e0:Xs.wrap (i:Int)=((i:Nat):Int):=by rw [lA];omega
  rw [e0];refine aW (fun q=>(((Nat.repeat gt q i:Nat):Int),(q:Int))) 4 rfl (fun q hq=> ?_) ?_
  ·dsimp only
   unfold lY
   have hlt: ∀q,Nat.repeat gt q i<4294967296:=by
    intro q
    induction q with
    |zero=>show i<_;omega
    |succ q ih=>exact pC ih
   rw [if_pos (by simpa using by omega),DY (hlt q),aV (by omega)]
   rfl
  ·dsimp only
   unfold lY rk rj;rw [if_neg (by decide),nN (by rw [rN];exact hi),Z0,xg hi,Z0,aV (by omega)];have:Nat.repeat gt 4 i=gD i:=rfl;rw [this,IT hi]
   rfl
 ·dsimp only
  unfold oI;rw [if_neg (by decide),hj1]
  rfl
open Option renaming bind_some→Z0,getD_some→Xe,bind_assoc→Y0
open List renaming take_succ_eq_append_getElem→Z1,getElem_mem→Z2,length_append→Z3,take_length→Z4,getElem?_eq_getElem→Z5,length_singleton→Z6,length_cons→Z7,replicate→Z9,eq_nil_of_length_eq_zero→Za,mem_append→Zd,mem_of_mem_take→Zf,take_append_drop→Zg,drop_eq_getElem_cons→Zh,length_pos_iff→Zi,append_assoc→Zj,pairwise_cons→Zk,length_take→Zl,pairwise_append→Zo,length_map→Zp,mem_cons→Zq,getD_eq_getElem?_getD→Zu,range→Zw,flatMap_cons→Zx,foldl_cons→Zy,nil_append→Zz,mem_map→X3,mem_singleton→X5,mem_of_getLast?→X7,pairwise_iff_getElem→X8,getElem?_eq_some_iff→X9,flatMap_append→Xa,cons_append→Xc,drop_zero→Xf,drop_left→Xg,getElem?_drop→Xh,take_of_length_le→Xi,take_left'→Xj,append_nil→Xk,foldl_append→Xl,length_range→Xm,length_replicate→Xn,dropLast_concat_getLast→Xq,getElem?_append_right→Xv,getLast?_eq_none_iff→Xx,getLast?_eq_getElem?→Xy,map_append→Xz,getElem?_append_left→Y1,mem_replicate→Y3,eq_of_mem_replicate→Y5,drop_drop→Y7,flatMap_singleton→Y9,map_cons→Yc,singleton_append→Yd,getElem?_eq_none→Ye,range_succ→Yg,map_nil→Yh
open Nat renaming le_refl→Zn,lt_of_lt_of_le→Zt,mul_le_mul→Zv,strongRecOn→Xb,testBit_xor→Xd,pow_le_pow_right→Xo,eq_of_testBit_eq→Xp,two_pow_add_eq_or_of_lt→Xr,mod_two_eq_zero_or_one→Xu,testBit_succ→Y8,xor_comm→Yj
open Bool renaming false_eq_true→Z8,not_true→Xw,not_false→Y6,not_eq_true→Ya,true_and→Yb
open Int renaming eq_ofNat_of_zero_le→Zc,tmod_eq_emod_of_nonneg→Zr,tdiv_eq_ediv_of_nonneg→Zs,fdiv_eq_ediv_of_nonneg→X4,natCast_pow→Xt,toNat_natCast→Y2,emod_eq_of_lt→Y4,le_of_lt→Yi
open BitVec renaming ofInt→Ze,toNat_ofInt→Zm
open Prod renaming ext→Yk
open IntKind renaming i64→Zb,u64→X6,u32→Xs,u8→Yf
theorem Kz {b:List Int} (hb:Byt b) (hl:b.length<4611686018427387904):lF b=((C8 b:Nat):Int):=by
 unfold lF;rw [C9 hb hl];rfl
theorem Et {b:List Int} (hb:Byt b) (hl:b.length<4611686018427387904):y2 b=some (lF b):=by
 rw [Kz hb hl];unfold y2;refine aW (fun i=>(((lP (b.take i):Nat):Int),(i:Int))) b.length rfl (fun i hi=> ?_) ?_
 ·dsimp only
  unfold vR;have hc:=uL (hb.take i);have hx:=hb _ (Z2 hi);obtain ⟨x,hx'⟩:=Zc hx.1;have e0:Xs.wrap b[i]=(x:Int):=by rw [lA];omega
  obtain ⟨c,hcc⟩: ∃c,c=lP (b.take i)^^^x:=⟨_,rfl⟩
  have hclt:c<4294967296:=by rw [hcc];exact zl hc (by omega)
  have hnext:lP (b.take (i+1))=wy c:=by
   rw [Z1 hi];unfold lP at hcc ⊢;rw [Xl,hcc];simp [hx']
  rw [if_pos (by simpa using hi),aA hi,Z0,e0,sK hc (by omega), ←hcc];refine aW (fun q=>(((Nat.repeat gt q c:Nat):Int),(q:Int))) 8 rfl (fun q hq=> ?_) ?_
  ·dsimp only
   have hlt: ∀q,Nat.repeat gt q c<4294967296:=by
    intro q
    induction q with
    |zero=>exact hclt
    |succ q ih=>exact pC ih
   have hq0:=hlt q;obtain ⟨y,hy⟩: ∃y,y=Nat.repeat gt q c:=⟨_,rfl⟩
   have hs:Nat.repeat gt (q+1) c=gt y:=by rw [hy];rfl
   rw [←hy] at hq0 ⊢;unfold vQ vP;have e1:((y:Int)).tmod 2=((y%2:Nat):Int):=by rw [Zr (by omega)];omega
   have e2:((y:Int)).tdiv 2=((y/2:Nat):Int):=by rw [Zs (by omega)];omega
   have e3:Xs.wrap ((y/2:Nat):Int)=((y/2:Nat):Int):=by rw [lA];omega
   rw [if_pos (by simpa using by omega),e1,e2,e3,aV (by omega),hs];unfold gt;rw [Nat.testBit_zero];rcases Xu y with h|h
   ·rw [h,Yj];simp
   ·rw [h]
    have e4:dR .u32 ((y/2:Nat):Int) 3988292384=((y/2^^^zk:Nat):Int):=sK (a:=y/2) (b:=zk) (by omega) (by decide);rw [e4];rfl
  ·dsimp only
   unfold vQ A7;rw [if_neg (by decide),aV (by omega),hnext]
   rfl
 ·dsimp only
  unfold vR A6;rw [if_neg (by simp),Z4];have e:=sK (a:=lP b) (b:=4294967295) (uL hb) (by omega);rw [show ((4294967295:Nat):Int)=4294967295 from rfl] at e;rw [e,Yj]
  rfl
def dN (n:Int):Nat→Int
 |0=>n
 |k+1=>dN n k/256
theorem Ar {n:Int} (h:0≤n∧n<18446744073709551616): ∀k,0≤dN n k∧dN n k<18446744073709551616
 |0=>h
 |k+1=>by have:=Ar h k;unfold dN;omega
theorem qP {n:Int} (h:0≤n∧n<4294967296):n9 n 4=some (be4 n):=by
 unfold n9
 have inner: ∀(acc:List Int) (i:Nat),acc.length≤1000→i<10→oL n acc (i:Int)=some (.inl (acc++[dN n i%256],(i:Int) - 1)):=by
  intro acc i hal hi;unfold oL;rw [if_pos (by simp)];refine aW (fun q=>(dN n q,(q:Int))) i rfl (fun q hq=> ?_) ?_
  ·dsimp only
   unfold rB;have hb:=Ar (n:=n) (by omega) q
   have e:X6.wrap ((dN n q).tdiv 256)=dN n (q+1):=by
    rw [bD,Zs hb.1];have:dN n (q+1)=dN n q/256:=rfl;omega
   rw [if_pos (by simpa using hq),e,aV (by omega)]
  ·dsimp only
   unfold rB vU vT;have hb:=Ar (n:=n) (by omega) i
   have e:Yf.wrap ((dN n i).tmod 256)=dN n i%256:=by
    rw [bm,Zr hb.1];omega
   rw [if_neg (by simp),e,aJ (by simp;omega),Z0,ak (by omega)]
   rfl
 have h3:=inner [] 3 (by simp) (by omega);have h2:=inner ([]++[dN n 3%256]) 2 (by simp) (by omega);have h1:=inner ([]++[dN n 3%256]++[dN n 2%256]) 1 (by simp) (by omega);have h0:=inner ([]++[dN n 3%256]++[dN n 2%256]++[dN n 1%256]) 0 (by simp) (by omega);rw [show Zb.wrap (4 - 1)=((3:Nat):Int) from rfl];rw [bO (s':=([]++[dN n 3%256],((2:Nat):Int))) (by dsimp only;rw [h3];rfl)];rw [bO (s':=([]++[dN n 3%256]++[dN n 2%256],((1:Nat):Int))) (by dsimp only;rw [h2];rfl)];rw [bO (s':=([]++[dN n 3%256]++[dN n 2%256]++[dN n 1%256],((0:Nat):Int))) (by dsimp only;rw [h1];rfl)]
 rw [bO (s':=([]++[dN n 3%256]++[dN n 2%256]++[dN n 1%256]++[dN n 0%256],-1)) (by dsimp only;rw [h0];rfl)];refine a7 ?_;dsimp only;unfold oL vS;rw [if_neg (by decide)];have e3:dN n 3=n/2^24:=by unfold dN dN dN dN;omega
 have e2:dN n 2=n/2^16:=by unfold dN dN dN;omega
 have e1:dN n 1=n/2^8:=by unfold dN dN;omega
 rw [e3,e2,e1]
 rfl
def G1 (kind:Int) (l:List Ap):dp:=⟨kind,(l.length:Int),oV l,oW l,(fo l:Int),0⟩
theorem FB {l:List Ap} {i:Nat} (h:i<l.length):fo (l.take (i+1))=fo (l.take i)+if (l[i].fKind==0)=true then 1 else 0:=by
 unfold fo;rw [Z1 h,List.filter_append,Z3];congr 1
 by_cases hv:(l[i].fKind==0)=true
 ·rw [if_pos hv];simp at hv;simp [hv]
 ·rw [if_neg hv];simp at hv;simp [hv]
theorem IU {l:List Ap} (kind:Int) (h:l≠[]) (hl:l.length≤1048576):yf kind l=some (G1 kind l):=by
 cases hlr:l with
 |nil=>exact absurd hlr h
 |cons v r=>
 rw [←hlr];have i0:idx l 0=some v:=by rw [hlr];exact dF _ _
 unfold yf;rw [i0,Z0,Z0];refine aW (fun i=>((i:Int),(⟨kind,(l.length:Int),(l.take i).foldl (fun m x=>if ltV x m then x else m) v,(l.take i).foldl (fun m x=>if ltV m x then x else m) v,(fo (l.take i):Int),0⟩:dp))) l.length rfl (fun i hi=> ?_) ?_
 ·dsimp only
  obtain ⟨a,ha⟩: ∃a,a=(l.take i).foldl (fun m x=>if ltV x m then x else m) v:=⟨_,rfl⟩
  obtain ⟨b,hb⟩: ∃b,b=(l.take i).foldl (fun m x=>if ltV m x then x else m) v:=⟨_,rfl⟩
  have hn:=rM (l.take i);simp only [Zl] at hn;rw [iI hi,iI hi,FB hi, ←ha, ←hb]
  have j3: ∀x y,pQ l (i:Int) ⟨kind,(l.length:Int),x,y,(fo (l.take i):Int),0⟩=some (.inl (((i+1:Nat):Int),⟨kind,(l.length:Int),x,y,((fo (l.take i)+if (l[i].fKind==0)=true then 1 else 0:Nat):Int),0⟩)):=by
   intro x y;unfold pQ te;rw [aA hi,Z0,aV (by omega)]
   by_cases hv:(l[i].fKind==0)=true
   ·rw [if_pos hv,if_pos hv]
    dsimp only;rw [aV (by omega)]
   ·rw [if_neg hv,if_neg hv];rfl
  have j2: ∀x,pR l (i:Int) ⟨kind,(l.length:Int),x,b,(fo (l.take i):Int),0⟩=some (.inl (((i+1:Nat):Int),⟨kind,(l.length:Int),x,if ltV b l[i] then l[i] else b,((fo (l.take i)+if (l[i].fKind==0)=true then 1 else 0:Nat):Int),0⟩)):=by
   intro x;unfold pR;rw [aA hi,Z0,pw,Z0]
   by_cases hc:ltV b l[i]=true
   ·rw [if_pos (decide_eq_true ((uG _ _).2 hc)),Z0,if_pos hc];exact j3 _ _
   ·rw [if_neg (by simpa using fun h=>hc ((uG _ _).1 h)),if_neg hc];exact j3 _ _
  unfold tf;rw [if_pos (by simpa using hi),aA hi,Z0,pw,Z0]
  by_cases hc:ltV l[i] a=true
  ·rw [if_pos (decide_eq_true ((kW _ _).2 hc)),Z0,if_pos hc];exact j2 _
  ·rw [if_neg (by simpa using fun h=>hc ((kW _ _).1 h)),if_neg hc];exact j2 _
 ·dsimp only
  unfold tf xD;rw [if_neg (by simp),Z4]
  have e1:l.foldl (fun m x=>if ltV x m then x else m) v=oV l:=by
   rw [hlr];simp only [oV,Zy]
   have:ltV v v=false:=by
    cases hvv:ltV v v with
    |false=>rfl
    |true=>have:=rJ hvv;rw [hvv] at this;cases this
   rw [this];rfl
  have e2:l.foldl (fun m x=>if ltV m x then x else m) v=oW l:=by
   rw [hlr];simp only [oW,Zy]
   have:ltV v v=false:=by
    cases hvv:ltV v v with
    |false=>rfl
    |true=>have:=rJ hvv;rw [hvv] at this;cases this
   rw [this];rfl
  rw [e1,e2]
  rfl
theorem G2 {l:List Ap} (kind:Int) (h: ∀v∈l,VOK v) (hl:l.length≤1048576):yg kind l=some (wr kind l):=by
 have key: ∀k,l≠[]→pS l k=some (if (enc k l).2≠0 then ([],(enc k l).2) else (mw (ip k l),0)):=by
  intro k hne;unfold pS;rw [qu k h hl,Z0]
  by_cases he:(enc k l).2=0
  ·rw [if_neg (by simpa using he),if_neg (by simpa using he)]
   have he':enc k l=((enc k l).1,0):=Yk rfl he;obtain ⟨hk,h64,_⟩:=ft he';have hR:=tS h he';have hdl:=uK h he';have hn:=rM l;have h0:0<l.length:=Zi.2 hne;have hmin:=hR _ (uH hne);have hmax:=hR _ (uI hne);have l1:=(d8 hmin).2;have l2:=(d8 hmax).2;rw [IU k hne hl,Z0];simp only [G1];rw [oS hmin,Z0,aJ (by simp;omega),Z0,oS hmax,Z0,aJ (by simp;omega),Z0,aJ (by simp;omega),Z0,aJ (by simp;omega),Z0];have a1:Yf.wrap k=k:=by rw [bm];omega
   have a2:Yf.wrap (l.length:Int)=(l.length:Int):=by rw [bm];omega
   have a3:Yf.wrap (fo l:Int)=(fo l:Int):=by rw [bm];omega
   have a4:Yf.wrap (Zb.wrap (((enc k l).1.length:Int).tdiv 256))=(((enc k l).1.length/256:Nat):Int):=by
    rw [Zs (by omega),ak (by omega),bm];omega
   have a5:Yf.wrap (((enc k l).1.length:Int).tmod 256)=(((enc k l).1.length%256:Nat):Int):=by
    rw [Zr (by omega),bm];omega
   have e:(([Yf.wrap k,Yf.wrap (l.length:Int),Yf.wrap (fo l:Int)]++bv (oV l)++bv (oW l)++[Yf.wrap (Zb.wrap (((enc k l).1.length:Int).tdiv 256)),Yf.wrap (((enc k l).1.length:Int).tmod 256)])++(enc k l).1)=ip k l:=by
    unfold ip fQ be2;rw [a1,a2,a3,a4,a5];simp
   have hbb:Byt (ip k l):=Bj hk ⟨by omega,by omega⟩ ⟨by omega,by omega⟩ hmin hmax (xf k h) (by omega);have s2:(ip k l).length≤1000000000:=by unfold ip;rw [qj];omega
   have hu:=(wu (b:=ip k l) (by omega)).2;unfold U32 at hu;rw [e,Et hbb (by omega),Z0,bD,Y4 hu.1 (by omega),qP hu,Z0,aJ (by rw [dQ];omega),Z0]
   rfl
  ·rw [if_pos (by simpa using he),if_pos he]
 unfold yg wr
 by_cases hne:l=[]
 ·subst hne;rfl
 ·have h0:0<l.length:=Zi.2 hne
  rw [if_neg (by simp;omega),if_neg hne];unfold kw
  by_cases hk:kind= -1
  ·rw [if_pos (by simpa using hk),if_pos hk,DX h hl,Z0,key _ hne]
  ·rw [if_neg (by simpa using hk),if_neg hk,key _ hne]
theorem IV {n:Int} (h:U32 n):en (be4 n)=n:=by
 unfold U32 at h;unfold be4 en;simp only [Zy,List.foldl_nil];omega
set_option linter.unusedVariables false
set_option linter.unusedSimpArgs false
section
variable {α:Type}
theorem LT {xs:List α} {i:Nat} (h:i<xs.length):ix xs (i:Int)=some i:=by
  unfold ix;rw [if_pos (by omega)];simp
theorem uM {xs A B:List α} {x:α} {i:Int} (e:xs=A++x::B) (hi:i=(A.length:Int)):ix xs i=some A.length:=by
  subst e hi;unfold ix;rw [if_pos (by simp;omega)];simp
theorem oX {xs A B:List α} {x:α} (e:xs=A++x::B):xs[A.length]? =some x:=by subst e;simp
theorem zm {xs A B:List α} {x:α} (y:α) (e:xs=A++x::B):xs.set A.length y=A++y::B:=by subst e;simp
theorem Jv {β:Type} {xs A B:List α} {x:α} {i:Int} {k:Nat→α→Option β} (e:xs=A++x::B) (hi:i=(A.length:Int)):((ix xs i).bind fun j=>(xs[j]?).bind fun x=>k j x)=k A.length x:=by
  rw [uM e hi,Z0,oX e,Z0]
def swp (xs:List α) (i j:Int):Option (List α):=
  (ix xs i).bind fun a=>(xs[a]?).bind fun x=>(ix xs j).bind fun b=>(xs[b]?).bind fun y=>(ix xs j).bind fun c=>(xs[c]?).bind fun _=>
  (ix (xs.set c x) i).bind fun d=>((xs.set c x)[d]?).bind fun _=>some ((xs.set c x).set d y)
theorem G3 {A B C xs:List α} {x y:α} {i j:Int} (e:xs=A++x::(B++y::C)) (hi:i=(A.length:Int)) (hj:j=(A.length:Int)+1+B.length):swp xs i j=some (A++y::(B++x::C)):=by
  have e2:xs=(A++x::B)++y::C:=by rw [e];simp
  have hj:j=((A++x::B).length:Int):=by rw [hj];simp;omega
  unfold swp;rw [uM e hi,Z0,oX e,Z0,uM e2 hj,Z0,oX e2,Z0,Z0,oX e2,Z0];have e3:=zm x e2;rw [e3];have e4:(A++x::B)++x::C=A++x::(B++x::C):=by simp
  rw [uM e4 hi,Z0,oX e4,Z0,zm y e4]
theorem G4 {A B C xs:List α} {x y:α} {i j:Int} (e:xs=A++x::(B++y::C)) (hi:i=(A.length:Int)) (hj:j=(A.length:Int)+1+B.length):swp xs j i=some (A++y::(B++x::C)):=by
  have e2:xs=(A++x::B)++y::C:=by rw [e];simp
  have hj:j=((A++x::B).length:Int):=by rw [hj];simp;omega
  unfold swp;rw [uM e2 hj,Z0,oX e2,Z0,uM e hi,Z0,oX e,Z0,Z0,oX e,Z0];have e3:=zm y e;rw [e3];have e4:A++y::(B++y::C)=(A++y::B)++y::C:=by simp
  have hj2:j=((A++y::B).length:Int):=by rw [hj];simp
  have e5:(A++x::B).length=(A++y::B).length:=by simp
  rw [uM e4 hj2,Z0,oX e4,Z0,zm x e4];simp
theorem Au {n:Nat} {S:List α} (h:S.length=n+1): ∃S' s,S=S'++[s]∧S'.length=n:=by
  have hn:S≠[]:=by intro e;rw [e] at h;cases h
  refine ⟨S.dropLast,S.getLast hn,(Xq hn).symm,by simp [h]⟩
theorem Stb.perm {lt:α→α→Bool} (h:Swo lt) {l l':List α} (hs:Stb lt l l'):l'.Perm l:=by
  classical
  rw [List.perm_iff_count];intro a;rw [←List.count_filter (p:=eqv lt a) (kA h a),hs.flt a,List.count_filter (kA h a)]
theorem Stb.len {lt:α→α→Bool} (h:Swo lt) {l l':List α} (hs:Stb lt l l'):l'.length=l.length:=(hs.perm h).length_eq
theorem Stb.app {lt:α→α→Bool} {l l' m m':List α} (h1:Stb lt l l') (h2:Stb lt (l'++m) m'):Stb lt (l++m) m':=
  h2.trans fun a=>by simp [h1.flt]
end
def Cmp {α:Type} (lt:α→α→Bool) (p:α→α→Option Int):Prop:= ∀x y,∃c,p x y=some c∧decide (c<0)=lt x y
section
variable {lt:aa→aa→Bool} {p:aa→aa→Option Int}
theorem LU (h : Swo lt) (hp : Cmp lt p) (L R : List aa) (v : aa) (a x6 : Int) (ha : a = (L.length : Int)) (hx : -9223372036854775808 ≤ x6 + 1 ∧ x6 + 1 ≤ 9223372036854775807) :
    ∀(n:Nat) (S1 S2:List aa) (j:Int) (xs:List aa),S1.length=n→j=(L.length:Int)+S1.length→xs=L++S1++v::(S2++R)→Srt lt (S1++S2)→(∀s∈S2,lt v s=true)→j<4611686018427387904→
    ∃T,aq (fun s:(Int×List aa)=>aZ a p x6 s.1 s.2) (j,xs)=some (.inl (x6+1,L++T++R))∧Stb lt (S1++S2++[v]) T:=by
  intro n
  induction n with
  | zero =>
    intro S1 S2 j xs hn hj hxs hs hv hb;obtain rfl:=Za hn;refine ⟨v::S2,?_,?_⟩
    · apply a7
      simp only [aZ];rw [if_neg (by simp;simp at hj;omega)];simp only [aY,cz,ak hx];simp [hxs]
    · simpa using Stb.ins h (S1:=[]) hs hv (by simp)
  | succ n ih =>
    intro S1 S2 j xs hn hj hxs hs hv hb;obtain ⟨S1',s,rfl,hn'⟩:=Au hn;rw [Z3,Z6] at hj;have e1:xs=(L++S1')++s::([]++v::(S2++R)):=by rw [hxs];simp
    have e2:xs=(L++(S1'++[s]))++v::(S2++R):=hxs;have hj1:j - 1=((L++S1').length:Int):=by rw [Z3];omega
    have hj2:j=((L++(S1'++[s])).length:Int):=by simp;omega
    have hw:Zb.wrap (j - 1)=j - 1:=ak (by omega);obtain ⟨c,hc,hd⟩:=hp v s
    have hb2:aZ a p x6 j xs=aY x6 j xs (lt v s):=by
      simp only [aZ];rw [if_pos (by simp;omega),Jv e2 hj2,hw,Jv e1 hj1,hc,Z0,hd]
    cases hl:lt v s with
    | true =>
      have hst:aZ a p x6 j xs=some (.inl (j - 1,(L++S1')++v::([]++s::(S2++R)))):=by
        have h1:(swp xs (j - 1) j)=_:=G3 e1 hj1 (by rw [←hj1];simp)
        have h2:aY x6 j xs true=(swp xs (j - 1) j).bind fun r=>some (.inl (j - 1,r)):=by
          simp only [aY,swp,Y0,Z0,hw,if_true]
        rw [hb2,hl,h2,h1,Z0]
      obtain ⟨T,h1,h2⟩:=ih S1' (s::S2) (j - 1) _ hn' (by omega) rfl (by simpa using hs) (by
        intro x hx;rcases Zq.1 hx with rfl|hx
        · exact hl
        · exact hv x hx) (by omega)
      refine ⟨T,?_,by simpa using h2⟩;rw [bO hst];simpa using h1
    | false =>
      refine ⟨S1'++[s]++v::S2,?_,?_⟩
      · apply a7
        show aZ a p x6 j xs=_;rw [hb2,hl];simp only [aY,cz,ak hx];simp [hxs]
      · refine Stb.ins h hs hv (Cn h ?_ hl)
        unfold Srt at hs ⊢;rw [Zo] at hs;exact hs.1
theorem KA (h:Swo lt) (hp:Cmp lt p) (L R:List aa) (a b:Int) (ha:a=(L.length:Int)) (hb:b<4611686018427387904):
    ∀(Y S0 S:List aa) (j:Int) (xs:List aa),Stb lt S0 S→j=(L.length:Int)+S.length→b=(L.length:Int)+S.length+Y.length→xs=L++S++(Y++R)→
    ∃T,aq (fun s:(Int×List aa)=>bj a b p s.1 s.2) (j,xs)=some (L++T++R)∧Stb lt (S0++Y) T:=by
  intro Y
  induction Y with
  | nil =>
    intro S0 S j xs hs hj hb' hxs;refine ⟨S,?_,by simpa using hs⟩;apply a7;simp only [bj];rw [if_neg (by simp;simp at hb';omega)];simp [hxs]
  | cons v Y ih =>
    intro S0 S j xs hs hj hb' hxs;rw [Z7] at hb';obtain ⟨T,h1,h2⟩:=LU h hp L (Y++R) v a j ha (by omega) S.length S [] j xs rfl hj (by rw [hxs];simp) (by simpa using hs.srt) (by simp) (by omega)
    have hst:bj a b p j xs=some (.inl (j+1,L++T++(Y++R))):=by
      simp only [bj];rw [if_pos (by simp;omega)];exact h1
    rw [Xk] at h2;have hlT:=h2.len h;rw [Z3,Z6] at hlT;obtain ⟨T',h3,h4⟩:=ih (S0++[v]) T (j+1) _ (hs.app h2) (by omega) (by omega) rfl;refine ⟨T',?_,by simpa using h4⟩;rw [bO hst,h3]
theorem G5 (h:Swo lt) (hp:Cmp lt p) (L X R:List aa) {a b:Int} {xs:List aa} (ha:a=(L.length:Int)) (hb:b=(L.length:Int)+X.length) (hn:b<4611686018427387904) (hxs:xs=L++X++R):
    ∃T,ci xs a b p=some (L++T++R)∧Stb lt X T:=by
  unfold ci;rw [ak (by omega)];cases X with
  | nil =>
    refine ⟨[],?_,⟨List.Pairwise.nil,fun _=>rfl⟩⟩;apply a7;simp only [bj];rw [if_neg (by simp;simp at hb;omega)];simp [hxs]
  | cons v X =>
    rw [Z7] at hb;obtain ⟨T,h1,h2⟩:=KA h hp L R a b ha hn X [v] [v] (a+1) xs ⟨by simp [Srt],fun _=>rfl⟩ (by simp;omega) (by simp;omega) (by rw [hxs];simp);exact ⟨T,h1,by simpa using h2⟩
end
set_option linter.unusedVariables false
set_option linter.unusedSimpArgs false
section
variable {lt:aa→aa→Bool} {p:aa→aa→Option Int}
theorem IW (p1 p2 p3:Int): ∀(U2 V2 A V1 B U1 C:List aa) (i:Int) (xs:List aa),V2.length=U2.length→V1.length=U1.length→i=(V1.length:Int)→p1=(A.length:Int)→
  p2=(A.length:Int)+V1.length+U2.length+B.length→p3=i+U2.length→xs=A++V1++U2++B++U1++V2++C→p2+p3<4611686018427387904→
  aq (fun s:(Int×List aa)=>bE p1 p2 p3 s.1 s.2) (i,xs)=some (A++(V1++V2)++B++(U1++U2)++C):=by
 intro U2
 induction U2 with
 |nil=>
  intro V2 A V1 B U1 C i xs h1 h2 h3 h4 h5 h6 hxs hb;obtain rfl:=Za (h1.trans rfl);apply a7;simp only [bE];rw [if_neg (by simp;simp at h6;omega)];simp [hxs]
 | cons u U2 ih =>
  intro V2 A V1 B U1 C i xs h1 h2 h3 h4 h5 h6 hxs hb;cases V2 with
  |nil=>cases h1
  | cons v V2 =>
   rw [Z7,Z7] at h1;rw [Z7] at h5 h6;have e1:xs=(A++V1)++u::((U2++B++U1)++v::(V2++C)):=by rw [hxs];simp
   have hi:p1+i=((A++V1).length:Int):=by rw [Z3];omega
   have hj:p2+i=((A++V1).length:Int)+1+(U2++B++U1).length:=by simp only [Z3];omega
   have hst:bE p1 p2 p3 i xs=some (.inl (i+1,(A++V1)++v::((U2++B++U1)++u::(V2++C)))):=by
    have h1:=G4 e1 hi hj
    have h2:bE p1 p2 p3 i xs=(swp xs (p2+i) (p1+i)).bind fun r=>some (.inl (i+1,r)):=by
     simp only [bE,swp,Y0,Z0];rw [if_pos (by simp;omega),ak (by omega),ak (by omega),ak (by omega)]
    rw [h2,h1,Z0]
   rw [bO hst,ih V2 A (V1++[v]) B (U1++[u]) C (i+1) _ (by omega) (by simp;omega) (by simp;omega) h4 (by simp;omega) (by omega) (by simp) hb];simp
theorem Da {A U B V C xs:List aa} {p1 p2 p3:Int} (h1:V.length=U.length) (h2:p1=(A.length:Int)) (h3:p2=(A.length:Int)+U.length+B.length) (h4:p3=(U.length:Int)) (hxs:xs=A++U++B++V++C) (hb:p2+p3<4611686018427387904):
  cg xs p1 p2 p3 p=some (A++V++B++U++C):=by
 unfold cg;have:=IW p1 p2 p3 U V A [] B [] C 0 xs h1 rfl rfl h2 (by simp;omega) (by omega) (by simpa using hxs) hb;simpa using this
theorem IX (m:Int): ∀(n:Nat) (X Y A C:List aa) (i j:Int) (xs:List aa),X.length+Y.length=n→0<X.length→0<Y.length→i=(X.length:Int)→j=(Y.length:Int)→m=(A.length:Int)+X.length→
  xs=A++X++Y++C→m+j<2305843009213693952→i<2305843009213693952→
  aq (fun s:(Int×Int×List aa)=>bB m p s.1 s.2.1 s.2.2) (i,j,xs)=some (A++Y++X++C):=by
 intro n
 induction n using Xb with
 | _ n ih =>
  intro X Y A C i j xs hn hX hY hi hj hm hxs hb hb2
  by_cases hij:i=j
  ·apply a7
   simp only [bB];rw [if_neg (by simp [hij])];simp only [dX];rw [ak (by omega),Da (A:=A) (U:=X) (B:=[]) (V:=Y) (C:=C) (by omega) (by omega) (by simp;omega) hi (by simp [hxs]) (by omega)];simp
  ·by_cases hlt:j<i
   ·have hX2:X=X.take Y.length++X.drop Y.length:=(Zg _ _).symm
    have hst:bB m p i j xs=some (.inl (i - j,j,(A++Y)++X.drop Y.length++X.take Y.length++C)):=by
     simp only [bB]
     rw [if_pos (by simp [hij]),if_pos (by simp [hlt]),ak (by omega),Da (A:=A) (U:=X.take Y.length) (B:=X.drop Y.length) (V:=Y) (C:=C) (by simp;omega) (by omega) (by simp;omega) (by simp;omega)
      (by rw [hxs];simp) (by omega),Z0,ak (by omega)]
    rw [bO hst,ih (n - Y.length) (by omega) (X.drop Y.length) (X.take Y.length) (A++Y) C (i - j) j _ (by simp;omega) (by simp;omega) (by simp;omega) (by simp;omega) (by simp;omega) (by simp;omega) rfl (by omega) (by omega)];simp
   ·have hY2:Y=Y.take (Y.length - X.length)++Y.drop (Y.length - X.length):=(Zg _ _).symm
    have hst:bB m p i j xs=some (.inl (i,j - i,A++Y.drop (Y.length - X.length)++Y.take (Y.length - X.length)++(X++C))):=by
     simp only [bB]
     rw [if_pos (by simp [hij]),if_neg (by simp;omega),ak (n:=m - i) (by omega),ak (n:=m+j) (by omega),ak (n:=m+j - i) (by omega),
      Da (A:=A) (U:=X) (B:=Y.take (Y.length - X.length)) (V:=Y.drop (Y.length - X.length)) (C:=C) (by simp;omega) (by omega) (by simp;omega) (by omega)
      (by rw [hxs];simp) (by omega),Z0,ak (by omega)]
     simp
    rw [bO hst,ih (n - X.length) (by omega) (Y.drop (Y.length - X.length)) (Y.take (Y.length - X.length)) A (X++C) i (j - i) _ (by simp;omega) (by simp;omega) (by simp;omega) (by simp;omega) (by simp;omega) (by simp;omega) rfl (by omega) (by omega)];simp
theorem LV {A X Y C xs:List aa} {a m b:Int} (hX:0<X.length) (hY:0<Y.length) (ha:a=(A.length:Int)) (hm:m=a+X.length) (hb:b=m+Y.length) (hxs:xs=A++X++Y++C) (hn:b<2305843009213693952):
  cB xs a m b p=some (A++Y++X++C):=by
 unfold cB;rw [ak (by omega),ak (by omega)];exact IX m _ X Y A C _ _ xs rfl hX hY (by omega) (by omega) (by omega) hxs (by omega) (by omega)
theorem IY (e:Int) (he:e<4611686018427387904) (x:aa) (Q:List aa): ∀(Bs pre:List aa) (k:Int) (xs:List aa),k=(pre.length:Int)→e - 1=k+Bs.length→xs=pre++x::(Bs++Q)→
  aq (fun s:(Int×List aa)=>bH e s.1 s.2) (k,xs)=some (pre++Bs++x::Q):=by
 intro Bs
 induction Bs with
 |nil=>
  intro pre k xs hk h1 hxs;apply a7;simp only [bH];rw [ak (by omega),if_neg (by simp;simp at h1;omega)];simp [dL,hxs]
 | cons b Bs ih =>
  intro pre k xs hk h1 hxs;rw [Z7] at h1;have e1:xs=pre++x::([]++b::(Bs++Q)):=by rw [hxs];simp
  have hst:bH e k xs=some (.inl (k+1,pre++b::([]++x::(Bs++Q)))):=by
   have h2:=G4 e1 hk (j:=k+1) (by simp;omega)
   have h3:bH e k xs=(swp xs (k+1) k).bind fun r=>some (.inl (k+1,r)):=by
    simp only [bH,swp,Y0,Z0];rw [ak (n:=e - 1) (by omega),if_pos (by simp;omega),ak (by omega)]
   rw [h3,h2,Z0]
  rw [bO hst,ih (pre++[b]) (k+1) _ (by simp;omega) (by omega) (by simp)];simp
theorem IZ (e:Int) (y:aa) (pre:List aa) (he:e=(pre.length:Int)): ∀(n:Nat) (As Q:List aa) (k:Int) (xs:List aa),As.length=n→k=e+As.length→xs=pre++As++y::Q→k<4611686018427387904→
  aq (fun s:(Int×List aa)=>bI e s.1 s.2) (k,xs)=some (pre++y::(As++Q)):=by
 intro n
 induction n with
 |zero=>
  intro As Q k xs hn hk hxs hb;obtain rfl:=Za hn;apply a7;simp only [bI];rw [if_neg (by simp;simp at hk;omega)];simp [dM,hxs]
 | succ n ih =>
  intro As Q k xs hn hk hxs hb;obtain ⟨As',s,rfl,hn'⟩:=Au hn;rw [Z3,Z6] at hk;have e1:xs=(pre++As')++s::([]++y::Q):=by rw [hxs];simp
  have hst:bI e k xs=some (.inl (k - 1,(pre++As')++y::([]++s::Q))):=by
   have h2:=G3 e1 (i:=k - 1) (j:=k) (by simp;omega) (by simp;omega)
   have h3:bI e k xs=(swp xs (k - 1) k).bind fun r=>some (.inl (k - 1,r)):=by
    simp only [bI,swp,Y0,Z0];rw [if_pos (by simp;omega),ak (by omega)]
   rw [h3,h2,Z0]
  rw [bO hst,ih As' (s::Q) (k - 1) _ hn' (by omega) (by simp) (by omega)];simp
end
theorem Av {β:Type} {F:Int×Int→Option ((Int×Int)⊕β)} (g:Nat→Bool) (lo0 hi0:Nat) (K:Nat→Option β)
  (hgo: ∀lo hi:Nat,lo0≤lo→lo<hi→hi≤hi0→F (lo,hi)=some (.inl (if g ((lo+hi)/2) then (((lo+hi)/2+1:Nat),hi) else (lo,((lo+hi)/2:Nat)))))
  (hend: ∀s:Nat,lo0≤s→s≤hi0→F (s,s)=(K s).map Sum.inr) (h:lo0≤hi0):
  ∃s:Nat,lo0≤s∧s≤hi0∧(s=lo0∨g (s - 1)=true)∧(s=hi0∨g s=false)∧aq F ((lo0:Int),(hi0:Int))=K s:=by
 have key: ∀(n lo hi:Nat),hi - lo=n→lo0≤lo→lo≤hi→hi≤hi0→(lo=lo0∨g (lo - 1)=true)→(hi=hi0∨g hi=false)→
   ∃s:Nat,lo0≤s∧s≤hi0∧(s=lo0∨g (s - 1)=true)∧(s=hi0∨g s=false)∧aq F ((lo:Int),(hi:Int))=K s:=by
  intro n
  induction n using Xb with
  | _ n ih =>
   intro lo hi hn h1 h2 h3 h4 h5
   by_cases hlt:lo<hi
   ·have hst:=hgo lo hi h1 hlt h3
    cases hg:g ((lo+hi)/2) with
    |true=>
     rw [hg,if_pos rfl] at hst;rw [bO hst];exact ih (hi - ((lo+hi)/2+1)) (by omega) _ _ rfl (by omega) (by omega) h3 (Or.inr (by simpa using hg)) h5
    |false=>
     rw [hg,if_neg (by simp)] at hst;rw [bO hst];exact ih ((lo+hi)/2 - lo) (by omega) _ _ rfl h1 (by omega) (by omega) h4 (Or.inr hg)
   ·obtain rfl:lo=hi:=by omega
    refine ⟨lo,h1,h3,h4,h5,?_⟩;rw [o9,hend lo h1 h3];cases K lo<;>rfl
 exact key _ lo0 hi0 rfl (Zn _) h (Zn _) (Or.inl rfl) (Or.inl rfl)
theorem wz {x:Int} (h:0≤x∧x<9223372036854775808):Zb.wrap (aD .u64 (X6.wrap (Zb.wrap x)) 1)=x/2:=by
 rw [ak (n:=x) (by omega),bD,Y4 (by omega) (by omega)];have:aD .u64 x ((1:Nat):Int)=x/2^1:=pW (by decide);rw [show (1:Int)=((1:Nat):Int) from rfl,this,ak (by omega)]
 rfl
section
variable {α:Type}
theorem tT {β:Type} {xs:List α} {x:α} {i:Int} {h:Nat} {k:Nat→α→Option β} (e:xs[h]? =some x) (hi:i=(h:Int)):((ix xs i).bind fun j=>(xs[j]?).bind fun x=>k j x)=k h x:=by
 obtain ⟨hl,hx⟩:=X9.1 e;rw [hi,LT hl,Z0,e,Z0]
theorem xsA {L A B R:List α} {k:Nat} (h:k<A.length):(L++A++B++R)[L.length+k]? =A[k]? :=by
 rw [Zj,Zj,Xv (by omega),show L.length+k - L.length=k by omega,Y1 h]
theorem xsB {L A B R:List α} {k:Nat} (h:k<B.length):(L++A++B++R)[L.length+A.length+k]? =B[k]? :=by
 rw [Zj,Xv (by simp),show L.length+A.length+k - (L++A).length=k by simp,Y1 h]
theorem Bk {A:List α} {k:Nat} (h:k<A.length) {x:α} (e:A[k]? =some x): ∃A',A.take (k+1)=A'++[x]:=by
 obtain ⟨hl,hx⟩:=X9.1 e;exact ⟨A.take k,by rw [List.take_add_one,e];rfl⟩
theorem zn {A:List α} {k:Nat} {x:α} (e:A[k]? =some x): ∃A',A.drop k=x::A':=by
 obtain ⟨hl,hx⟩:=X9.1 e;exact ⟨A.drop (k+1),by rw [Zh hl,hx]⟩
theorem LW {lt:α→α→Bool} (h:Swo lt) {A1 A2 B1 B2:List α} (hA:Srt lt (A1++A2)) (hB:Srt lt (B1++B2))
  (h1:B1=[]∨A2=[]∨ ∃B' b a A',B1=B'++[b]∧A2=a::A'∧lt b a=true)
  (h2:A1=[]∨B2=[]∨ ∃A' a b B',A1=A'++[a]∧B2=b::B'∧lt b a=false):
  (∀b∈B1,∀a∈A2,lt b a=true)∧(∀a∈A1,∀b∈B2,lt b a=false):=by
 unfold Srt at hA hB;rw [Zo] at hA hB;constructor
 ·rcases h1 with rfl|rfl|⟨B',bl,af,A',rfl,rfl,hl⟩
  ·simp
  ·simp
  ·intro b hb a ha
   cases hba:lt b a with
   |true=>rfl
   | false =>
    exfalso
    have hb1:lt bl b=false:=by
     rcases Zd.1 hb with hb|hb
     ·exact (Zo.1 hB.1).2.2 b hb bl (by simp)
     ·simp at hb;subst hb;exact h.irr _
    have ha1:lt a af=false:=by
     rcases Zq.1 ha with rfl|ha
     ·exact h.irr _
     ·exact (Zk.1 hA.2.1).1 a ha
    have:=h.inc bl a af (h.inc bl b a hb1 hba) ha1;rw [hl] at this;cases this
 ·rcases h2 with rfl|rfl|⟨A',al,bf,B',rfl,rfl,hl⟩
  ·simp
  ·simp
  ·intro a ha b hb
   have hb1:lt b bf=false:=by
    rcases Zq.1 hb with rfl|hb
    ·exact h.irr _
    ·exact (Zk.1 hB.2.1).1 b hb
   have ha1:lt al a=false:=by
    rcases Zd.1 ha with ha|ha
    ·exact (Zo.1 hA.1).2.2 a ha al (by simp)
    ·simp at ha;subst ha;exact h.irr _
   exact h.inc b bf a hb1 (h.inc bf al a hl ha1)
theorem Srt.take {lt:α→α→Bool} {A:List α} (h:Srt lt A) (k:Nat):Srt lt (A.take k):=List.Pairwise.sublist (List.take_sublist k A) h
theorem Srt.drop {lt:α→α→Bool} {A:List α} (h:Srt lt A) (k:Nat):Srt lt (A.drop k):=List.Pairwise.sublist (List.drop_sublist k A) h
end
set_option linter.unusedVariables false
set_option linter.unusedSimpArgs false
section
variable {lt:aa→aa→Bool} {p:aa→aa→Option Int}
def FC (lt : aa → aa → Bool) (p : aa → aa → Option Int) (self_ : List aa → Int → Int → Int → (aa → aa → Option Int) → Option (List aa)) (N : Nat) : Prop :=
  ∀ (L A B R : List aa) (a m b : Int) (xs : List aa), 0 < A.length → 0 < B.length → a = (L.length : Int) → m = (L.length : Int) + A.length → b = (L.length : Int) + A.length + B.length → xs = L ++ A ++ B ++ R →
    A.length+B.length≤N→xs.length<1152921504606846976→Srt lt A→Srt lt B→ ∃T,self_ xs a m b p=some (L++T++R)∧Stb lt (A++B) T
def gx (lt:aa→aa→Bool) (xs:List aa) (i j:Nat):Bool:=match xs[i]?,xs[j]? with
  |some x,some y=>lt x y
  |_,_=>false
theorem zo {xs:List aa} {i j:Nat} {x y:aa} (h1:xs[i]? =some x) (h2:xs[j]? =some y):gx lt xs i j=lt x y:=by simp [gx,h1,h2]
theorem wA (h:Swo lt) {L A B R xs:List aa} (hxs:xs=L++A++B++R) (hA:Srt lt A) (hB:Srt lt B) (k1 k2:Nat) (h1:k1≤A.length) (h2:k2≤B.length)
    (c1:k2=0∨k1=A.length∨(0<k2∧k1<A.length∧gx lt xs (L.length+A.length+(k2 - 1)) (L.length+k1)=true))
    (c2:k1=0∨k2=B.length∨(0<k1∧k2<B.length∧gx lt xs (L.length+A.length+k2) (L.length+(k1 - 1))=false)):
    (∀b∈B.take k2,∀a∈A.drop k1,lt b a=true)∧(∀a∈A.take k1,∀b∈B.drop k2,lt b a=false):=by
  have hA':Srt lt (A.take k1++A.drop k1):=by rw [Zg];exact hA
  have hB':Srt lt (B.take k2++B.drop k2):=by rw [Zg];exact hB
  refine LW h hA' hB' ?_ ?_
  · rcases c1 with rfl | rfl | ⟨hk, hk1, hg⟩
    · simp
    · simp
    · right; right
      have eb:B[k2 - 1]? =some B[k2 - 1]:=Z5 (by omega);have ea:A[k1]? =some A[k1]:=Z5 hk1;obtain ⟨B',hB'⟩:=Bk (by omega) eb;obtain ⟨A',hA'⟩:=zn ea;rw [show k2 - 1+1=k2 by omega] at hB';refine ⟨B',_,_,A',hB',hA',?_⟩;rw [←hg,hxs,zo ((xsB (by omega)).trans eb) ?_];exact (xsA hk1).trans ea
  · rcases c2 with rfl | rfl | ⟨hk, hk2, hg⟩
    · simp
    · simp
    · right; right
      have ea:A[k1 - 1]? =some A[k1 - 1]:=Z5 (by omega);have eb:B[k2]? =some B[k2]:=Z5 hk2;obtain ⟨A',hA'⟩:=Bk (by omega) ea;obtain ⟨B',hB'⟩:=zn eb;rw [show k1 - 1+1=k1 by omega] at hA';refine ⟨A',_,_,B',hA',hB',?_⟩;rw [←hg,hxs,zo ((xsB hk2).trans eb) ?_];exact (xsA (by omega)).trans ea
theorem KB (h : Swo lt) (hp : Cmp lt p) {L B R xs : List aa} {x : aa} {a m b : Int} (hB0 : 0 < B.length) (ha : a = (L.length : Int)) (hm : m = (L.length : Int) + 1) (hb : b = (L.length : Int) + 1 + B.length)
    (hxs:xs=L++[x]++B++R) (hn:xs.length<1152921504606846976) (hB:Srt lt B):
    ∃T,aq (fun s:(Int×Int)=>bX xs a p s.1 s.2) (m,b)=some (L++T++R)∧Stb lt ([x]++B) T:=by
  have hlen:xs.length=L.length+1+B.length+R.length:=by rw [hxs];simp;omega
  have ex:xs[L.length]? =some x:=by rw [hxs];simp
  have hm':m=((L.length+1:Nat):Int):=by omega
  have hb':b=((L.length+1+B.length:Nat):Int):=by omega
  obtain ⟨s,h1,h2,h3,h4,h5⟩:=Av (F:=fun s:(Int×Int)=>bX xs a p s.1 s.2) (fun c=>gx lt xs c L.length) (L.length+1) (L.length+1+B.length)
    (fun s=>cT xs a (s:Int)) (fun lo hi h1 h2 h3=>by
      have hc:(lo+hi)/2<xs.length:=by omega
      have ec:xs[(lo+hi)/2]? =some xs[(lo+hi)/2]:=Z5 hc;obtain ⟨c,hc1,hc2⟩:=hp xs[(lo+hi)/2] x;simp only [bX];rw [if_pos (by simp;omega),wz (by omega),tT ec (by omega),tT ex ha,hc1,Z0,hc2,zo ec ex,ak (by omega)]
      split<;>rfl)
    (fun s h1 h2=>by
      simp only [bX]
      rw [if_neg (by simp)]) (by omega)
  obtain ⟨k,rfl⟩: ∃k,s=L.length+1+k:=⟨s - (L.length+1),by omega⟩
  have hcut := wA h (A := [x]) hxs (by simp [Srt]) hB 0 k (by simp) (by omega)
    (by rcases h3 with h3 | h3
        · left;omega
        · by_cases hk : k = 0
          · left;exact hk
          · right; right; refine ⟨by omega, by simp, ?_⟩
            rw [←h3];congr 1;simp;omega)
    (Or.inl rfl)
  have hcut2: ∀b∈B.drop k,lt b x=false:=by
    have := wA h (A := [x]) hxs (by simp [Srt]) hB 1 k (by simp) (by omega) (Or.inr (Or.inl rfl))
      (by rcases h4 with h4 | h4
          · right;left;omega
          · by_cases hk : k = B.length
            · right;left;exact hk
            · right; right; refine ⟨by omega, by omega, ?_⟩
              rw [←h4];congr 1)
    intro b hb;exact this.2 x (by simp) b hb
  refine ⟨B.take k++x::B.drop k,?_,?_⟩
  · rw [hm', hb', h5]
    unfold cT;rw [IY _ (by omega) x (B.drop k++R) (B.take k) L a xs ha (by simp;omega) (by rw [hxs, ←Zj (B.take k),Zg];simp)];simp
  · have hB' : Srt lt (B.take k ++ B.drop k) := by rw [Zg]; exact hB
    have:=Stb.cat h (A1:=[]) (A2:=[x]) (B1:=B.take k) (B2:=B.drop k) (R1:=B.take k) (R2:=x::B.drop k) (Stb.refl (hB.take k))
      (Stb.refl (by
        unfold Srt;rw [Yd,Zk]
        exact ⟨hcut2,hB.drop k⟩)) (by simp [Srt]) hB' (fun b hb a ha=>hcut.1 b hb a ha) (by simp)
    simpa using this
theorem I0 (h : Swo lt) (hp : Cmp lt p) {L A R xs : List aa} {y : aa} {a m : Int} (hA0 : 0 < A.length) (ha : a = (L.length : Int)) (hm : m = (L.length : Int) + A.length)
    (hxs:xs=L++A++[y]++R) (hn:xs.length<1152921504606846976) (hA:Srt lt A):
    ∃T,aq (fun s:(Int×Int)=>bY xs m p s.1 s.2) (a,m)=some (L++T++R)∧Stb lt (A++[y]) T:=by
  have hlen:xs.length=L.length+A.length+1+R.length:=by rw [hxs];simp;omega
  have ey:xs[L.length+A.length]? =some y:=by
    rw [hxs];simp
  have hm':m=((L.length+A.length:Nat):Int):=by omega
  obtain ⟨s,h1,h2,h3,h4,h5⟩:=Av (F:=fun s:(Int×Int)=>bY xs m p s.1 s.2) (fun c=> !gx lt xs (L.length+A.length) c) L.length (L.length+A.length)
    (fun s=>cU xs m (s:Int)) (fun lo hi h1 h2 h3=>by
      have hc:(lo+hi)/2<xs.length:=by omega
      have ec:xs[(lo+hi)/2]? =some xs[(lo+hi)/2]:=Z5 hc;obtain ⟨c,hc1,hc2⟩:=hp y xs[(lo+hi)/2];simp only [bY];rw [if_pos (by simp;omega),wz (by omega),tT ey hm',tT ec (by omega),hc1,Z0,hc2,zo ey ec,ak (by omega)]
      split<;>rfl)
    (fun s h1 h2=>by
      simp only [bY]
      rw [if_neg (by simp)]) (by omega)
  obtain ⟨k,rfl⟩: ∃k,s=L.length+k:=⟨s - L.length,by omega⟩
  have hk:k≤A.length:=by omega
  have hcut1: ∀a∈A.drop k,lt y a=true:=by
    have := wA h hxs hA (by simp [Srt] : Srt lt [y]) k 1 hk (by simp)
      (by rcases h4 with h4 | h4
          · right;left;omega
          · by_cases hk' : k = A.length
            · right;left;exact hk'
            · right; right; refine ⟨by omega, by omega, ?_⟩
              simpa using h4)
      (Or.inr (Or.inl rfl))
    intro a ha;exact this.1 y (by simp) a ha
  have hcut2: ∀a∈A.take k,lt y a=false:=by
    have := wA h hxs hA (by simp [Srt] : Srt lt [y]) k 0 hk (by simp) (Or.inl rfl)
      (by rcases h3 with h3 | h3
          · left;omega
          · by_cases hk' : k = 0
            · left;exact hk'
            · right; right; refine ⟨by omega, by simp, ?_⟩
              rw [show L.length+(k - 1)=L.length+k - 1 by omega]
              simpa using h3)
    intro a ha;exact this.2 a ha y (by simp)
  refine ⟨A.take k++y::A.drop k,?_,?_⟩
  · rw [ha, hm']
    rw [←hm', ←ha] at h5 ⊢;rw [h5];unfold cU;rw [IZ _ y (L++A.take k) (by simp;omega) _ (A.drop k) R m xs rfl (by simp;omega) (by rw [hxs];simp) (by omega)];simp
  · have hA' : Srt lt (A.take k ++ A.drop k) := by rw [Zg]; exact hA
    have:=Stb.cat h (A1:=A.take k) (A2:=A.drop k) (B1:=[y]) (B2:=[]) (R1:=A.take k++[y]) (R2:=A.drop k) (Stb.refl (by
        unfold Srt;rw [Zo];refine ⟨hA.take k,by simp,fun a ha b hb=> ?_⟩;rw [X5] at hb;subst hb
        exact hcut2 a ha)) (by simpa using Stb.refl (hA.drop k)) hA' (by simp [Srt]) (fun b hb a ha=>by
          rw [X5] at hb;subst hb
          exact hcut1 a ha) (by simp)
    simpa using this
theorem Pi {self_:List aa→Int→Int→Int→(aa→aa→Option Int)→Option (List aa)} {xs:List aa} {a m b s mid e:Int}
    (hmid:mid=(a+b)/2) (he:e=mid+m - s) (h0:0≤a) (h1:0≤m) (h2:0≤b) (h3:0≤s) (ha:a<1152921504606846976) (hb:b<1152921504606846976) (hm:m<1152921504606846976) (hs:s<1152921504606846976):
    cu xs a m b p self_ s=(if s<m∧m<e then cB xs s m e p else some xs).bind fun r=>
      (if a<s∧s<mid then self_ r a s mid p else some r).bind fun r2=>(if mid<e∧e<b then self_ r2 mid e b p else some r2):=by
  have hM:Zb.wrap (aD .u64 (X6.wrap (Zb.wrap (a+b))) 1)=mid:=by rw [wz (by omega),hmid]
  have hN:Zb.wrap (mid+m)=mid+m:=ak (by omega);have hE:Zb.wrap (mid+m - s)=e:=by rw [ak (by omega),he]
  have h11: ∀r2,cp a m b p self_ s r2=(if mid<e∧e<b then self_ r2 mid e b p else some r2):=by
    intro r2;simp only [cp,cL,hM,hN,hE]
    by_cases c1:mid<e<;>by_cases c2:e<b<;>simp [c1,c2]
  have h9: ∀r,ct a m b p self_ s r=(if a<s∧s<mid then self_ r a s mid p else some r).bind fun r2=>(if mid<e∧e<b then self_ r2 mid e b p else some r2):=by
    intro r;simp only [ct,cV,hM,h11]
    by_cases c1:a<s<;>by_cases c2:s<mid<;>simp [c1,c2]
  simp only [cu,cW,hM,hN,hE,h9]
  by_cases c1:s<m<;>by_cases c2:m<e<;>simp [c1,c2]
end
end Go.Proofs.YthbonoagbeilkaaGreat.Hay
