import Derived.Test.YthbonoagbeilkaaGreatExX
import Derived.Test.YthbonoagbeilkaaGreatHbM
namespace Go.Proofs.YthbonoagbeilkaaGreat.Hay
open Option renaming bind_some→Z0,getD_some→Xe,bind_assoc→Y0
open List renaming take_succ_eq_append_getElem→Z1,getElem_mem→Z2,length_append→Z3,take_length→Z4,getElem?_eq_getElem→Z5,length_singleton→Z6,length_cons→Z7,replicate→Z9,eq_nil_of_length_eq_zero→Za,mem_append→Zd,mem_of_mem_take→Zf,take_append_drop→Zg,drop_eq_getElem_cons→Zh,length_pos_iff→Zi,append_assoc→Zj,pairwise_cons→Zk,length_take→Zl,pairwise_append→Zo,length_map→Zp,mem_cons→Zq,getD_eq_getElem?_getD→Zu,range→Zw,flatMap_cons→Zx,foldl_cons→Zy,nil_append→Zz,mem_map→X3,mem_singleton→X5,mem_of_getLast?→X7,pairwise_iff_getElem→X8,getElem?_eq_some_iff→X9,flatMap_append→Xa,cons_append→Xc,drop_zero→Xf,drop_left→Xg,getElem?_drop→Xh,take_of_length_le→Xi,take_left'→Xj,append_nil→Xk,foldl_append→Xl,length_range→Xm,length_replicate→Xn,dropLast_concat_getLast→Xq,getElem?_append_right→Xv,getLast?_eq_none_iff→Xx,getLast?_eq_getElem?→Xy,map_append→Xz,getElem?_append_left→Y1,mem_replicate→Y3,eq_of_mem_replicate→Y5,drop_drop→Y7,flatMap_singleton→Y9,map_cons→Yc,singleton_append→Yd,getElem?_eq_none→Ye,range_succ→Yg,map_nil→Yh
open Nat renaming le_refl→Zn,lt_of_lt_of_le→Zt,mul_le_mul→Zv,strongRecOn→Xb,testBit_xor→Xd,pow_le_pow_right→Xo,eq_of_testBit_eq→Xp,two_pow_add_eq_or_of_lt→Xr,mod_two_eq_zero_or_one→Xu,testBit_succ→Y8,xor_comm→Yj
open Bool renaming false_eq_true→Z8,not_true→Xw,not_false→Y6,not_eq_true→Ya,true_and→Yb
open Int renaming eq_ofNat_of_zero_le→Zc,tmod_eq_emod_of_nonneg→Zr,tdiv_eq_ediv_of_nonneg→Zs,fdiv_eq_ediv_of_nonneg→X4,natCast_pow→Xt,toNat_natCast→Y2,emod_eq_of_lt→Y4,le_of_lt→Yi
open BitVec renaming ofInt→Ze,toNat_ofInt→Zm
open Prod renaming ext→Yk
open IntKind renaming i64→Zb,u64→X6,u32→Xs,u8→Yf
theorem Ee: ∀s:List Int,ltB s s=false
 |[]=>rfl
 |a::x=>by simp [ltB,Ee x]
theorem AY: ∀{s u v:List Int},ltB s u=true→ltB u v=true→ltB s v=true
 |_,[],_,h,_=>by simp [ltB] at h
 |_,_::_,[],_,h=>by simp [ltB] at h
 |[],_::_,_::_,_,_=>rfl
 | a :: x, b :: y, c :: z, h, k => by
  simp only [ltB,Bool.or_eq_true,decide_eq_true_eq,Bool.and_eq_true,beq_iff_eq] at*;rcases h with h|⟨rfl,h⟩
  ·rcases k with k|⟨rfl,k⟩
   ·left;omega
   ·left;exact h
  ·rcases k with k|⟨rfl,k⟩
   ·left;exact k
   ·right;exact ⟨rfl,AY h k⟩
theorem Ef: ∀{s u:List Int},ltB s u=false→ltB u s=false→s=u
 |[],[],_,_=>rfl
 |[],_::_,h,_=>by simp [ltB] at h
 |_::_,[],_,h=>by simp [ltB] at h
 |a::x,b::y,h,k=>by
  simp only [ltB,Bool.or_eq_false_iff,decide_eq_false_iff_not] at h k;have e:a=b:=by omega
  subst e;simp only [beq_self_eq_true,Yb] at h k;rw [Ef h.2 k.2]
def ltV (a b:Ap):Bool:=
 if a.fKind != b.fKind then decide (a.fKind<b.fKind) else if a.fKind==1 then !a.fBool&&b.fBool else if a.fKind==2 then decide (a.fInt<b.fInt) else
 if a.fKind==3 then ltB a.fText b.fText else false
theorem Eg (a b:Ap):pg a b=some (ltV a b):=by
 unfold pg kz oG ltV
 repeat' split
 all_goals simp_all
theorem po (a:Ap):ltV a a=false:=by
 unfold ltV
 repeat' split
 all_goals simp_all [Ee]
theorem sL {a b c:Ap} (h:ltV a b=true) (k:ltV b c=true):ltV a c=true:=by
 obtain ⟨ka,ba,na,ta⟩:=a;obtain ⟨kb,bb,nb,tb⟩:=b;obtain ⟨kc,bc,nc,tc⟩:=c;simp only [ltV] at*
 by_cases e1:ka=kb
 ·subst e1
  by_cases e2:ka=kc
  ·subst e2
   by_cases e1:ka=1
   ·subst e1;cases ba<;>cases bb<;>cases bc<;>simp_all
   by_cases e2:ka=2
   ·subst e2;simp at*;omega
   by_cases e3:ka=3
   ·subst e3;simp at*;exact AY h k
   ·have h1:(ka==1)=false:=by simpa using e1
    have h2:(ka==2)=false:=by simpa using e2
    have h3:(ka==3)=false:=by simpa using e3
    simp [h1,h2,h3] at h
  ·have:(ka != kc)=true:=by simpa using e2
   simp only [this,if_true] at*;exact k
 ·have h1:(ka != kb)=true:=by simpa using e1
  simp only [h1,if_true,decide_eq_true_eq] at h
  by_cases e2:kb=kc
  ·subst e2;simp only [h1,if_true,decide_eq_true_eq];exact h
  ·have h2:(kb != kc)=true:=by simpa using e2
   simp only [h2,if_true,decide_eq_true_eq] at k;have h3:(ka != kc)=true:=by simp;omega
   simp only [h3,if_true,decide_eq_true_eq];omega
theorem q9 {a b:Ap} (ha:Rgt a) (hb:Rgt b) (h:ltV a b=false) (k:ltV b a=false):a=b:=by
 cases ha<;>cases hb<;>simp [ltV] at h k
 ·rfl
 ·rename_i x y;cases x<;>cases y<;>simp_all
 ·have: ∀x y:Int,x=y→iA x=iA y:=fun x y h=>by rw [h]
  apply this;omega
 ·rw [Ef h k]
def j9 (a b:Ap):Int:=if ltV a b then -1 else if ltV b a then 1 else 0
theorem pp (a b:Ap):iw a b=some (j9 a b):=by
 unfold iw j9;rw [Eg,Eg,Z0,Z0];cases ltV a b<;>cases ltV b a<;>rfl
theorem eF (a b:Ap):cB a b=some (j9 a b):=by
 unfold cB ff hZ il kR jr lD ek j9 sX;simp only [bne_self_eq_false,Z0,Z8,if_false];obtain ⟨ka,ba,na,ta⟩:=a;obtain ⟨kb,bb,nb,tb⟩:=b;simp only [ltV]
 by_cases e:ka=kb
 ·subst e
  simp only [bne_self_eq_false,Z8,if_false]
  by_cases e1:ka=1
  ·subst e1;cases ba<;>cases bb<;>simp
  ·have h1:(ka==1)=false:=by simpa using e1
   simp only [h1,Z8,if_false]
   by_cases e2:ka=2
   ·subst e2;simp
    repeat' split
    all_goals rfl
   ·have h2:(ka==2)=false:=by simpa using e2
    simp only [h2,Z8,if_false]
    by_cases e3:ka=3
    ·subst e3;simp
    ·have h3:(ka==3)=false:=by simpa using e3
     simp [h3]
 ·have h1:(ka != kb)=true:=by simpa using e
  have h2:(kb != ka)=true:=by simp;omega
  simp only [h1,h2,if_true,decide_eq_true_eq]
  repeat' split
  all_goals rfl
theorem rN {a b:Ap} (h:ltV a b=true):ltV b a=false:=by
 cases k:ltV b a with
 |false=>rfl
 |true=>have:=sL h k;rw [po] at this;cases this
theorem kL (a b:Ap):j9 a b<0↔ltV a b=true:=by
 unfold j9
 repeat' split
 all_goals simp_all
theorem Eh (a b:Ap):j9 a b≤0↔ltV b a=false:=by
 unfold j9;split
 ·rename_i h;simp [rN h]
 ·split
  ·rename_i h;simp [h]
  ·rename_i h;simpa using h
theorem AZ {a b:Ap} (ha:Rgt a) (hb:Rgt b):j9 a b=0↔a=b:=by
 unfold j9;constructor
 ·intro h
  split at h
  ·cases h
  split at h
  ·cases h
  rename_i h1 h2;exact q9 ha hb (by simpa using h1) (by simpa using h2)
 ·rintro rfl;rw [po];rfl
theorem LO {l:List Ap} (h: ∀v∈l,Rgt v):HZ cB l:=by
 refine ⟨fun x _ y _=>⟨_,eF x y,?_⟩,fun x _=> ?_,fun x _ y _ z _ h1 h2=> ?_,fun x hx y hy z hz h1 h2 h3=> ?_,fun x hx y hy h1 h2=> ?_⟩
 ·rw [mG];unfold j9
  repeat' split
  all_goals decide
 ·rw [eF];simp only [Xe];rw [kL,po];decide
 ·rw [eF] at*
  simp only [Xe,kL] at*;exact sL h1 h2
 ·rw [eF] at*
  simp only [Xe,kL,Ya] at*;cases hyx:ltV y x with
  |true=>have:=sL hyx h3;rw [h2] at this;cases this
  |false=>have:=q9 (h x hx) (h y hy) h1 hyx;subst this;rw [h2] at h3;cases h3
 ·rw [eF] at*
  simp only [Xe,kL,Ya] at*;exact q9 (h x hx) (h y hy) h1 h2
abbrev Ris (l:List Ap):Prop:=l.Pairwise fun a b=>ltV a b=true
theorem Ris.one: ∀{l k:List Ap},Ris l→Ris k→(∀v,v∈l↔v∈k)→l=k
 |[],[],_,_,_=>rfl
 |[],b::k,_,_,h=>by have:=(h b).2 (by simp);cases this
 |a::l,[],_,_,h=>by have:=(h a).1 (by simp);cases this
 | a :: l, b :: k, hl, hk, h => by
  have hl':=Zk.1 hl;have hk':=Zk.1 hk
  have e:a=b:=by
   have h1:=(h a).1 (by simp);have h2:=(h b).2 (by simp);rcases Zq.1 h1 with h1|h1
   ·exact h1
   rcases Zq.1 h2 with h2|h2
   ·exact h2.symm
   have:=rN (hk'.1 a h1);rw [hl'.1 b h2] at this;cases this
  subst e;congr 1;refine Ris.one hl'.2 hk'.2 fun v=> ?_;have hv:=h v;simp only [Zq] at hv;constructor
  ·intro hm
   rcases hv.1 (.inr hm) with e|e
   ·subst e;have:=hl'.1 v hm;rw [po] at this;cases this
   ·exact e
  ·intro hm
   rcases hv.2 (.inr hm) with e|e
   ·subst e;have:=hk'.1 v hm;rw [po] at this;cases this
   ·exact e
theorem Ris.nodup {l:List Ap} (h:Ris l):l.Nodup:=h.imp fun {a b} h e=>by subst e;rw [po] at h;cases h
def ins (v:Ap):List Ap→List Ap
 |[]=>[v]
 |x::r=>if ltV x v then x::ins v r else if v=x then x::r else v::x::r
theorem zU (v:Ap): ∀(l:List Ap) (x:Ap),x∈ins v l↔x=v∨x∈l
 |[],x=>by simp [ins]
 | y :: r, x => by
  simp only [ins];split
  ·simp only [Zq,zU v r x]
   constructor<;>(intro h;rcases h with h|h|h<;>simp [h])
  split
  ·rename_i e;subst e;simp
  ·simp
theorem Ei (v:Ap) (hv:Rgt v): ∀{l:List Ap},(∀x∈l,Rgt x)→Ris l→Ris (ins v l)
 |[],_,_=>by simp [ins]
 | y :: r, hr, h => by
  have h':=Zk.1 h;simp only [ins];split
  ·rename_i hlt
   refine Zk.2 ⟨fun x hx=> ?_,Ei v hv (fun x hx=>hr x (by simp [hx])) h'.2⟩;rcases (zU v r x).1 hx with e|e
   ·subst e;exact hlt
   ·exact h'.1 x e
  split
  ·exact h
  ·rename_i h1 h2
   have hvy:ltV v y=true:=by
    cases h3:ltV v y with
    |true=>rfl
    |false=>exact absurd (q9 hv (hr y (by simp)) h3 (by simpa using h1)) h2
   refine Zk.2 ⟨fun x hx=> ?_,h⟩;rcases Zq.1 hx with e|e
   ·subst e;exact hvy
   ·exact sL hvy (h'.1 x e)
def aL (l:List Ap):List Ap:=l.foldl (fun out v=>ins v out) []
theorem Fj (l:List Ap) (v:Ap):aL (l++[v])=ins v (aL l):=by simp [aL]
theorem y3 {l:List Ap} {i:Nat} (h:i<l.length):aL (l.take (i+1))=ins l[i] (aL (l.take i)):=by
 rw [Z1 h,Fj]
theorem fa {l:List Ap} (h: ∀v∈l,Rgt v):Ris (aL l)∧(∀v,v∈aL l↔v∈l)∧(aL l).length≤l.length:=by
 have key : ∀ i, i ≤ l.length → Ris (aL (l.take i)) ∧ (∀ v, v ∈ aL (l.take i) ↔ v ∈ l.take i) ∧ (aL (l.take i)).length ≤ i := by
  intro i
  induction i with
  |zero=>intro _;simp [aL]
  | succ i ih =>
   intro hi;obtain ⟨h1,h2,h3⟩:=ih (by omega);have hlt:i<l.length:=by omega
   rw [y3 hlt];have hr: ∀x∈aL (l.take i),Rgt x:=fun x hx=>h x (Zf ((h2 x).1 hx));refine ⟨Ei _ (h _ (Z2 hlt)) hr h1,fun v=> ?_,?_⟩
   ·rw [zU,h2,Z1 hlt,Zd,X5]
    exact or_comm
   ·have: ∀(v:Ap) (l:List Ap),(ins v l).length≤l.length+1:=by
     intro v l
     induction l with
     |nil=>simp [ins]
     |cons y r ih=>
      simp only [ins]
      repeat' split
      all_goals simp
      omega
    have:=this l[i] (aL (l.take i));omega
 have:=key l.length (Zn _);rwa [Z4] at this
def pq (v:Ap) (s:List Ap×Bool) (x:Ap):List Ap×Bool:=
 if !s.2&&decide (j9 v x≤0) then (if j9 v x=0 then (s.1++[v],true) else (s.1++[v]++[x],true)) else (s.1++[x],s.2)
theorem we (v:Ap): ∀(l a:List Ap),l.foldl (pq v) (a,true)=(a++l,true)
 |[],a=>by simp
 |x::r,a=>by simp [pq,we v r]
theorem Ej (v:Ap) (hv:Rgt v): ∀(l a:List Ap),(∀x∈l,Rgt x)→(if (l.foldl (pq v) (a,false)).2 then (l.foldl (pq v) (a,false)).1 else (l.foldl (pq v) (a,false)).1++[v])=a++ins v l
 |[],a,_=>by simp [ins]
 | x :: r, a, h => by
  simp only [Zy,pq,ins];cases hx:ltV x v with
  |true=>
   have: ¬ j9 v x≤0:=by rw [Eh,hx];decide
   simp only [this,decide_false,Bool.and_false,Z8,if_false,if_true];rw [Ej v hv r (a++[x]) (fun y hy=>h y (by simp [hy]))];simp
  | false =>
   have h1:j9 v x≤0:=(Eh v x).2 hx
   by_cases e:j9 v x=0
   ·have e2:=(AZ hv (h x (by simp))).1 e
    subst e2;simp [e,we]
   ·have e2:v≠x:=fun e2=>e ((AZ hv (h x (by simp))).2 e2)
    simp [h1,e,e2,we]
theorem pu (v:Ap): ∀(l a:List Ap) (d:Bool),(l.foldl (pq v) (a,d)).1.length≤a.length+l.length+(if d then 0 else 1)
 |[],a,d=>by simp
 | x :: r, a, d => by
  simp only [Zy,pq];cases d
  ·simp only [Y6,Yb]
   split
   ·split
    ·have:=pu v r (a++[v]) true;simp at this ⊢;omega
    ·have:=pu v r (a++[v]++[x]) true;simp at this ⊢;omega
   ·have:=pu v r (a++[x]) false;simp at this ⊢;omega
  ·have:=pu v r (a++[x]) true
   simp at this ⊢;omega
theorem iB {α β:Type} {f:β→α→β} {b:β} {l:List α} {i:Nat} (h:i<l.length):(l.take (i+1)).foldl f b=f ((l.take i).foldl f b) l[i]:=by
 rw [Z1 h,Xl];rfl
theorem CT {l:List Ap} (h: ∀v∈l,Rgt v) (hl:l.length<1048576):uu l=some (aL l):=by
 unfold uu;refine aU (fun i=>(aL (l.take i),(i:Int))) l.length (by simp [aL]) (fun i hi=> ?_) ?_
 ·dsimp only
  unfold th;obtain ⟨h1,h2,h3⟩:=fa (l:=l.take i) fun v hv=>h v (Zf hv);have h3':(aL (l.take i)).length≤i:=by simp at h3;omega
  have hr: ∀x∈aL (l.take i),Rgt x:=fun x hx=>h x (Zf ((h2 x).1 hx));have hv:=h l[i] (Z2 hi);rw [if_pos (by simpa using hi)];generalize hw:aL (l.take i)=W at*;have hfin:=Ej l[i] hv W [] hr;refine aU (fun k=>(((W.take k).foldl (pq l[i]) ([],false)).1,((W.take k).foldl (pq l[i]) ([],false)).2,(k:Int))) W.length (by simp) (fun k hk=> ?_) ?_
  ·dsimp only
   have hlen:=pu l[i] (W.take k) [] false;simp only [List.length_nil,Zl,Z8,if_false] at hlen;unfold tg tf te td;rw [if_pos (by simpa using hk),ay hi,Z0,ay hk,Z0,pp,Z0,aT (by omega),iB hk];generalize hs:(W.take k).foldl (pq l[i]) ([],false)=s at*;obtain ⟨s1,s2⟩:=s;simp only [pq] at*;cases s2
   ·simp only [Y6,if_true,Yb,Z0]
    by_cases e:j9 l[i] W[k]≤0
    ·simp only [e,decide_true,if_true]
     rw [aF (by simp;omega),Z0]
     by_cases e0:j9 l[i] W[k]=0
     ·rw [if_pos (by simpa using e0),if_pos e0]
     ·rw [if_neg (by simpa using e0),if_neg e0,aF (by simp;omega),Z0]
    ·simp only [e,decide_false,Z8,if_false]
     rw [aF (by simp;omega),Z0]
   ·simp only [Xw,Z8,if_false,Bool.false_and,Z0]
    rw [aF (by simp;omega),Z0]
  ·dsimp only
   have hlen:=pu l[i] W [] false;simp only [List.length_nil,Z8,if_false] at hlen;unfold tg xB s9 xA;rw [if_neg (by simp),Z4,aT (by omega),y3 hi,hw];rw [show ([]:List Ap)++ins l[i] W=ins l[i] W from rfl] at hfin;rw [←hfin];cases hd:(W.foldl (pq l[i]) ([],false)).2
   ·simp only [Y6,if_true,Z8,if_false]
    rw [ay hi,Z0,aF (by simp;omega)];rfl
   ·simp
 ·dsimp only
  unfold th xz;rw [if_neg (by simp),Z4];rfl
def dd (s:List Ap):List Ap:=s.foldl (fun out v=>if out.getLast?=some v then out else out++[v]) []
theorem zV (s:List Ap) (v:Ap):dd (s++[v])=if (dd s).getLast?=some v then dd s else dd s++[v]:=by
 unfold dd;rw [Xl];rfl
theorem Ek (s:List Ap) {i:Nat} (h:i<s.length):(dd (s.take (i+1))).getLast?=some s[i]:=by
 rw [Z1 h,zV];split
 ·assumption
 ·simp
theorem zW (s:List Ap) {i:Nat} (h:i+1<s.length):dd (s.take (i+2))=if s[i+1]=s[i] then dd (s.take (i+1)) else dd (s.take (i+1))++[s[i+1]]:=by
 rw [Z1 h,zV,Ek s (by omega)]
 by_cases e:s[i+1]=s[i]
 ·rw [if_pos e,if_pos (by rw [e])]
 ·rw [if_neg e,if_neg (fun h=>e (Option.some.inj h).symm)]
theorem LP (s:List Ap) (h:0<s.length):dd (s.take 1)=s.take 1:=by
 match s,h with
 |a::r,_=>rfl
theorem Ks {s : List Ap} (hr : ∀ x ∈ s, Rgt x) (h : s.Pairwise fun x y => ltV y x = false) : Ris (dd s) ∧ (∀ v, v ∈ dd s ↔ v ∈ s) := by
 have key : ∀ i, i ≤ s.length → Ris (dd (s.take i)) ∧ (∀ v, v ∈ dd (s.take i) ↔ v ∈ s.take i) := by
  intro i
  induction i with
  |zero=>intro _;simp [dd]
  | succ i ih =>
   intro hi;obtain ⟨h1,h2⟩:=ih (by omega);have hlt:i<s.length:=by omega
   rw [Z1 hlt,zV];split
   ·rename_i e
    refine ⟨h1,fun v=> ?_⟩;rw [h2,Zd,X5];constructor
    ·exact .inl
    ·rintro (hm|rfl)
     ·exact hm
     ·exact (h2 _).1 (X7 e)
   ·rename_i e
    refine ⟨Zo.2 ⟨h1,by simp,fun a ha b hb=> ?_⟩,fun v=>by rw [Zd,Zd,h2]⟩;have hb':b=s[i]:=by simpa using hb
    subst hb';have ha':=(h2 a).1 ha
    -- a is ahead of s[i] in s
    obtain ⟨j,hj,rfl⟩:=List.getElem_of_mem ha';simp only [Zl] at hj;have hge:ltV s[i] s[j]=false:=X8.1 h j i (by omega) hlt (by omega);rw [List.getElem_take] at ha ⊢;cases hlt2:ltV s[j] s[i] with
    |true=>rfl
    | false =>
     have e2:=q9 (hr _ (Z2 (by omega))) (hr _ (Z2 hlt)) hlt2 hge;exfalso;apply e;have hi0:0<i:=by omega
     obtain ⟨i',rfl⟩: ∃i',i=i'+1:=⟨i - 1,by omega⟩
     rw [Ek s (by omega)]
     -- s[j] <= s[i'] <= s[i' + 1] = s[j]
     congr 1;apply q9 (hr _ (Z2 (by omega))) (hr _ (Z2 hlt))
     ·cases h3:ltV s[i'] s[i'+1] with
      |false=>rfl
      | true =>
       rw [←e2] at h3
       by_cases e3:j=i'
       ·subst e3;rw [po] at h3;cases h3
       ·have:=X8.1 h j i' (by omega) (by omega) (by omega)
        rw [this] at h3;cases h3
     ·exact X8.1 h i' (i'+1) (by omega) hlt (by omega)
 have:=key s.length (Zn _);rwa [Z4] at this
theorem Fk (s:List Ap) (hs:s.length<1048576):dZ s=some (dd s):=by
 unfold dZ
 by_cases h2:s.length<2
 ·rw [if_pos (by simpa using by omega)]
  match s,h2 with
  |[],_=>rfl
  |[a],_=>rfl
 rw [if_neg (by simpa using by omega)];refine n8 (I:=fun s':Int=> ∃i:Nat,s'=((i+1:Nat):Int)∧i+1≤s.length∧dd (s.take (i+1))=s.take (i+1)) (μ:=fun x=>s.length - x.toNat) ?_ ⟨0,rfl,by omega,LP s (by omega)⟩;rintro _ ⟨i,rfl,hi,hd⟩;unfold fF
 by_cases hlt:i+1<s.length
 ·have e1 : Zb.wrap (((i + 1 : Nat) : Int) - 1) = (i : Int) := by rw [ak (by omega)]; omega
  rw [if_pos (by simpa using by omega),nJ hlt,Z0,Z5 hlt,Z0,e1,nJ (by omega),Z0,Z5 (by omega),Z0]
  by_cases e:s[i+1]=s[i]
  ·right
   rw [if_pos (by simpa using e)]
   have hv:vw s ((i+1:Nat):Int) (s.length:Int)=some (i+1,s.length - (i+1)):=by
    unfold vw;rw [if_pos (by omega)];simp only [Y2]
   rw [hv,Z0];refine n8 (I:=fun t:Int×Int×List Ap=> ∃p k2:Nat,p=i+1+k2∧1≤k2∧p≤s.length∧t.1=((dd (s.take p)).length:Int)∧t.2.1=(k2:Int)∧t.2.2.length=s.length∧(dd (s.take p)).length+1≤p∧t.2.2.take (dd (s.take p)).length=dd (s.take p)∧t.2.2.drop (p - 1)=s.drop (p - 1)) (μ:=fun t=>s.length - t.2.1.toNat) ?_ ?_
   ·rintro ⟨t1,t2,xs⟩ ⟨p,k2,hp,hk2,hps,rfl,rfl,hxl,hdl,htk,hdr⟩
    unfold fE;have hm:Nat.ble (s.length - (i+1)) cL=true:=Nat.ble_eq_true_of_le (by unfold cL;omega);dsimp only at*;rw [rJ hm,Z0]
    by_cases hlt2:p<s.length
    ·left
     have hx1:xs[p]? =some s[p]:=by
      have:(xs.drop (p - 1))[1]? =(s.drop (p - 1))[1]? :=by rw [hdr]
      rw [Xh,Xh] at this;have e:p - 1+1=p:=by omega
      rw [e] at this;rw [this,Z5 hlt2]
     have hx0:xs[p - 1]? =some s[p - 1]:=by
      have:(xs.drop (p - 1))[0]? =(s.drop (p - 1))[0]? :=by rw [hdr]
      rw [Xh,Xh] at this;rw [Nat.add_zero] at this;rw [this,Z5 (by omega)]
     have e2:ixv (i+1) (s.length - (i+1)) (k2:Int)=some p:=by unfold ixv;rw [if_pos (by omega)];simp;omega
     have e3:ixv (i+1) (s.length - (i+1)) (Zb.wrap ((k2:Int) - 1))=some (p - 1):=by
      rw [ak (by omega)];unfold ixv;rw [if_pos (by omega)];simp;omega
     have hst:=zW s (i:=p - 1) (by omega);have e4:p - 1+1=p:=by omega
     have e5:p - 1+2=p+1:=by omega
     simp only [e4,e5] at hst;rw [if_pos (by simpa using by omega),e2,Z0,hx1,Z0,e3,Z0,hx0,Z0]
     by_cases e6:s[p]=s[p - 1]
     ·rw [if_pos e6] at hst
      rw [if_neg (by simpa using e6)];unfold dy;refine ⟨_,rfl,⟨p+1,k2+1,by omega,by omega,by omega,by rw [hst],?_,hxl,by rw [hst];omega,by rw [hst];exact htk,?_⟩,?_⟩
      ·exact aT (by omega)
      ·have:p+1 - 1=p - 1+1:=by omega
       rw [this, ←Y7, ←Y7,hdr]
      ·dsimp only;rw [aT (by omega)];simp;omega
     ·rw [if_neg e6] at hst
      rw [if_pos (by simpa using e6)];have hkl:(dd (s.take p)).length<xs.length:=by omega
      rw [Z0,hx1,Z0,nJ hkl,Z0,Z5 hkl,Z0];unfold dy;refine ⟨_,rfl,⟨p+1,k2+1,by omega,by omega,by omega,?_,aT (by omega),by simp [hxl],by rw [hst];simp;omega,?_,?_⟩,?_⟩
      ·rw [hst,aT (by omega)];simp
      ·rw [hst]
       simp only [Z3,Z6];rw [Z1 (by simp;omega)];rw [List.take_set_of_le (Zn _),htk];simp
      ·rw [List.drop_set_of_lt (by omega)]
       have:p+1 - 1=p - 1+1:=by omega
       rw [this, ←Y7, ←Y7,hdr]
      ·dsimp only;rw [aT (by omega)];simp;omega
    ·right
     have hps':p=s.length:=by omega
     subst hps';rw [if_neg (by simpa using by omega)];unfold fD;rw [Z4] at*
     have hv2:vw xs ((dd s).length:Int) (xs.length:Int)=some ((dd s).length,xs.length - (dd s).length):=by
      unfold vw;rw [if_pos (by omega)];simp only [Y2]
     rw [hv2,Z0];unfold clr;rw [if_pos (by dsimp only;omega),Z0]
     have hsp:(spl xs (dd s).length (Z9 (xs.length - (dd s).length) Ap.zero)).length=xs.length:=by
      unfold spl;simp;omega
     have:=ef (xs:=spl xs (dd s).length (Z9 (xs.length - (dd s).length) Ap.zero)) (lo:=0) (hi:=(dd s).length) (by omega) (by omega);rw [show ((0:Nat):Int)=0 from rfl] at this;rw [this]
     have e7:(spl xs (dd s).length (Z9 (xs.length - (dd s).length) Ap.zero)).take (dd s).length=dd s:=by
      unfold spl;rw [Zj,Xj (by simp;omega)];exact htk
     rw [Xf,e7];rfl
   ·have hst:=zW s (i:=i) (by omega)
    rw [if_pos e,hd] at hst;refine ⟨i+2,1,by omega,by omega,by omega,?_,rfl,rfl,?_,?_,rfl⟩
    ·rw [hst];simp;omega
    ·rw [hst];simp;omega
    ·rw [hst];simp
  ·left
   rw [if_neg (by simpa using e)];unfold fC;refine ⟨_,rfl,⟨i+1,aT (by omega),by omega,?_⟩,?_⟩
   ·rw [zW s (i:=i) (by omega),if_neg e,hd]
    exact (Z1 hlt).symm
   ·rw [aT (by omega)];simp;omega
 ·right
  have:i+1=s.length:=by omega
  rw [if_neg (by simpa using by omega)];rw [this,Z4] at hd;unfold fA;rw [hd];rfl
theorem y4 {l:List Ap} (h: ∀v∈l,Rgt v) (hl:l.length<1048576): ∃r,jV l cB=some r∧dZ r=some (aL l):=by
 obtain ⟨r,hr⟩: ∃r,wX cB l=some r:=by
  unfold wX;rw [if_pos (LO h)];exact ⟨_,rfl⟩
 obtain ⟨_,hp,hs⟩:=yE hr;refine ⟨r,hr,?_⟩;rw [Fk r (by rw [hp.length_eq];exact hl)];congr 1;have hr': ∀x∈r,Rgt x:=fun x hx=>h x (hp.mem_iff.1 hx)
 have hs':r.Pairwise fun x y=>ltV y x=false:=hs.imp fun {x y} h=>by
  rw [eF] at h;simp only [Xe,kL,Ya] at h;exact h
 obtain ⟨h1,h2⟩:=Ks hr' hs';obtain ⟨h3,h4,_⟩:=fa h;exact Ris.one h1 h3 fun v=>by rw [h2,h4,hp.mem_iff]
theorem GH {α β σ:Type} {f:σ→Option (σ⊕β)} {s:σ} (S:Nat→σ) (xs:List α) (p:α→Bool) (b0 b1:β) (h0:s=S 0) (step: ∀(i:Nat) (h:i<xs.length),p xs[i]=true→f (S i)=some (.inl (S (i+1))))
  (out: ∀(i:Nat) (h:i<xs.length),p xs[i]=false→f (S i)=some (.inr b0)) (fin:f (S xs.length)=some (.inr b1)):aq f s=some (if xs.all p then b1 else b0):=by
 have key: ∀k i:Nat,i+k=xs.length→aq f (S i)=some (if (xs.drop i).all p then b1 else b0):=by
  intro k
  induction k with
  |zero=>
   intro i hi;have:i=xs.length:=by omega
   subst this;rw [aY fin];simp
  |succ k ih=>
   intro i hi;have hlt:i<xs.length:=by omega
   rw [Zh hlt,List.all_cons];cases hp:p xs[i] with
   |true=>rw [bK (step i hlt hp),ih (i+1) (by omega)];simp
   |false=>rw [aY (out i hlt hp)];simp
 have:=key xs.length 0 (by omega);rw [h0];simpa using this
def wg (out:List aS) (v:Ap):List aS:=
 match out.getLast? with
 |some r=>if r.fValue=v then out.dropLast++[⟨r.fMany+1,v⟩] else out++[⟨1,v⟩]
 |none=>[⟨1,v⟩]
def bS (l:List Ap):List aS:=l.foldl wg []
def gt (l:List aS):List Ap:=l.flatMap fun r=>Z9 r.fMany.toNat r.fValue
theorem qP {l:List Ap} {i:Nat} (h:i<l.length):bS (l.take (i+1))=wg (bS (l.take i)) l[i]:=iB h
theorem GI (out:List aS) (v:Ap): ∃n,(wg out v).getLast?=some ⟨n,v⟩:=by
 unfold wg;split
 ·rename_i r _
  split
  ·exact ⟨r.fMany+1,by simp⟩
  ·exact ⟨1,by simp⟩
 ·exact ⟨1,by simp⟩
theorem qr {α:Type} {l:List α} {a:α} (h:l.getLast?=some a):l=l.dropLast++[a]:=by
 cases l with
 |nil=>cases h
 |cons x r=>
  have h1:(x::r).getLast (by simp)=a:=by rw [List.getLast?_eq_some_getLast (by simp)] at h;exact Option.some.inj h
  rw [←h1,Xq]
theorem wh (l:List Ap) {i:Nat} (hi:i≤l.length):(∀r∈bS (l.take i),1≤r.fMany∧r.fMany≤i∧r.fValue∈l)∧(bS (l.take i)).length≤i∧gt (bS (l.take i))=l.take i:=by
 induction i with
 |zero=>simp [bS,gt]
 | succ i ih =>
  obtain ⟨h1,h2,h3⟩:=ih (by omega);have hlt:i<l.length:=by omega
  rw [qP hlt,Z1 hlt];generalize hw:bS (l.take i)=W at*;unfold wg;have hm:=Z2 hlt;split
  ·rename_i r hr
   split
   ·rename_i e
    have hsp:=qr hr;have hrm:r∈W:=X7 hr;obtain ⟨g1,g2,g3⟩:=h1 r hrm;refine ⟨fun x hx=> ?_,?_,?_⟩
    ·rcases Zd.1 hx with hx|hx
     ·have:=h1 x (by rw [hsp];exact List.mem_append_left _ hx);exact ⟨this.1,by omega,this.2.2⟩
     ·have:x=⟨r.fMany+1,l[i]⟩:=by simpa using hx
      subst this;exact ⟨by simp;omega,by simp;omega,hm⟩
    ·have:W.length=W.dropLast.length+1:=by rw [hsp];simp
     simp;omega
    ·rw [←h3]
     have e1:gt W=gt W.dropLast++Z9 r.fMany.toNat r.fValue:=by
      conv=>lhs;rw [hsp]
      simp [gt]
     rw [e1];have e2:(r.fMany+1).toNat=r.fMany.toNat+1:=by omega
     simp [gt,e2,List.replicate_succ',e]
   ·refine ⟨fun x hx=> ?_,by simp;omega,?_⟩
    ·rcases Zd.1 hx with hx|hx
     ·have:=h1 x hx;exact ⟨this.1,by omega,this.2.2⟩
     ·have:x=⟨1,l[i]⟩:=by simpa using hx
      subst this;exact ⟨by simp,by simp;omega,hm⟩
    ·rw [←h3];simp [gt]
  ·rename_i hr
   have:W=[]:=Xx.1 hr;subst this;refine ⟨fun x hx=> ?_,by simp,?_⟩
   ·have:x=⟨1,l[i]⟩:=by simpa using hx
    subst this;exact ⟨by simp,by simp;omega,hm⟩
   ·rw [←h3];simp [gt]
theorem II {α:Type} (l:List α) (a:α) (n:Nat) (h:l.length=n+1):l.set n a=l.dropLast++[a]:=by
 apply List.ext_getElem
 ·simp;omega
 intro j h1 h2;rw [List.getElem_set];split
 ·rename_i e;subst e
  rw [List.getElem_append_right (by simp;omega)];simp
 ·simp at h1
  rw [List.getElem_append_left (by simp;omega),List.getElem_dropLast]
theorem Kt (l:List Ap) (hl:l.length≤1048576):lg l=some (bS l):=by
 unfold lg;refine aU (fun i=>((i:Int),bS (l.take i))) l.length (by simp [bS]) (fun i hi=> ?_) ?_
 ·dsimp only
  obtain ⟨h1,h2,_⟩:=wh l (i:=i) (by omega);rw [qP hi];generalize bS (l.take i)=W at*;unfold jU;rw [if_pos (by simpa using hi),ay hi,Z0]
  have app1:eI (i:Int) W l[i] (W.length:Int)=some (.inr (.inl ((((i+1:Nat):Int)),W++[⟨1,l[i]⟩]))):=by
   unfold eI l6 iF;rw [if_neg (by simp),aF (by simp;omega),Z0,aT (by omega)];rfl
  have stepk: ∀k,k+1<W.length→eI (i:Int) W l[i] (k:Int)=some (.inl ((k+1:Nat):Int)):=by
   intro k hk;unfold eI gv;rw [if_pos (by simpa using by omega),if_neg (by rw [ak (by omega)];simp;omega),if_neg (by decide),aT (by omega)]
  unfold wg;cases hg:W.getLast? with
  |none=>
   have:W=[]:=Xx.1 hg;subst this;exact aY app1
  | some r =>
   dsimp only;have hsp:=qr hg
   obtain ⟨n,hn⟩: ∃n,W.length=n+1:=⟨W.length - 1,by
    have:W.length=W.dropLast.length+1:=by rw [hsp];simp
    omega⟩
   have hgn:W[n]? =some r:=by
    rw [Xy,hn] at hg;exact hg
   have hrm:=h1 r (X7 hg)
   by_cases e:r.fValue=l[i]
   ·rw [if_pos e]
    refine aU (fun k=>(k:Int)) n rfl (fun k hk=>stepk k (by omega)) ?_;unfold eI gv iF;rw [if_pos (by simpa using by omega),if_pos (by rw [ak (by omega)];simp;omega),nJ (by omega),Z0,hgn,Z0,if_pos (by simpa using e),Z0,hgn,Z0,Z0,hgn,Z0,aT (by omega),II _ _ _ hn,ak (by omega),e]
    rfl
   ·rw [if_neg e]
    refine aU (fun k=>(k:Int)) W.length rfl (fun k hk=> ?_) app1
    by_cases hk1:k+1<W.length
    ·exact stepk k hk1
    ·have:k=n:=by omega
     subst this;unfold eI gv;rw [if_pos (by simpa using by omega),if_pos (by rw [ak (by omega)];simp;omega),nJ (by omega),Z0,hgn,Z0,if_neg (by simpa using e),aT (by omega)]
 ·dsimp only
  unfold jU l5;rw [if_neg (by simp),Z4];rfl
def lG (r:aS):dT:=⟨r.fMany,r.fValue⟩
theorem DI (l:List Ap) (hl:l.length≤1048576):q8 l=some ((bS l).map lG):=by
 unfold q8;refine aU (fun i=>((bS (l.take i)).map lG,(i:Int))) l.length (by simp [bS]) (fun i hi=> ?_) ?_
 ·dsimp only
  obtain ⟨h1,h2,_⟩:=wh l (i:=i) (by omega);rw [qP hi];unfold oF
  have hnew:ky l ((bS (l.take i)).map lG) (i:Int) false=some (.inl ((bS (l.take i)++[(⟨1,l[i]⟩:aS)]).map lG,((i+1:Nat):Int))):=by
   unfold ky mc;rw [if_neg (by decide),ay hi,Z0,aF (by simp;omega),Z0,aT (by omega)];simp [lG]
  rw [if_pos (by simpa using hi)];rcases Nat.eq_zero_or_pos i with h0|h0
  ·subst h0
   rw [if_neg (by decide),hnew];simp [bS,wg]
  ·obtain ⟨j,rfl⟩: ∃j,i=j+1:=⟨i - 1,by omega⟩
   have e1:Zb.wrap (((j+1:Nat):Int) - 1)=(j:Int):=by rw [ak (by omega)];omega
   rw [if_pos (decide_eq_true (by omega)),ay hi,Z0,e1,ay (by omega),Z0];obtain ⟨n,hlast⟩: ∃n,(bS (l.take (j+1))).getLast?=some ⟨n,l[j]⟩:=by rw [qP (by omega)];exact GI _ _
   generalize hw:bS (l.take (j+1))=W at*;unfold wg;rw [hlast];dsimp only
   by_cases e:l[j+1]=l[j]
   ·rw [if_pos e.symm]
    unfold ky mc;have hsp:=qr hlast
    obtain ⟨k,hk⟩: ∃k,W.length=k+1:=⟨W.length - 1,by
     have:W.length=W.dropLast.length+1:=by rw [hsp];simp
     omega⟩
    have hrm:=h1 _ (X7 hlast)
    have hgk:(W.map lG)[k]? =some ⟨n,l[j]⟩:=by
     rw [Xy,hk] at hlast;rw [List.getElem?_map];have:W[k]? =some ⟨n,l[j]⟩:=hlast;rw [this];rfl
    have e2:Zb.wrap (((W.map lG).length:Int) - 1)=(k:Int):=by rw [ak (by simp;omega)];simp;omega
    have hkl:k<(W.map lG).length:=by simp;omega
    have e3:(W.map lG)[k]=⟨n,l[j]⟩:=by
     rw [Z5 hkl] at hgk;exact Option.some.inj hgk
    have e4:=ef (xs:=W.map lG) (lo:=0) (hi:=k) (by omega) (by omega);rw [show ((0:Nat):Int)=0 from rfl] at e4;rw [if_pos (by simpa using e),e2,ay hkl,Z0,e3,e4,Z0,aF (by simp;omega),Z0,aF (by simp;omega),Z0,aT (by omega)];simp only at hrm;rw [ak (by simp;omega)];simp only [Zz,Xf,Xz,Yc,Yh,lG,List.map_dropLast];rw [List.dropLast_eq_take,Zp,hk,e]
    rfl
   ·rw [if_neg (fun h=>e h.symm)]
    have:decide (l[j+1]=l[j])=false:=by simpa using e
    rw [this,hnew]
 ·dsimp only
  unfold oF qD;rw [if_neg (by simp),Z4];rfl
def xe (l:List Ap):List Int:=(bS l).flatMap fun r=>r.fMany::bp r.fValue
theorem n9 {α:Type} (l:List α) (f:α→List Int) (k:Nat) (h: ∀x∈l,(f x).length≤k):(l.flatMap f).length≤k*l.length:=by
 induction l with
 |nil=>simp
 |cons v r ih=>
  have:=h v (by simp);have:=ih fun x hx=>h x (by simp [hx]);rw [Zx,Z3,Z7,Nat.mul_add];omega
theorem oa {l:List Ap}:(∀r∈bS l,1≤r.fMany∧r.fMany≤l.length∧r.fValue∈l)∧(bS l).length≤l.length∧gt (bS l)=l:=by
 have:=wh l (Zn _);rwa [Z4] at this
theorem zX {l:List Ap} (h: ∀v∈l,Rgt v) (hl:l.length≤64):mK l=some (xe l):=by
 obtain ⟨h1,h2,_⟩:=oa (l:=l);unfold mK;rw [Kt l (by omega),Z0];refine aU (fun i=>(((bS l).take i).flatMap fun r=>r.fMany::bp r.fValue,(i:Int))) (bS l).length (by simp) (fun i hi=> ?_) ?_
 ·dsimp only
  have hm:=h1 _ (Z2 hi);have hr:=h _ hm.2.2
  have hb:=n9 ((bS l).take i) (fun r=>r.fMany::bp r.fValue) 67 fun x hx=>by
   have:=(d5 (h _ (h1 x (Zf hx)).2.2)).2;simp;omega
  have hb':=(d5 hr).2;simp only [Zl] at hb;unfold pc;rw [if_pos (by simpa using hi),ay hi,Z0,bh,aF (by simp only [Z6];omega),Z0,qq hr,Z0,aF (by simp only [Z3,Z6];omega),Z0,aT (by omega),lU hi];have:(bS l)[i].fMany%256=(bS l)[i].fMany:=by omega
  rw [this];simp
 ·dsimp only
  unfold pc tS;rw [if_neg (by simp),Z4];rfl
def zig (d:Int):Nat:=if d<0 then (-2*d - 1).toNat else (2*d).toNat
def fc (z:Nat):List Int:=if h:z<128 then [(z:Int)] else ((z%128+128:Nat):Int)::fc (z/128)
termination_by z
theorem pw {z:Nat} (h:z<128):fc z=[(z:Int)]:=by rw [fc,dif_pos h]
theorem rO {z:Nat} (h: ¬ z<128):fc z=((z%128+128:Nat):Int)::fc (z/128):=by rw [fc,dif_neg h]
theorem A0: ∀(k z:Nat),z<128^(k+1)→(fc z).length≤k+1
 |0,z,h=>by rw [pw (by simpa using h)];simp
 | k + 1, z, h => by
  by_cases hz:z<128
  ·rw [pw hz];simp
  ·rw [rO hz]
   have:z/128<128^(k+1):=by rw [Nat.div_lt_iff_lt_mul (by decide)];rw [Nat.pow_succ] at h;exact h
   have:=A0 k _ this;simp;omega
theorem lp {z:Nat} (h:z<18446744073709551616):(fc z).length≤10:=A0 9 z (Zt h (by decide))
theorem GJ (z:Nat):Byt (fc z):=by
 induction z using Xb with
 |_ z ih=>
  by_cases hz:z<128
  ·rw [pw hz];exact .cons (by omega) .nil
  ·rw [rO hz];exact .cons (by omega) (ih _ (by omega))
theorem nf {d:Int} (h:cT d):zig d<18446744073709551616:=by
 unfold zig cT at*;split<;>omega
def jy (l:List Int) (i:Nat):List Int:=fc (zig (Zb.wrap (l.getD (i+1) 0 - l.getD i 0)))
def ng (l:List Int):List Int:=be8 (l.getD 0 0%18446744073709551616)++(Zw (l.length - 1)).flatMap (jy l)
theorem PF: ∀n:_root_.Fin 256,n.val|||128=n.val%128+128:=by decide+kernel
theorem DJ (x:Nat): ∀(z:Nat) (acc:List Int),z<18446744073709551616→acc.length+(fc z).length≤140737488355328→x<1000→
  aq (fun s:(List Int×Int)=>jq (x:Int) s.1 s.2) (acc,(z:Int))=some (.inl (acc++fc z,((x+1:Nat):Int))):=by
 intro z
 induction z using Xb with
 | _ z ih =>
  intro acc hz hl hx
  by_cases h:z<128
  ·rw [pw h] at hl ⊢
   apply aY;dsimp only;unfold jq sr sq;rw [if_neg (by simp;omega),bh,aF (by simpa using hl),Z0,aT (by omega)];have:(z:Int)%256=z:=by omega
   rw [this];rfl
  ·rw [rO h] at hl ⊢
   simp only [Z7] at hl
   have e:jq (x:Int) acc (z:Int)=some (.inl (acc++[((z%128+128:Nat):Int)],((z/128:Nat):Int))):=by
    unfold jq
    have h1:bOr .u8 ((z:Int)%256) 128=((z%128+128:Nat):Int):=by
     have h2:=PF ⟨z%256,by omega⟩;simp only at h2;rw [show ((z:Int)%256)=((z%256:Nat):Int) by omega,show (128:Int)=((128:Nat):Int) from rfl,or8 (by omega) (by omega),h2];congr 1;omega
    have h3:aA .u64 (z:Int) 7=((z/128:Nat):Int):=by have:=pT (x:=(z:Int)) (k:=7) (by omega);simpa using this
    rw [if_pos (by simp;omega),bh,h1,h3,aF (by simp;omega),Z0]
   rw [bK (by dsimp only;exact e),ih (z/128) (by omega) _ (by omega) (by simp;omega) hx];simp
theorem IJ {a:Nat} (ha:a<18446744073709551616):dO .u64 (a:Int) 18446744073709551615=18446744073709551615 - (a:Int):=by
 unfold dO;rw [bA];show (((Ze 64 (a:Int)^^^Ze 64 18446744073709551615).toNat:Nat):Int)%18446744073709551616=_;have h1:(Ze 64 (a:Int)).toNat=a:=by rw [Zm];omega
 have h2:Ze 64 18446744073709551615=BitVec.allOnes 64:=by decide
 rw [h2,BitVec.xor_allOnes,BitVec.toNat_not,h1];have:(2:Nat)^64=18446744073709551616:=by decide
 omega
theorem xor_zero {a:Nat} (ha:a<18446744073709551616):dO .u64 (a:Int) 0=(a:Int):=by
 unfold dO;rw [bA];show (((Ze 64 (a:Int)^^^Ze 64 0).toNat:Nat):Int)%18446744073709551616=_;have h1:(Ze 64 (a:Int)).toNat=a:=by rw [Zm];omega
 have h2:Ze 64 0=0#64:=by decide
 rw [h2,BitVec.xor_zero,h1];omega
theorem LQ {d:Int} (h:cT d):dO .u64 (eh .u64 (X6.wrap d) 1) (X6.wrap (aA .i64 d 63))=(zig d:Int):=by
 have h1:aA .i64 d 63=if d<0 then -1 else 0:=by
  unfold aA cT at*;rw [X4 _ (Yi (Int.pow_pos (by decide)))];have:(2:Int)^(min (63:Int).toNat Zb.bits)=9223372036854775808:=by decide
  rw [this];split<;>omega
 have h2:eh .u64 (X6.wrap d) 1=(2*d)%18446744073709551616:=by
  have:=yZ (x:=X6.wrap d) (k:=1) (by omega);rw [show ((1:Nat):Int)=1 from rfl] at this;rw [this,bA];omega
 rw [h1,h2,bA];unfold zig cT at*;split
 ·have e:((2*d)%18446744073709551616)=((2*d+18446744073709551616).toNat:Int):=by omega
  rw [show ((-1:Int)%18446744073709551616)=18446744073709551615 from by decide,e,IJ (by omega)];omega
 ·have e:((2*d)%18446744073709551616)=((2*d).toNat:Int):=by omega
  rw [show ((0:Int)%18446744073709551616)=0 from by decide,e,xor_zero (by omega)]
theorem y5 {l:List Int} (h0:0<l.length) (hl:l.length≤64):lM l=some (ng l):=by
 unfold lM;have h00:idx l 0=some l[0]:=ay (i:=0) h0;have hsub:=ef (xs:=l) (lo:=1) (hi:=l.length) (by omega) (Zn _);rw [show ((1:Nat):Int)=1 from rfl] at hsub;rw [h00,Z0,bA,sH,Z0,hsub,Z0,Z4];have hlen:(l.drop 1).length=l.length - 1:=by simp
 have hg0:l.getD 0 0=l[0]:=by rw [Zu,Z5 h0];rfl
 refine aU (fun i=>(be8 (l[0]%18446744073709551616)++(Zw i).flatMap (jy l),(i:Int))) (l.length - 1) (by simp) (fun i hi=> ?_) ?_
 ·dsimp only
  unfold oA;rw [hlen,if_pos (by simpa using hi),ay (by rw [hlen];exact hi),Z0,ay (by omega),Z0];have hw:=k8 ((l.drop 1)[i]'(by rw [hlen];exact hi) - l[i]'(by omega));have hb:=n9 (Zw i) (jy l) 10 fun x hx=>lp (nf (k8 _));have h10:=lp (nf hw);simp only [Xm] at hb
  have e:jy l i=fc (zig (Zb.wrap ((l.drop 1)[i]'(by rw [hlen];exact hi) - l[i]'(by omega)))):=by
   unfold jy;rw [Zu,Zu,Z5 (show i+1<l.length by omega),Z5 (show i<l.length by omega)];simp only [Xe,List.getElem_drop];congr 5;omega
  rw [LQ hw,DJ i _ _ (nf hw) (by simp only [Z3,b9];omega) (by omega),Yg,Xa, ←e];simp
 ·dsimp only
  unfold oA sn;rw [hlen,if_neg (by simp)];unfold ng;rw [hg0];rfl
theorem y6 (x:Nat): ∀(z:Nat) (acc:List Int),z<18446744073709551616→acc.length+(fc z).length≤140737488355328→x<1000→
  aq (fun s:(List Int×Int)=>mP (x:Int) s.1 s.2) (acc,(z:Int))=some (.inl (acc++fc z,((x+1:Nat):Int))):=by
 intro z
 induction z using Xb with
 | _ z ih =>
  intro acc hz hl hx
  by_cases h:z<128
  ·rw [pw h] at hl ⊢
   apply aY;dsimp only;unfold mP xy xw;rw [if_neg (by simp;omega),bh,aF (by simpa using hl),Z0,aT (by omega)];have:(z:Int)%256=z:=by omega
   rw [this];rfl
  ·rw [rO h] at hl ⊢
   simp only [Z7] at hl
   have e:mP (x:Int) acc (z:Int)=some (.inl (acc++[((z%128+128:Nat):Int)],((z/128:Nat):Int))):=by
    unfold mP;rw [if_pos (by simp;omega),bh,bA,bA,aF (by simp;omega),Z0,Zr (by omega),Zs (by omega)];congr 4
    ·congr 1;omega
    ·omega
   rw [bK (by dsimp only;exact e),ih (z/128) (by omega) _ (by omega) (by simp;omega) hx];simp
theorem zY {α:Type} {l:List α} {i:Nat} {d:α} (h:i<l.length):l.getD i d=l[i]:=by
 rw [Zu,Z5 h];rfl
theorem CU {l:List Ap} (h0:0<l.length) (hl:l.length≤64):ut l=some (ng (l.map (·.fInt))):=by
 unfold ut;have h00:idx l 0=some l[0]:=ay (i:=0) h0;rw [h00,Z0,bA,wb,Z0];have hg: ∀i (h:i<l.length),(l.map (·.fInt)).getD i 0=l[i].fInt:=fun i h=>by rw [zY (by simpa using h)];simp
 refine aU (fun i=>(be8 (l[0].fInt%18446744073709551616)++(Zw i).flatMap (jy (l.map (·.fInt))),((i+1:Nat):Int))) (l.length - 1) (by simp) (fun i hi=> ?_) ?_
 ·dsimp only
  unfold s8 s7;have e1:Zb.wrap (((i+1:Nat):Int) - 1)=(i:Int):=by rw [ak (by omega)];omega
  rw [if_pos (by simpa using by omega),ay (by omega),Z0,e1,ay (by omega),Z0];have hw:=k8 (l[i+1].fInt - l[i].fInt);have hb:=n9 (Zw i) (jy (l.map (·.fInt))) 10 fun x hx=>lp (nf (k8 _));have h10:=lp (nf hw);simp only [Xm] at hb
  have e:jy (l.map (·.fInt)) i=fc (zig (Zb.wrap (l[i+1].fInt - l[i].fInt))):=by
   unfold jy;rw [hg _ (by omega),hg _ (by omega)]
  have key:=y6 (i+1) (zig (Zb.wrap (l[i+1].fInt - l[i].fInt))) (be8 (l[0].fInt%18446744073709551616)++(Zw i).flatMap (jy (l.map (·.fInt)))) (nf hw) (by simp only [Z3,b9];omega) (by omega)
  have hz:(if decide (Zb.wrap (l[i+1].fInt - l[i].fInt)<0)=true then (X6.wrap (Zb.wrap ((Zb.wrap ((-2)*(Zb.wrap (l[i+1].fInt - l[i].fInt)))) - 1))) else (X6.wrap (Zb.wrap (2*(Zb.wrap (l[i+1].fInt - l[i].fInt))))))=((zig (Zb.wrap (l[i+1].fInt - l[i].fInt)):Nat):Int):=by
   generalize Zb.wrap (l[i+1].fInt - l[i].fInt)=d at*;simp only [decide_eq_true_eq];unfold zig cT at*;split
   ·rw [bA,i8,i8];omega
   ·rw [bA,i8];omega
  rw [Yg,Xa,Y9,e, ←Zj, ←key, ←hz];split<;>rfl
 ·dsimp only
  unfold s8 xv;rw [if_neg (by simp;omega)];unfold ng;rw [hg 0 h0];simp
def fd (w:List Ap) (v:Ap):Nat:=w.findIdx fun x=>decide (v=x)
def nL (l:List Ap):List Int:=((aL l).length:Int)::((aL l).flatMap bp++cI (l.map fun v=>(fd (aL l) v:Int)) (wid ((aL l).length - 1)))
theorem IL {w:List Ap} {v:Ap} (hw:w.length<1048576) (h:v∈w):gQ w v=some (fd w v:Int):=by
 unfold gQ;have:=AU (f:=fun s:Int=>fp w v s) w (fun x=>decide (v=x)) (fun i=>(i:Int)) (-1) (fun i hi hp=> ?_) (fun i hi hp=> ?_) ?_
 ·rw [this]
  have ha:w.any (fun x=>decide (v=x))=true:=List.any_eq_true.2 ⟨v,h,by simp⟩;rw [ha];rfl
 ·unfold fp
  rw [if_pos (by simpa using hi),ay hi,Z0,hp,if_neg (by decide),aT (by omega)]
 ·unfold fp
  rw [if_pos (by simpa using hi),ay hi,Z0,hp,if_pos rfl];rfl
 ·unfold fp nZ
  rw [if_neg (by simp)];rfl
theorem nQ {w:List Ap} {v:Ap} (h:v∈w):fd w v<w.length:=List.findIdx_lt_length_of_exists ⟨v,h,by simp⟩
theorem yj {w:List Ap} {v:Ap} (h:v∈w):w[fd w v]'(nQ h)=v:=by
 have:=List.findIdx_getElem (p:=fun x=>decide (v=x)) (xs:=w) (w:=nQ h);simp only [decide_eq_true_eq] at this;exact this.symm
theorem y7 {l w:List Ap} (h: ∀v∈l,v∈w) (hw:w.length<1048576):U64 (l.map fun v=>(fd w v:Int)):=fun x hx=>by
 obtain ⟨v,hv,rfl⟩:=X3.1 hx;have:=nQ (h v hv);omega
theorem zZ {l:List Ap} (h: ∀v∈l,Rgt v) (hl:l.length≤64) (hne:l≠[]):mL l=some (nL l):=by
 obtain ⟨r,hr1,hr2⟩:=y4 h (by omega);obtain ⟨h3,h4,h5⟩:=fa h;have hwr: ∀v∈aL l,Rgt v:=fun v hv=>h v ((h4 v).1 hv);unfold mL iv;rw [aF (by simp;omega),Z0,Z0,Zz,hr1,Z0,hr2,Z0,bh,show ((aL l).length:Int)%256=(aL l).length by omega];have hfl:=i7 hwr;refine aU (fun i=>(((aL l).length:Int)::((aL l).take i).flatMap bp,(i:Int))) (aL l).length (by simp) (fun i hi=> ?_) ?_
 ·dsimp only
  unfold jW;have h1:=i7 (l:=(aL l).take i) fun v hv=>hwr v (Zf hv);have h2:=(d5 (hwr _ (Z2 hi))).2;simp only [Zl] at h1;rw [if_pos (by simpa using hi),ay hi,Z0,qq (hwr _ (Z2 hi)),Z0,aF (by simp only [Z7];omega),Z0,aT (by omega),lU hi]
  rfl
 ·dsimp only
  unfold jW;rw [if_neg (by simp),Z4];unfold l9
  have:aq (fun s:(List Int×Int)=>iG l (aL l) (((aL l).length:Int)::(aL l).flatMap bp) s.1 s.2) ([],0)=some (nL l):=by
   refine aU (fun i=>((l.take i).map fun v=>(fd (aL l) v:Int),(i:Int))) l.length (by simp) (fun i hi=> ?_) ?_
   ·dsimp only
    unfold iG;have hm:=(h4 l[i]).2 (Z2 hi);have hp:=nQ hm;rw [if_pos (by simpa using hi),ay hi,Z0,IL (by omega) hm,Z0,bA,aF (by simp;omega),Z0,aT (by omega),Z1 hi];have:((fd (aL l) l[i]:Nat):Int)%18446744073709551616=(fd (aL l) l[i]:Nat):=by omega
    rw [this,Xz,Yc,Yh]
   ·dsimp only
    unfold iG l8;rw [if_neg (by simp),Z4]
    by_cases h0:(aL l).length=0
    ·have hw0:aL l=[]:=Za h0
     have hl0:l=[]:=by
      cases l with
      |nil=>rfl
      |cons a t=>have:=(h4 a).2 (by simp);rw [hw0] at this;cases this
     subst hl0;exfalso;exact absurd rfl hne
    have e1:X6.wrap (Zb.wrap (((aL l).length:Int) - 1))=(((aL l).length - 1:Nat):Int):=by rw [ak (by omega),bA];omega
    have hwid:wid ((aL l).length - 1)≤64:=oP (Zt (show (aL l).length - 1<64 by omega) (by decide))
    have hpl:(cI (l.map fun v=>(fd (aL l) v:Int)) (wid ((aL l).length - 1))).length≤64*64:=by
     unfold cI;rw [fw,Zp];have:=Zv hl hwid;omega
    rw [e1,len_eq (by omega),Z0,AX (y7 (fun v hv=>(h4 v).2 hv) (by omega)) (by simp;omega) hwid,Z0,aF (by simp only [Z7];omega)]
    rfl
  rw [this];rfl
theorem A3 {w:List Ap} {v:Ap} (hn:w.Nodup) (h:v∈w) {k:Nat} (hk:k<w.length):w[k]=v↔k=fd w v:=by
 constructor
 ·intro e
  rw [←yj h] at e;exact (List.getElem_inj hn).1 e
 ·rintro rfl;exact yj h
theorem DK {l:List Ap} (h: ∀v∈l,Rgt v) (hl:l.length≤64) (hne:l≠[]):xa l=some (nL l):=by
 obtain ⟨h3,h4,h5⟩:=fa h;have hwr: ∀v∈aL l,Rgt v:=fun v hv=>h v ((h4 v).1 hv);unfold xa;rw [CT h (by omega),Z0,bh,show ((aL l).length:Int)%256=(aL l).length by omega];have hfl:=i7 hwr;refine aU (fun i=>(((aL l).length:Int)::((aL l).take i).flatMap bp,(i:Int))) (aL l).length (by simp) (fun i hi=> ?_) ?_
 ·dsimp only
  unfold ux;have h1:=i7 (l:=(aL l).take i) fun v hv=>hwr v (Zf hv);have h2:=(d5 (hwr _ (Z2 hi))).2;simp only [Zl] at h1;rw [if_pos (by simpa using hi),ay hi,Z0,oO (hwr _ (Z2 hi)),Z0,aF (by simp only [Z7];omega),Z0,aT (by omega),lU hi]
  rfl
 ·dsimp only
  unfold ux;rw [if_neg (by simp),Z4];unfold yV
  have:aq (fun s:(List Int×Int)=>qE l (aL l) (((aL l).length:Int)::(aL l).flatMap bp) s.1 s.2) ([],0)=some (nL l):=by
   refine aU (fun i=>((l.take i).map fun v=>(fd (aL l) v:Int),(i:Int))) l.length (by simp) (fun i hi=> ?_) ?_
   ·dsimp only
    unfold qE;have hm:=(h4 l[i]).2 (Z2 hi);have hp:=nQ hm;rw [if_pos (by simpa using hi)];refine aU (fun k=>(((l.take i).map fun v=>(fd (aL l) v:Int))++if fd (aL l) l[i]<k then [(fd (aL l) l[i]:Int)] else [],(k:Int))) (aL l).length (by simp) (fun k hk=> ?_) ?_
    ·dsimp only
     unfold uw uv;rw [if_pos (by simpa using hk),ay hk,Z0,ay hi,Z0,aT (by omega)]
     by_cases e:k=fd (aL l) l[i]
     ·have e1:=(A3 h3.nodup hm hk).2 e
      rw [if_pos (by simpa using e1),if_neg (by omega),Xk,bA,aF (by simp;omega),Z0,if_pos (by omega)];have:(k:Int)%18446744073709551616=(fd (aL l) l[i]:Nat):=by omega
      rw [this]
     ·have e1: ¬ (aL l)[k]=l[i]:=fun h=>e ((A3 h3.nodup hm hk).1 h)
      rw [if_neg (by simpa using e1)];have e2:(fd (aL l) l[i]<k+1)=(fd (aL l) l[i]<k):=by apply propext;omega
      simp only [e2]
    ·dsimp only
     unfold uw yU;rw [if_neg (by simp),if_pos hp,aT (by omega),Z1 hi,Xz,Yc,Yh];rfl
   ·dsimp only
    unfold qE yT;rw [if_neg (by simp),Z4]
    have h0:(aL l).length≠0:=fun h0=>by
     have hw0:aL l=[]:=Za h0;cases l with
     |nil=>exact hne rfl
     |cons a t=>have:=(h4 a).2 (by simp);rw [hw0] at this;cases this
    have e1:X6.wrap (Zb.wrap (((aL l).length:Int) - 1))=(((aL l).length - 1:Nat):Int):=by rw [ak (by omega),bA];omega
    have hwid:wid ((aL l).length - 1)≤64:=oP (Zt (show (aL l).length - 1<64 by omega) (by decide))
    have hpl:(cI (l.map fun v=>(fd (aL l) v:Int)) (wid ((aL l).length - 1))).length≤64*64:=by
     unfold cI;rw [fw,Zp];have:=Zv hl hwid;omega
    rw [e1,CM (by omega),Z0,vh (y7 (fun v hv=>(h4 v).2 hv) (by omega)) (by simp;omega) hwid,Z0,aF (by simp only [Z7];omega)]
    rfl
  rw [this];rfl
def jM:List Int→Int
 |[]=>0
 |a::r=>r.foldl (fun m x=>if x<m then x else m) a
theorem A4 (r:List Int): ∀a:Int,r.foldl (fun m x=>if x<m then x else m) a≤a∧(∀x∈r,r.foldl (fun m x=>if x<m then x else m) a≤x)∧(r.foldl (fun m x=>if x<m then x else m) a=a∨r.foldl (fun m x=>if x<m then x else m) a∈r):=by
 induction r with
 |nil=>intro a;simp
 | cons b r ih =>
  intro a;simp only [Zy];obtain ⟨h1,h2,h3⟩:=ih (if b<a then b else a);have hb:(if b<a then b else a)≤a∧(if b<a then b else a)≤b∧((if b<a then b else a)=a∨(if b<a then b else a)=b):=by split<;>omega
  refine ⟨by omega,fun x hx=> ?_,?_⟩
  ·rcases Zq.1 hx with rfl|hx
   ·omega
   ·exact h2 x hx
  ·rcases h3 with h3|h3
   ·rcases hb.2.2 with h4|h4
    ·left;omega
    ·right;rw [h3,h4];simp
   ·right;simp [h3]
theorem z6 {l:List Int} {x:Int} (h:x∈l):jM l≤x:=by
 cases l with
 |nil=>cases h
 |cons a r=>
  obtain ⟨h1,h2,_⟩:=A4 r a;rcases Zq.1 h with rfl|h
  ·exact h1
  ·exact h2 x h
theorem yk {l:List Int} (h:l≠[]):jM l∈l:=by
 cases l with
 |nil=>exact absurd rfl h
 |cons a r=>
  obtain ⟨_,_,h3⟩:=A4 r a;rcases h3 with h3|h3
  ·show r.foldl _ a∈_;rw [h3];simp
  ·exact List.mem_cons_of_mem _ h3
def dH (l:List Int):Nat:=l.foldl (fun w x=>max w (wid x.toNat)) 0
theorem tA {l:List Int} {i:Nat} (h:i<l.length):dH (l.take (i+1))=max (dH (l.take i)) (wid l[i].toNat):=iB h
theorem lq {l:List Int} (h:U64 l):dH l≤64∧ ∀x∈l,wid x.toNat≤dH l:=by
 have key: ∀i,i≤l.length→dH (l.take i)≤64∧ ∀x∈l.take i,wid x.toNat≤dH (l.take i):=by
  intro i
  induction i with
  |zero=>intro _;simp [dH]
  | succ i ih =>
   intro hi;obtain ⟨h1,h2⟩:=ih (by omega);have hlt:i<l.length:=by omega
   have hx:=h l[i] (Z2 hlt);have hw:wid l[i].toNat≤64:=oP (by rw [show (2:Nat)^64=18446744073709551616 by decide];omega);rw [tA hlt];refine ⟨by omega,fun x hx=> ?_⟩;rw [Z1 hlt] at hx;rcases Zd.1 hx with hx|hx
   ·have:=h2 x hx;omega
   ·have:x=l[i]:=by simpa using hx
    subst this;omega
 have:=key l.length (Zn _);rwa [Z4] at this
def bL (l:List Int):List Int:=l.map fun x=>x - jM l
def nh (l:List Int):List Int:=be8 (jM l%18446744073709551616)++[(dH (bL l):Int)]++cI (bL l) (dH (bL l))
theorem oc {l:List Int} (h: ∀x∈l,cT x):U64 (bL l):=fun x hx=>by
 obtain ⟨y,hy,rfl⟩:=X3.1 hx;have h1:=z6 hy;have h2:=h y hy;have h3:=h (jM l) (yk (List.ne_nil_of_mem hy));unfold cT at h2 h3;omega
theorem CW {x m:Int} (hx:cT x) (hm:cT m) (h:m≤x):X6.wrap ((X6.wrap x) - (X6.wrap m))=x - m:=by
 rw [bA,bA,bA];unfold cT at*;omega
theorem LS {l:List Int} (h0:0<l.length) (hl:l.length≤1048576):ku l=some (jM l):=by
 cases l with
 |nil=>simp at h0
 | cons a r =>
  unfold ku oZ;rw [if_neg (by simp;omega),dF,Z0];refine aU (fun i=>((r.take i).foldl (fun m x=>if x<m then x else m) a,((i+1:Nat):Int))) r.length (by simp) (fun i hi=> ?_) ?_
  ·dsimp only
   unfold lu;rw [if_pos (by simpa using hi),ay (by simpa using hi),Z0,aT (by simp at hl;omega),iB hi]
   rfl
  ·dsimp only
   unfold lu oY;rw [if_neg (by simp),Z4];rfl
theorem GK (a b:Nat):(if (a:Int)<(b:Int) then (b:Int) else (a:Int))=((max a b:Nat):Int):=by split<;>omega
theorem y8 {l:List Int} (h: ∀x∈l,cT x) (h0:0<l.length) (hl:l.length≤64):lN l=some (nh l):=by
 have hne:l≠[]:=fun e=>by subst e;simp at h0
 have hm:=h _ (yk hne);have hu:=oc h;obtain ⟨hw,hw2⟩:=lq hu;have hal:(bL l).length=l.length:=by simp [bL]
 unfold lN;rw [LS h0 (by omega),Z0];refine aU (fun i=>((bL l).take i,((dH ((bL l).take i):Nat):Int),(i:Int))) l.length (by simp [dH]) (fun i hi=> ?_) ?_
 ·dsimp only
  unfold oC;have hxi:=Z2 hi;have hai:(bL l)[i]'(by omega)=l[i] - jM l:=by simp [bL]
  have hlt:=hu _ (Z2 (show i<(bL l).length by omega));rw [hai] at hlt;have e2:=CR (n:=(l[i] - jM l).toNat) (by omega);rw [show (((l[i] - jM l).toNat:Nat):Int)=l[i] - jM l by omega] at e2;rw [if_pos (by simpa using hi),ay hi,Z0,CW (h _ hxi) hm (z6 hxi),aF (by simp;omega),Z0,e2,Z0,aT (by omega),GK,tA (by omega),Z1 (by omega),hai]
 ·dsimp only
  unfold oC su
  have hpl:(cI (bL l) (dH (bL l))).length≤64*64:=by
   unfold cI;rw [fw,hal];have:=Zv hl hw;omega
  rw [if_neg (by simp), ←hal,Z4,bA,sH,Z0,bh,aF (by simp [b9]),Z0,AX hu (by omega) hw,Z0,aF (by simp only [Z3,b9,Z6];omega)];have:((dH (bL l):Nat):Int)%256=(dH (bL l):Nat):=by omega
  rw [this];rfl
theorem CX {l:List Ap} (h: ∀v∈l,cT v.fInt) (h0:0<l.length) (hl:l.length≤64):uy l=some (nh (l.map (·.fInt))):=by
 have h': ∀x∈l.map (·.fInt),cT x:=fun x hx=>by obtain ⟨v,hv,rfl⟩:=X3.1 hx;exact h v hv
 have hne:l.map (·.fInt)≠[]:=fun e=>by rw [List.map_eq_nil_iff] at e;subst e;simp at h0
 have hm:=h' _ (yk hne);have hu:=oc h';obtain ⟨hw,hw2⟩:=lq hu;have hal:(bL (l.map (·.fInt))).length=l.length:=by simp [bL]
 unfold uy;have h00:idx l 0=some l[0]:=ay (i:=0) h0;rw [h00,Z0]
 have hmin:jM (l.map (·.fInt))=l.foldl (fun m x=>if x.fInt<m then x.fInt else m) l[0].fInt:=by
  cases l with
  |nil=>simp at h0
  |cons a r=>simp [jM,List.foldl_map]
 refine aU (fun i=>((l.take i).foldl (fun m x=>if x.fInt<m then x.fInt else m) l[0].fInt,(i:Int))) l.length (by simp) (fun i hi=> ?_) ?_
 ·dsimp only
  unfold tl;rw [if_pos (by simpa using hi),ay hi,Z0,aT (by omega),iB hi]
 ·dsimp only
  unfold tl xE;rw [if_neg (by simp),Z4, ←hmin]
  have:aq (fun s:(List Int×Int×Int)=>pM l (jM (l.map (·.fInt))) s.1 s.2.1 s.2.2) ([],0,0)=some (nh (l.map (·.fInt))):=by
   refine aU (fun i=>((bL (l.map (·.fInt))).take i,((dH ((bL (l.map (·.fInt))).take i):Nat):Int),(i:Int))) l.length (by simp [dH]) (fun i hi=> ?_) ?_
   ·dsimp only
    unfold pM;have hxi:=Z2 hi;have hai:(bL (l.map (·.fInt)))[i]'(by omega)=l[i].fInt - jM (l.map (·.fInt)):=by simp [bL]
    have hlt:=hu _ (Z2 (show i<(bL (l.map (·.fInt))).length by omega));rw [hai] at hlt;have e2:=CM (n:=(l[i].fInt - jM (l.map (·.fInt))).toNat) (by omega);rw [show (((l[i].fInt - jM (l.map (·.fInt))).toNat:Nat):Int)=l[i].fInt - jM (l.map (·.fInt)) by omega] at e2;rw [if_pos (by simpa using hi),ay hi,Z0,CW (h _ hxi) hm (z6 (List.mem_map_of_mem hxi)),aF (by simp;omega),Z0,e2,Z0,aT (by omega),GK,tA (by omega),Z1 (by omega),hai]
   ·dsimp only
    unfold pM xD
    have hpl:(cI (bL (l.map (·.fInt))) (dH (bL (l.map (·.fInt))))).length≤64*64:=by
     unfold cI;rw [fw,hal];have:=Zv hl hw;omega
    rw [if_neg (by simp), ←hal,Z4,bA,wb,Z0,bh,aF (by simp [b9]),Z0,vh hu (by omega) hw,Z0,aF (by simp only [Z3,b9,Z6];omega)];have:((dH (bL (l.map (·.fInt))):Nat):Int)%256=(dH (bL (l.map (·.fInt))):Nat):=by omega
    rw [this];rfl
  rw [this];rfl
def oQ (l:List Ap):List Int:=l.flatMap bp
def qs (kind:Int) (l:List Ap):List Int:=
 if kind=1 then xe l else if kind=2 then ng (l.map (·.fInt)) else if kind=3 then nL l else if kind=4 then nh (l.map (·.fInt)) else oQ l
def jz (l:List Ap):Bool:=l.all fun v=>v.fKind==2
def enc (kind:Int) (l:List Ap):List Int×Int:=
 if kind<0∨4<kind then ([],62) else if 64<l.length then ([],61) else if l.all right=false then ([],60) else
 if (kind=2∨kind=4)∧jz l=false then ([],62) else if l=[] then ([],0) else (qs kind l,0)
theorem Ku {l:List Ap} (hl:l.length≤1048576):mI l=some (if jz l then (l.map (·.fInt),true) else ([],false)):=by
 unfold mI jz;refine GH (fun i=>((l.take i).map (·.fInt),(i:Int))) l (fun v=>v.fKind==2) _ _ (by simp) (fun i hi hp=> ?_) (fun i hi hp=> ?_) ?_
 ·dsimp only
  unfold lZ;rw [if_pos (by simpa using hi),ay hi,Z0,if_neg (by simpa using hp),aF (by simp;omega),Z0,aT (by omega),Z1 hi,Xz,Yc,Yh]
 ·dsimp only
  unfold lZ;rw [if_pos (by simpa using hi),ay hi,Z0,if_pos (by simpa using hp)];rfl
 ·dsimp only
  unfold lZ tQ;rw [if_neg (by simp),Z4];rfl
theorem DL {l:List Ap} (hl:l.length≤1048576):d8 l eP=some (!l.all right):=by
 unfold d8 jG;have:=AU (f:=fun s:Int=>d7 l eP s) l (fun v=> !right v) (fun i=>(i:Int)) (-1) (fun i hi hp=> ?_) (fun i hi hp=> ?_) ?_
 ·rw [this,Z0]
  have e:l.any (fun v=> !right v)= !l.all right:=by simp [List.any_eq_not_all_not]
  rw [e];cases l.all right<;>simp
 ·unfold d7 eP
  rw [if_pos (by simpa using hi),ay hi,Z0,iJ,Z0,Z0,hp,if_neg (by decide),aT (by omega)]
 ·unfold d7 eP
  rw [if_pos (by simpa using hi),ay hi,Z0,iJ,Z0,Z0,hp,if_pos rfl];rfl
 ·unfold d7 lC
  rw [if_neg (by simp)];rfl
theorem ra {l:List Ap} (h: ∀v∈l,VOK v) (hr:l.all right=true): ∀v∈l,Rgt v:=fun v hv=>Rgt.of (h v hv) (List.all_eq_true.1 hr v hv)
theorem sM {l:List Ap} (kind:Int) (h: ∀v∈l,VOK v) (hl:l.length≤1048576):eW kind l=some (enc kind l):=by
 unfold eW enc
 have hj: ∀b,gw kind l b=some (if b=true then ([],62) else if 64<l.length then ([],61) else if l.all right=false then ([],60) else if (kind=2∨kind=4)∧jz l=false then ([],62) else if l=[] then ([],0) else (qs kind l,0)):=by
  intro b;unfold gw;cases b
  ·simp only [Z8,if_false]
   by_cases h1:64<l.length
   ·rw [if_pos (decide_eq_true (by omega)),if_pos h1]
   rw [if_neg (by simp;omega),if_neg h1,DL hl,Z0];cases hr:l.all right
   ·rfl
   rw [if_neg (by decide),if_neg (by decide),Ku hl,Z0];have hR:=ra h hr
   have hj2: ∀ns:List Int×Bool,(kind=2∨kind=4→ns.1=l.map (·.fInt))→et kind l ns false=some (if l=[] then ([],0) else (qs kind l,0)):=by
    intro ns hns;unfold et;rw [if_neg (by decide)]
    by_cases h0:l=[]
    ·subst h0;rfl
    have hpos:0<l.length:=Zi.2 h0;rw [if_neg (by simpa using h0),if_neg h0];unfold qs
    by_cases k1:kind=1
    ·rw [if_pos (by simpa using k1),zX hR (by omega),if_pos k1];rfl
    rw [if_neg (by simpa using k1),if_neg k1]
    by_cases k2:kind=2
    ·rw [if_pos (by simpa using k2),hns (.inl k2),y5 (by simpa using hpos) (by simp;omega),if_pos k2];rfl
    rw [if_neg (by simpa using k2),if_neg k2]
    by_cases k3:kind=3
    ·rw [if_pos (by simpa using k3),zZ hR (by omega) h0,if_pos k3];rfl
    rw [if_neg (by simpa using k3),if_neg k3]
    by_cases k4:kind=4
    ·rw [if_pos (by simpa using k4),hns (.inr k4),y8 (fun x hx=>by obtain ⟨v,hv,rfl⟩:=X3.1 hx;exact (h v hv).int) (by simpa using hpos) (by simp;omega),if_pos k4];rfl
    rw [if_neg (by simpa using k4),if_neg k4];refine aU (fun i=>((l.take i).flatMap bp,(i:Int))) l.length (by simp) (fun i hi=> ?_) ?_
    ·dsimp only
     unfold iS;have h3:=i7 (l:=l.take i) fun v hv=>hR v (Zf hv);have h2:=(d5 (hR _ (Z2 hi))).2;simp only [Zl] at h3;rw [if_pos (by simpa using hi),ay hi,Z0,qq (hR _ (Z2 hi)),Z0,aF (by omega),Z0,aT (by omega),lU hi]
    ·dsimp only
     unfold iS kw;rw [if_neg (by simp),Z4];rfl
   have hj2t: ∀ns:List Int×Bool,et kind l ns true=some ([],62):=fun ns=>rfl;cases hi:jz l
   ·simp only [Z8,if_false,Y6,if_true,and_true]
    by_cases k2:kind=2
    ·rw [if_pos (by simpa using k2),if_pos (.inl k2),hj2t]
    by_cases k4:kind=4
    ·have:(kind==4)=true:=by simpa using k4
     rw [if_neg (by simpa using k2),this,if_pos (.inr k4),hj2t]
    ·have:(kind==4)=false:=by simpa using k4
     rw [if_neg (by simpa using k2),this,if_neg (by omega),hj2 _ (by omega)]
   ·simp only [if_true,Xw,Z8,if_false,Bool.true_eq_false,and_false]
    exact hj2 _ fun _=>rfl
  ·rfl
 by_cases h0:kind<0
 ·rw [if_pos (by simpa using h0),if_pos (.inl h0),hj];rfl
 rw [if_neg (by simpa using h0),hj]
 by_cases h4:4<kind
 ·rw [if_pos (by simpa using h4),if_pos (show kind<0∨4<kind from .inr h4)]
 ·rw [if_neg (show ¬ (kind<0∨4<kind) by omega),if_neg (by simpa using h4)]
theorem Fl {l:List Ap} (kind:Int) (hl:l.length≤1048576):qC kind l=some (enc kind l).2:=by
 unfold qC enc
 have hj2:qo kind l=some (if l.all (fun v=> !((decide (kind=2)||decide (kind=4))&&v.fKind != 2)) then 0 else 62):=by
  unfold qo;refine uD l _ _ _ (fun i hi hp=> ?_) (fun i hi hp=> ?_) ?_
  ·unfold nz kS
   rw [if_pos (by simpa using hi),ay hi,Z0,aT (by omega)]
   by_cases k2:kind=2
   ·subst k2;simp at hp;simp [hp]
   by_cases k4:kind=4
   ·subst k4;simp at hp;simp [hp]
   ·simp [k2,k4]
  ·unfold nz kS
   rw [if_pos (by simpa using hi),ay hi,Z0]
   by_cases k2:kind=2
   ·subst k2;simp at hp;simp [hp]
   by_cases k4:kind=4
   ·subst k4;simp at hp;simp [hp]
   ·simp [k2,k4] at hp
  ·unfold nz vb
   rw [if_neg (by simp)];rfl
 have hj : ∀ b, nA kind l b = some (if b = true then 62 else if 64 < l.length then 61 else if l.all right = false then 60 else if (kind = 2 ∨ kind = 4) ∧ jz l = false then 62 else 0) := by
  intro b;unfold nA;cases b
  ·simp only [Z8,if_false]
   by_cases h1:64<l.length
   ·rw [if_pos (decide_eq_true (by omega)),if_pos h1]
   rw [if_neg (by simp;omega),if_neg h1];have:=uD (f:=fun s:Int=>kU kind l s) l right 60 (if (kind=2∨kind=4)∧jz l=false then 62 else 0) (fun i hi hp=> ?_) (fun i hi hp=> ?_) ?_
   ·rw [this];cases l.all right<;>rfl
   ·unfold kU
    rw [if_pos (by simpa using hi),ay hi,Z0,oN,Z0,hp,if_neg (by decide),aT (by omega)]
   ·unfold kU
    rw [if_pos (by simpa using hi),ay hi,Z0,oN,Z0,hp];rfl
   ·unfold kU
    rw [if_neg (by simp),hj2];unfold jz
    by_cases hk:kind=2∨kind=4
    ·have e:(decide (kind=2)||decide (kind=4))=true:=by simpa using hk
     simp only [e,Yb,hk,true_and]
     have e2:(l.all fun v=> !(v.fKind != 2))=l.all fun v=>v.fKind==2:=by
      congr 1;funext v;cases hv:(v.fKind==2)<;>simp [bne,hv]
     rw [e2];cases l.all fun v=>v.fKind==2<;>rfl
    ·have e:(decide (kind=2)||decide (kind=4))=false:=by simpa using hk
     simp [e,hk]
  ·rfl
 by_cases h0:kind<0
 ·rw [if_pos (by simpa using h0),if_pos (.inl h0),hj];rfl
 rw [if_neg (by simpa using h0),hj]
 by_cases h4:4<kind
 ·rw [if_pos (by simpa using h4),if_pos (show kind<0∨4<kind from .inr h4)]
 ·rw [if_neg (show ¬ (kind<0∨4<kind) by omega),if_neg (by simpa using h4)]
  congr 1
  repeat' split
  all_goals rfl
theorem qt {l:List Ap} (kind:Int) (h: ∀v∈l,VOK v) (hl:l.length≤1048576):n7 kind l=some (enc kind l):=by
 unfold n7;rw [Fl kind hl,Z0];unfold rD
 by_cases he:(enc kind l).2=0
 ·rw [if_neg (by simpa using he)]
  unfold enc at he ⊢;split at he
  ·cases he
  rename_i hk;rw [if_neg hk];split at he
  ·cases he
  rename_i hlen;rw [if_neg hlen];split at he
  ·cases he
  rename_i hr;rw [if_neg hr];split at he
  ·cases he
  rename_i hi;rw [if_neg hi];have hR:=ra h (by simpa using hr)
  by_cases h0:l=[]
  ·subst h0;rfl
  rw [if_neg h0,if_neg (by simpa using h0)];have hpos:0<l.length:=Zi.2 h0;unfold qs gS
  by_cases k1:kind=1
  ·rw [if_pos (by simpa using k1),DI _ hl,if_pos k1,Z0]
   obtain ⟨h1,h2,_⟩:=oa (l:=l);refine aU (fun i=>(((bS l).take i).flatMap fun r=>r.fMany::bp r.fValue,(i:Int))) (bS l).length (by simp) (fun i hi=> ?_) ?_
   ·dsimp only
    have hm:=h1 _ (Z2 hi);have hr:=hR _ hm.2.2
    have hb:=n9 ((bS l).take i) (fun r=>r.fMany::bp r.fValue) 67 fun x hx=>by
     have:=(d5 (hR _ (h1 x (Zf hx)).2.2)).2;simp;omega
    have hb':=(d5 hr).2;simp only [Zl] at hb;have hg:((bS l).map lG)[i]'(by simpa using hi)=lG (bS l)[i]:=by simp
    unfold rB;rw [if_pos (by simpa using hi),ay (by simpa using hi),Z0,hg,bh,aF (by simp only [Z6];omega),Z0,Z0];unfold lG;dsimp only;rw [oO hr,Z0,aF (by simp only [Z3,Z6];omega),Z0,aT (by omega),lU hi];have:(bS l)[i].fMany%256=(bS l)[i].fMany:=by omega
    rw [this];simp
   ·dsimp only
    unfold rB gS;rw [if_neg (by simp),Z4];rfl
  rw [if_neg (by simpa using k1),if_neg k1]
  by_cases k2:kind=2
  ·rw [if_pos (by simpa using k2),CU hpos (by omega),if_pos k2];rfl
  rw [if_neg (by simpa using k2),if_neg k2]
  by_cases k3:kind=3
  ·rw [if_pos (by simpa using k3),DK hR (by omega) h0,if_pos k3];rfl
  rw [if_neg (by simpa using k3),if_neg k3]
  by_cases k4:kind=4
  ·rw [if_pos (by simpa using k4),CX (fun v hv=>(h v hv).int) hpos (by omega),if_pos k4];rfl
  rw [if_neg (by simpa using k4),if_neg k4];refine aU (fun i=>((l.take i).flatMap bp,(i:Int))) l.length (by simp) (fun i hi=> ?_) ?_
  ·dsimp only
   unfold rC;have h3:=i7 (l:=l.take i) fun v hv=>hR v (Zf hv);have h2:=(d5 (hR _ (Z2 hi))).2;simp only [Zl] at h3;rw [if_pos (by simpa using hi),ay hi,Z0,oO (hR _ (Z2 hi)),Z0,aF (by omega),Z0,aT (by omega),lU hi]
  ·dsimp only
   unfold rC gS;rw [if_neg (by simp),Z4];rfl
 ·rw [if_pos (by simpa using he),if_pos rfl]
  have:(enc kind l).1=[]:=by
   unfold enc at he ⊢
   repeat' split
   all_goals first|rfl|(exfalso;simp_all)
  congr 1;exact Yk this.symm rfl
theorem fh {kind:Int} {l:List Ap} {b:List Int} (h:enc kind l=(b,0)):(0≤kind∧kind≤4)∧l.length≤64∧l.all right=true∧((kind=2∨kind=4)→jz l=true)∧((l=[]∧b=[])∨(l≠[]∧b=qs kind l)):=by
 unfold enc at h;split at h
 ·cases h
 rename_i h1;split at h
 ·cases h
 rename_i h2;split at h
 ·cases h
 rename_i h3;split at h
 ·cases h
 rename_i h4;refine ⟨by omega,by omega,by simpa using h3,fun h5=> ?_,?_⟩
 ·cases hi:jz l with
  |true=>rfl
  |false=>exact absurd ⟨h5,hi⟩ h4
 ·split at h
  ·rename_i h6;left;exact ⟨h6,(Prod.mk.inj h).1.symm⟩
  ·rename_i h6;right;exact ⟨h6,(Prod.mk.inj h).1.symm⟩
def PG (kind:Int) (b:List Int) (many:Nat) (g:List Ap) (ok:Bool):Prop:= ∀l:List Ap,(∀v∈l,Rgt v)→l.length=many→enc kind l=(b,0)→g=l∧ok=true
def jQ (kind:Int) (b:List Int) (many:Nat) (x:List Ap×ai):Prop:=(∀v∈x.1,VOK v)∧x.1.length≤1048576∧PG kind b many x.1 x.2.fOk
theorem DM {l:List Ap} {k:Nat} (h:k<l.length):oQ (l.drop k)=bp l[k]++oQ (l.drop (k+1)):=by
 unfold oQ;rw [Zh h,Zx]
theorem wj {v:Ap} (h:Rgt v) {r:List Int} {ok:Bool} {rest:List Int} (hr:r=bp v++rest) (hb:Byt r) (hl:r.length<140737488355328):dE ⟨r,ok⟩=some (v,⟨rest,ok⟩):=by
 rw [CK hb hl];dsimp only;rw [hr,qf h];dsimp only;rw [Xg]
theorem wk {r:ai} (hb:Byt r.fB) (hl:r.fB.length<140737488355328): ∃v r',dE r=some (v,r')∧Rgt v∧Byt r'.fB∧r'.fB.length≤r.fB.length∧(r.fOk=false→r'.fOk=false):=by
 rw [CK hb hl];cases hp:cf r.fB with
 |none=>exact ⟨_,_,rfl,.null,hb,Zn _,fun _=>rfl⟩
 |some x=>
  obtain ⟨v,n⟩:=x;exact ⟨_,_,rfl,(ml hb hp).1,hb.drop _,by simp,fun h=>h⟩
theorem DN {b:List Int} {many:Nat} (hb:Byt b) (hl:b.length<140737488355328) (hm:1≤many∧many≤64): ∃x,bR ⟨b,true⟩ 0 (many:Int)=some x∧jQ 0 b many x:=by
 unfold bR;rw [if_pos (by decide)];refine gg (I:=fun s:List Ap×ai=>Byt s.2.fB∧s.2.fB.length<140737488355328∧(∀v∈s.1,Rgt v)∧s.1.length≤many∧ ∀l:List Ap,(∀v∈l,Rgt v)→l.length=many→b=oQ l→s.1=l.take s.1.length∧s.2=⟨oQ (l.drop s.1.length),true⟩) (μ:=fun s=>many - s.1.length) (Q:=jQ 0 b many) ?_ ⟨hb,hl,by simp,by simp,fun l _ _ h=>⟨rfl,by rw [h];rfl⟩⟩;rintro ⟨acc,r⟩ ⟨h1,h2,h3,h4,h5⟩;dsimp only at*
 have hend:acc.length=many∨r.fOk=false→jQ 0 b many (acc,r):=fun h=>⟨fun v hv=>(h3 v hv).ok,by dsimp only;omega,fun l hr hlen he=>by
  obtain ⟨_,_,_,_,he⟩:=fh he
  have he':b=oQ l:=by
   rcases he with ⟨e,_⟩|⟨_,e⟩
   ·subst e;simp at hlen;omega
   ·exact e
  obtain ⟨g1,g2⟩:=h5 l hr hlen he';subst g2;rcases h with h|h
  ·rw [h, ←hlen,Z4] at g1;exact ⟨g1,rfl⟩
  ·cases h⟩
 unfold mR jI cg
 by_cases hlt:acc.length<many
 ·rw [if_pos (decide_eq_true (by omega))]
  cases hok:r.fOk with
  |false=>right;exact ⟨_,rfl,hend (.inr hok)⟩
  | true =>
   left;rw [if_pos rfl];obtain ⟨v,r',e1,e2,e3,e4,_⟩:=wk h1 h2;rw [e1,Z0,aF (by simp;omega),Z0];refine ⟨_,rfl,⟨e3,by dsimp only;omega,fun x hx=> ?_,by simp;omega,fun l hr hlen he=> ?_⟩,by simp;omega⟩
   ·rcases Zd.1 hx with hx|hx
    ·exact h3 x hx
    ·have:x=v:=by simpa using hx
     subst this;exact e2
   ·obtain ⟨g1,g2⟩:=h5 l hr hlen he
    subst g2;have hk:acc.length<l.length:=by omega
    have:=wj (hr _ (Z2 hk)) (ok:=true) (DM hk) h1 h2;rw [this] at e1;obtain ⟨rfl,rfl⟩:=Prod.mk.inj (Option.some.inj e1);refine ⟨?_,by simp⟩;simp only [Z3,Z6];rw [Z1 hk, ←g1]
 ·right
  rw [if_neg (by simp;omega),if_neg (by decide)];exact ⟨_,rfl,hend (.inl (by omega))⟩
theorem PH: ∀n:_root_.Fin 256,qI 1 ((n.val:Nat):Int)=some (0,((n.val:Nat):Int)):=by decide+kernel
theorem GL (v:Ap) {n:Nat} (hn:n≤255):eQ [v] (n:Int)=some (Z9 n v):=by
 have hm:qI 1 (n:Int)=some (0,(n:Int)):=PH ⟨n,by omega⟩;have e1:X6.wrap ((([v]:List Ap).length:Nat):Int)=1:=by rw [bA];rfl
 have e2:X6.wrap (n:Int)=(n:Int):=by rw [bA];omega
 unfold eQ gI uC;rw [if_neg (by simp),e1,e2,hm,Z0,Z0];unfold eU gH;dsimp only;rw [if_neg (by simp),if_neg (by simp;omega)];rw [ak (by omega),uG (by omega),Z0];refine n8 (I:=fun s:Int×List Ap=> ∃k:Nat,s.1=(k:Int)∧k≤n∧(0<n→0<k)∧s.2=Z9 k v++Z9 (n - k) Ap.zero) (μ:=fun s=>n - s.1.toNat) ?_ ?_
 ·rintro ⟨_,_⟩ ⟨k,rfl,hk,hk0,rfl⟩
  dsimp only;unfold gG gF;have hlen:(Z9 k v++Z9 (n - k) Ap.zero).length=n:=by simp;omega
  by_cases hlt:k<n
  ·left
   have hv1:vw (Z9 k v++Z9 (n - k) Ap.zero) (k:Int) ((Z9 k v++Z9 (n - k) Ap.zero).length:Int)=some (k,n - k):=by
    unfold vw;rw [if_pos (by omega),hlen];simp
   have hv2:vw (Z9 k v++Z9 (n - k) Ap.zero) 0 (k:Int)=some (0,k):=by
    unfold vw;rw [if_pos (by omega)];simp
   have hmn:Nat.ble (min k (n - k)) cL=true:=Nat.ble_eq_true_of_le (by unfold cL;omega);rw [if_pos (by rw [hlen];exact decide_eq_true (by omega)),hv1,Z0,hv2,Z0];dsimp only;rw [rJ hmn,Z0]
   have hc:cpv (Z9 k v++Z9 (n - k) Ap.zero) (k,n - k) (0,k)=some (Z9 (k+min k (n - k)) v++Z9 (n - (k+min k (n - k))) Ap.zero):=by
    unfold cpv;rw [if_pos (by dsimp only;omega)];dsimp only;unfold spl
    have e3:((Z9 k v++Z9 (n - k) Ap.zero).drop 0).take (min k (n - k))=Z9 (min k (n - k)) v:=by
     rw [Xf,List.take_append_of_le_length (by simp;omega)];rw [List.take_replicate];congr 1;omega
    rw [e3,Xj (by simp),Xn,List.drop_append,List.drop_replicate,List.drop_replicate,Xn];have e4:k - (k+min k (n - k))=0:=by omega
    have e5:n - k - (k+min k (n - k) - k)=n - (k+min k (n - k)):=by omega
    rw [e4,e5, ←Zj, ←List.replicate_append_replicate];simp
   rw [hc,Z0];refine ⟨_,rfl,⟨k+min k (n - k),?_,by omega,by omega,rfl⟩,?_⟩
   ·dsimp only;rw [ak (by omega)];omega
   ·dsimp only;rw [ak (by omega)]
    have:=hk0 (by omega);omega
  ·right
   have:k=n:=by omega
   subst this;rw [if_neg (by rw [hlen];simp)];simp
 ·refine ⟨min 1 n,by simp,by omega,by omega,?_⟩
  dsimp only;unfold cpy;rcases Nat.eq_zero_or_pos n with h|h
  ·subst h;rfl
  ·have:min 1 n=1:=by omega
   rw [this];have e:n=(n - 1)+1:=by omega
   rw [e,List.replicate_succ];simp
def tk1 (r:ai):List Int×ai:=match r.fB with|[]=>([0],⟨[],false⟩)|c::t=>([c],⟨t,r.fOk⟩)
theorem take_one (r:ai):cD r 1=some (tk1 r):=by
 have:=zT (r:=r) (n:=1) (by omega);rw [show ((1:Nat):Int)=1 from rfl] at this;rw [this];obtain ⟨b,ok⟩:=r;unfold tk1;cases b with
 |nil=>rfl
 |cons c t=>simp
theorem uH (c:Int) (t:List Int) (ok:Bool):tk1 ⟨c::t,ok⟩=([c],⟨t,ok⟩):=rfl
theorem xf (r:ai) (h:Byt r.fB): ∃c r1,tk1 r=([c],r1)∧(0≤c∧c<256)∧Byt r1.fB∧r1.fB.length≤r.fB.length∧(r1.fOk=false∨(r.fB=c::r1.fB∧r1.fOk=r.fOk)):=by
 obtain ⟨b,ok⟩:=r;cases b with
 |nil=>exact ⟨0,⟨[],false⟩,rfl,by decide,.nil,Zn _,.inl rfl⟩
 |cons c t=>exact ⟨c,⟨t,ok⟩,rfl,h.head,h.tail,by simp,.inr ⟨rfl,rfl⟩⟩
def y9 (rs:List aS):List Int:=rs.flatMap fun r=>r.fMany::bp r.fValue
theorem za {rs:List aS} {j:Nat} (h:j<rs.length):gt (rs.take (j+1))=gt (rs.take j)++Z9 rs[j].fMany.toNat rs[j].fValue:=by
 unfold gt;rw [Z1 h,Xa,Y9]
theorem wm (rs:List aS) (j:Nat):gt rs=gt (rs.take j)++gt (rs.drop j):=by
 unfold gt;rw [←Xa,Zg]
theorem Fm {b:List Int} {many:Nat} (hb:Byt b) (hl:b.length<140737488355328) (hm:1≤many∧many≤64): ∃x,bR ⟨b,true⟩ 1 (many:Int)=some x∧jQ 1 b many x:=by
 unfold bR;rw [if_neg (by decide),if_pos (by decide)];refine gg (I:=fun s:List Ap×ai=>Byt s.2.fB∧s.2.fB.length<140737488355328∧(∀v∈s.1,Rgt v)∧s.1.length≤many∧ ∀l:List Ap,(∀v∈l,Rgt v)→l.length=many→b=xe l→ ∃j,j≤(bS l).length∧s.1=gt ((bS l).take j)∧s.2=⟨y9 ((bS l).drop j),true⟩) (μ:=fun s=>if s.2.fOk then s.2.fB.length+1 else 0) (Q:=jQ 1 b many) ?_ ⟨hb,hl,by simp,by simp,fun l _ _ h=>⟨0,by omega,rfl,by rw [h];rfl⟩⟩;rintro ⟨acc,r⟩ ⟨h1,h2,h3,h4,h5⟩;dsimp only at*
 have hend:acc.length=many∨r.fOk=false→jQ 1 b many (acc,r):=fun h=>⟨fun v hv=>(h3 v hv).ok,by dsimp only;omega,fun l hr hlen he=>by
  obtain ⟨_,_,_,_,he⟩:=fh he
  have he':b=xe l:=by
   rcases he with ⟨e,_⟩|⟨_,e⟩
   ·subst e;simp at hlen;omega
   ·exact e
  obtain ⟨j,g0,g1,g2⟩:=h5 l hr hlen he';subst g2;rcases h with h|h
  ·refine ⟨?_,rfl⟩
   have h6:=wm (bS l) j;rw [oa.2.2, ←g1] at h6;have h7:=congrArg List.length h6;simp only [Z3] at h7;have h8:gt ((bS l).drop j)=[]:=Za (by omega);rw [h8,Xk] at h6;exact h6.symm
  ·cases h⟩
 unfold mS jJ cg
 by_cases hlt:acc.length<many
 ·rw [if_pos (decide_eq_true (by omega))]
  cases hok:r.fOk with
  |false=>right;exact ⟨_,rfl,hend (.inr hok)⟩
  | true =>
   left;rw [if_pos rfl,take_one,Z0];obtain ⟨rb,rok⟩:=r;dsimp only at*;subst hok;obtain ⟨c,r1,e1,hc,hr1,hr2,hr3⟩:=xf ⟨rb,true⟩ h1;replace hr2:r1.fB.length<140737488355328:=by dsimp only at hr2;omega
   dsimp only at hr3;rw [e1];dsimp only;rw [dF,Z0];obtain ⟨v,r',f1,f2,f3,f4,f5⟩:=wk hr1 hr2;obtain ⟨cn,rfl⟩:=Zc hc.1
   have hn:(if (Zb.wrap ((many:Int) - (acc.length:Int)))<(Zb.wrap (cn:Int)) then Zb.wrap ((many:Int) - (acc.length:Int)) else Zb.wrap (cn:Int))=((min cn (many - acc.length):Nat):Int):=by
    rw [ak (by omega),ak (by omega)];split<;>omega
   rw [f1,Z0];dsimp only;rw [hn,GL v (by omega),Z0,aF (by simp;omega),Z0];refine ⟨_,rfl,⟨f3,by dsimp only;omega,fun x hx=> ?_,by simp;omega,fun l hr hlen he=> ?_⟩,?_⟩
   ·rcases Zd.1 hx with hx|hx
    ·exact h3 x hx
    ·have:=(Y3.1 hx).2
     subst this;exact f2
   ·obtain ⟨j,g0,g1,g2⟩:=h5 l hr hlen he
    obtain ⟨rfl,_⟩:=ai.mk.inj g2;obtain ⟨q1,q2,q3⟩:=oa (l:=l)
    have hj:j<(bS l).length:=by
     rcases Nat.lt_or_ge j (bS l).length with h|h
     ·exact h
     ·rw [Xi h,q3] at g1
      rw [g1] at hlt;omega
    have hd:y9 ((bS l).drop j)=(bS l)[j].fMany::(bp (bS l)[j].fValue++y9 ((bS l).drop (j+1))):=by
     unfold y9;rw [Zh hj,Zx];rfl
    have hm1:=q1 _ (Z2 hj)
    have hr4:((cn:Int)::r1.fB=(bS l)[j].fMany::(bp (bS l)[j].fValue++y9 ((bS l).drop (j+1))))∧r1.fOk=true:=by
     rcases hr3 with h|⟨h,h'⟩
     ·exfalso
      rw [hd,uH] at e1;rw [←(Prod.mk.inj e1).2] at h;cases h
     ·rw [←hd, ←h];exact ⟨rfl,h'⟩
    obtain ⟨hr5,hr6⟩:=hr4;obtain ⟨hc1,hr7⟩:=List.cons.inj hr5;obtain ⟨r1b,r1o⟩:=r1;dsimp only at*;subst hr6;have hv:=wj (hr _ hm1.2.2) (ok:=true) hr7 hr1 hr2;rw [hv] at f1;obtain ⟨rfl,rfl⟩:=Prod.mk.inj (Option.some.inj f1);refine ⟨j+1,by omega,?_,by simp⟩;have hel:=za hj;have hsp:=wm (bS l) (j+1);rw [q3,hel, ←g1] at hsp;have:=congrArg List.length hsp;simp only [Z3,Xn] at this;rw [hel, ←g1];congr 2;omega
   ·dsimp only
    rcases hr3 with h|⟨h,h'⟩
    ·rw [if_neg (by rw [f5 h];decide)];simp
    ·have:=congrArg List.length h
     simp only [Z7] at this;simp only [if_true];split<;>omega
 ·right
  rw [if_neg (by simp;omega),if_neg (by decide)];exact ⟨_,rfl,hend (.inl (by omega))⟩
theorem zb {r:ai} (hb:Byt r.fB):fS r=some (if r.fB.length<8 then (0,⟨[],false⟩) else (ej (r.fB.take 8),⟨r.fB.drop 8,r.fOk⟩)):=by
 have key: ∀(t:List Int) (r':ai),Byt t→t.length=8→aq (fun s:(Int×Int)=>gj (t,r') s.1 s.2) (0,0)=some (ej t,r'):=by
  intro t r' ht hl;refine aU (fun i=>(ej (t.take i),(i:Int))) 8 (by simp [ej]) (fun i hi=> ?_) ?_
  ·dsimp only
   unfold gj;have hi':i<t.length:=by omega
   have hbd:=zO (t.take i) (ht.take i);have hci:=ht t[i] (Z2 hi')
   have hp:(256:Int)^(t.take i).length≤256^7:=by
    have:(t.take i).length≤7:=by simp;omega
    have h9:=Xo (show 0<256 by omega) this;have h8:=Int.ofNat_le.2 h9;simpa [Xt] using h8
   have hsh:=yZ (x:=ej (t.take i)) (k:=8) (by omega);rw [show ((8:Nat):Int)=8 from rfl] at hsh
   have e:ej (t.take (i+1))=ej (t.take i)*256+t[i]:=by
    rw [Z1 hi',tz]
   have e1:ej (t.take i)*2^8%18446744073709551616=ej (t.take i)*2^8:=by omega
   have e2:t[i]%18446744073709551616=t[i]:=by omega
   dsimp only;rw [if_pos (decide_eq_true (by omega)),ay hi',Z0,aT (by omega),hsh,bA,e,e1,e2,GC 8 (by omega) (by omega) (by omega) (by omega)]
   rfl
  ·unfold gj mz
   dsimp only;rw [if_neg (by rw [hl];simp),Xi (by omega)];rfl
 unfold fS;have h8:=zT (r:=r) (n:=8) (by omega);rw [show ((8:Nat):Int)=8 from rfl] at h8;rw [h8,Z0]
 by_cases h:r.fB.length<8
 ·rw [if_pos h,if_pos h,key _ _ (fun c hc=>by rw [Y5 hc];decide) (by simp)];rfl
 ·rw [if_neg h,if_neg h,key _ _ (hb.take _) (by simp;omega)]
theorem GM {r:ai} (hb:Byt r.fB): ∃x,eR r=some x∧(Byt x.2.fB∧x.2.fB.length≤r.fB.length):=by
 unfold eR;refine gg (I:=fun s:Int×Int×ai=> ∃k:Nat,s.2.1=(k:Int)∧k≤76∧Byt s.2.2.fB∧s.2.2.fB.length≤r.fB.length) (μ:=fun s=>77 - s.2.1.toNat) (Q:=fun x:Int×ai=>Byt x.2.fB∧x.2.fB.length≤r.fB.length) ?_ ⟨0,rfl,by omega,hb,Zn _⟩;rintro ⟨z,_,r1⟩ ⟨k,rfl,hk,h1,h2⟩;dsimp only at*;unfold jH gJ mQ
 by_cases h70:(k:Int)<70
 ·rw [if_pos (decide_eq_true h70)]
  cases hok:r1.fOk with
  |false=>right;exact ⟨_,rfl,h1,h2⟩
  | true =>
   rw [if_pos rfl,take_one,Z0];obtain ⟨c,r2,e1,hc,hr1,hr2,_⟩:=xf r1 h1;rw [e1];dsimp only;rw [dF,Z0,tY,Z0]
   by_cases h128:c<128
   ·right;rw [if_pos (decide_eq_true h128)];exact ⟨_,rfl,hr1,by dsimp only;omega⟩
   ·left;rw [if_neg (by simpa using h128)]
    refine ⟨_,rfl,⟨k+7,?_,by omega,hr1,by dsimp only;omega⟩,?_⟩
    ·dsimp only;rw [ak (by omega)];rfl
    ·dsimp only;rw [ak (by omega)];omega
 ·right;rw [if_neg (by simpa using h70),if_neg (by decide)];exact ⟨_,rfl,h1,h2⟩
theorem LT: ∀n:_root_.Fin 256,n.val&&&127=n.val%128:=by decide+kernel
theorem Fo (q:Nat): ∃(c:Nat) (t:List Int),fc q=(c:Int)::t∧c<256∧c%128=q%128∧((c<128∧q<128∧t=[])∨(128≤c∧128≤q∧t=fc (q/128))):=by
 by_cases h:q<128
 ·exact ⟨q,[],pw h,by omega,rfl,.inl ⟨h,h,rfl⟩⟩
 ·exact ⟨q%128+128,_,rO h,by omega,by omega,.inr ⟨by omega,by omega,rfl⟩⟩
theorem GN {z:Nat} (hz:z<18446744073709551616) (rest:List Int):eR ⟨fc z++rest,true⟩=some ((z:Int),⟨rest,true⟩):=by
 unfold eR;have h64:(2:Nat)^64=18446744073709551616:=by decide
 refine n8 (I:=fun s:Int×Int×ai=> ∃i:Nat,i≤9∧s=(((z%2^(7*i):Nat):Int),((7*i:Nat):Int),⟨fc (z/2^(7*i))++rest,true⟩)) (μ:=fun s=>77 - s.2.1.toNat) ?_ ⟨0,by omega,by simp [Nat.mod_one]⟩;rintro _ ⟨i,hi,rfl⟩;dsimp only;unfold jH gJ;obtain ⟨c,t,e1,hc,hcm,hcase⟩:=Fo (z/2^(7*i))
 have hqz:2^(7*i)*(z/2^(7*i)%128)+z%2^(7*i)≤z:=by
  have h1:=Nat.div_add_mod z (2^(7*i));have h2:2^(7*i)*(z/2^(7*i)%128)≤2^(7*i)*(z/2^(7*i)):=Nat.mul_le_mul_left _ (Nat.mod_le _ _);omega
 have hnext:z%2^(7*(i+1))=2^(7*i)*(z/2^(7*i)%128)+z%2^(7*i):=by
  rw [show 7*(i+1)=7*i+7 by omega,Nat.pow_add,Nat.mod_mul,show (2:Nat)^7=128 from rfl];omega
 have hdiv:z/2^(7*(i+1))=z/2^(7*i)/128:=by
  rw [show 7*(i+1)=7*i+7 by omega,Nat.pow_add,Nat.div_div_eq_div_mul]
 have hlt:z%2^(7*i)<2^(7*i):=Nat.mod_lt _ (Nat.pow_pos (by decide))
 have hor:bOr .u64 ((z%2^(7*i):Nat):Int) (eh .u64 (X6.wrap (c9 .u8 (c:Int) 127)) ((7*i:Nat):Int))=((z%2^(7*(i+1)):Nat):Int):=by
  have h1:c9 .u8 (c:Int) 127=((c%128:Nat):Int):=by
   have:=LT ⟨c,hc⟩;simp only at this;rw [show (127:Int)=((127:Nat):Int) from rfl,LL hc (by omega),this]
  rw [h1,hcm,bA,yZ (by omega)]
  have h2:(((z/2^(7*i)%128:Nat):Int))%18446744073709551616=((z/2^(7*i)%128:Nat):Int):=by
   generalize z/2^(7*i)=q;omega
  have h3:(((z/2^(7*i)%128:Nat):Int))*2^(7*i)=((2^(7*i)*(z/2^(7*i)%128):Nat):Int):=by
   rw [Int.natCast_mul,Xt,Int.mul_comm];rfl
  rw [h2,h3]
  have h4:((2^(7*i)*(z/2^(7*i)%128):Nat):Int)%18446744073709551616=((2^(7*i)*(z/2^(7*i)%128):Nat):Int):=by
   generalize 2^(7*i)*(z/2^(7*i)%128)=u at*;omega
  rw [h4,IA (by omega) (by omega),Nat.or_comm, ←Xr hlt,hnext]
 rw [if_pos (decide_eq_true (by omega)),if_pos rfl,take_one,Z0,e1,Xc,uH];dsimp only;rw [dF,Z0,tY,Z0,hor];rcases hcase with ⟨g1,g2,rfl⟩|⟨g1,g2,rfl⟩
 ·right
  rw [if_pos (decide_eq_true (by omega))]
  have:z%2^(7*(i+1))=z:=by
   apply Nat.mod_eq_of_lt;rw [show 7*(i+1)=7*i+7 by omega,Nat.pow_add,Nat.mul_comm];have:=(Nat.div_lt_iff_lt_mul (Nat.pow_pos (n:=7*i) (show 0<2 by decide))).1 g2;exact this
  rw [this];rfl
 ·left
  rw [if_neg (by simp;omega)];refine ⟨_,rfl,⟨i+1,?_,?_⟩,?_⟩
  ·have h1:128*2^(7*i)≤z:=(Nat.le_div_iff_mul_le (Nat.pow_pos (by decide))).1 g2
   rcases Nat.lt_or_ge i 9 with h|h
   ·omega
   ·have:i=9:=by omega
    subst this;have:(128:Nat)*2^(7*9)=1180591620717411303424:=by decide
    omega
  ·rw [hdiv,ak (by omega)]
   congr 2
  ·dsimp only;rw [ak (by omega)];omega
theorem Kv {a:Int} (ha:cT a):dO .i64 a (-1)= -a - 1∧dO .i64 a 0=a:=by
 unfold dO;rw [i8,i8]
 have hb:((Ze 64 a).toNat:Int)=a%18446744073709551616:=by
  rw [Zm];omega
 constructor
 ·show (((Ze 64 a^^^Ze 64 (-1)).toNat:Nat)+9223372036854775808:Int)%18446744073709551616 - 9223372036854775808=_
  have h2:Ze 64 (-1)=BitVec.allOnes 64:=by decide
  rw [h2,BitVec.xor_allOnes,BitVec.toNat_not];have:=(Ze 64 a).isLt;have e:(2:Nat)^64=18446744073709551616:=by decide
  unfold cT at ha;omega
 ·show (((Ze 64 a^^^Ze 64 0).toNat:Nat)+9223372036854775808:Int)%18446744073709551616 - 9223372036854775808=_
  have h2:Ze 64 0=0#64:=by decide
  rw [h2,BitVec.xor_zero];unfold cT at ha;omega
theorem PI {d:Int} (h:cT d):dO .i64 (Zb.wrap (aA .u64 (zig d:Int) 1)) (Zb.wrap (0 - (Zb.wrap (c9 .u64 (zig d:Int) 1))))=d:=by
 have hz:=nf h;have h1:aA .u64 (zig d:Int) 1=((zig d/2:Nat):Int):=by have:=pT (x:=(zig d:Int)) (k:=1) (by omega);simpa using this
 have h2:c9 .u64 (zig d:Int) 1=((zig d%2:Nat):Int):=by
  rw [show (1:Int)=((1:Nat):Int) from rfl,Jt hz (by omega),Nat.and_one_is_mod]
 rw [h1,h2,ak (n:=((zig d/2:Nat):Int)) (by omega),ak (n:=((zig d%2:Nat):Int)) (by omega)];have hr:cT ((zig d/2:Nat):Int):=by unfold cT;omega
 obtain ⟨g1,g2⟩:=Kv hr;unfold zig at*
 by_cases hd:d<0
 ·rw [if_pos hd] at*
  have:(0 - (((-2*d - 1).toNat%2:Nat):Int))= -1:=by omega
  rw [this,show Zb.wrap (-1)= -1 from by decide,g1];omega
 ·rw [if_neg hd] at*
  have:(0 - (((2*d).toNat%2:Nat):Int))=0:=by omega
  rw [this,show Zb.wrap 0=0 from by decide,g2];omega
theorem GO {n m:Int} (h:cT m):Zb.wrap (n+Zb.wrap (m - n))=m:=by
 rw [i8,i8];unfold cT at h;omega
theorem Kw {v:Ap} (h:Rgt v) (hk:v.fKind=2):v=iA v.fInt:=by
 cases h<;>first|rfl|(simp at hk)
theorem sN {l:List Ap} (h:jz l=true) (hr: ∀v∈l,Rgt v): ∀v∈l,v=iA v.fInt∧cT v.fInt:=fun v hv=>by
 have:=List.all_eq_true.1 h v hv;exact ⟨Kw (hr v hv) (by simpa using this),(hr v hv).ok.int⟩
theorem DO {b:List Int} {many:Nat} (hb:Byt b) (hl:b.length<140737488355328) (hm:1≤many∧many≤64): ∃x,bR ⟨b,true⟩ 2 (many:Int)=some x∧jQ 2 b many x:=by
 unfold bR;rw [if_neg (by decide),if_neg (by decide),if_pos (by decide),zb hb,Z0];unfold eo;rw [Z0,aF (by simp),Z0];generalize hx:(if ({ fB:=b,fOk:=true }:ai).fB.length<8 then ((0:Int),({ fB:=[],fOk:=false }:ai)) else (ej (({ fB:=b,fOk:=true }:ai).fB.take 8),⟨({ fB:=b,fOk:=true }:ai).fB.drop 8,true⟩))=x0
 have hx1:Byt x0.2.fB∧x0.2.fB.length<140737488355328:=by
  rw [←hx];dsimp only;split
  ·exact ⟨.nil,by simp⟩
  ·exact ⟨hb.drop _,by simp;omega⟩
 refine gg (I:=fun s:List Ap×Int×ai=>Byt s.2.2.fB∧s.2.2.fB.length<140737488355328∧(∀v∈s.1,VOK v)∧s.1.length≤many∧ ∀l:List Ap,(∀v∈l,Rgt v)→l.length=many→jz l=true→b=ng (l.map (·.fInt))→ ∃k,s.1.length=k+1∧s.1=l.take (k+1)∧s.2.1=(l.map (·.fInt)).getD k 0∧s.2.2=⟨((Zw (many - 1)).drop k).flatMap (jy (l.map (·.fInt))),true⟩) (μ:=fun s=>many - s.1.length) (Q:=jQ 2 b many) ?_ ⟨hx1.1,hx1.2,fun v hv=> ?_,by simp;omega,fun l hr hlen hi he=> ?_⟩
 ·rintro ⟨acc,n,r⟩ ⟨h1,h2,h3,h4,h5⟩
  dsimp only at*
  have hend:acc.length=many∨r.fOk=false→jQ 2 b many (acc,r):=fun h=>⟨h3,by dsimp only;omega,fun l hr hlen he=>by
   obtain ⟨_,_,_,hi,he⟩:=fh he
   have he':b=ng (l.map (·.fInt)):=by
    rcases he with ⟨e,_⟩|⟨_,e⟩
    ·subst e;simp at hlen;omega
    ·exact e
   obtain ⟨k,g1,g2,g3,g4⟩:=h5 l hr hlen (hi (.inl rfl)) he';subst g4;rcases h with h|h
   ·rw [←g1,h, ←hlen,Z4] at g2;exact ⟨g2,rfl⟩
   ·cases h⟩
  unfold mT jK cg
  by_cases hlt:acc.length<many
  ·rw [if_pos (decide_eq_true (by omega))]
   cases hok:r.fOk with
   |false=>right;exact ⟨_,rfl,hend (.inr hok)⟩
   | true =>
    left;rw [if_pos rfl];obtain ⟨⟨z,r'⟩,e1,e2,e3⟩:=GM h1;rw [e1,Z0];unfold eo;rw [Z0,aF (by simp;omega),Z0];dsimp only at e2 e3 ⊢;refine ⟨_,rfl,⟨e2,by dsimp only;omega,fun x hx=> ?_,by simp;omega,fun l hr hlen hi he=> ?_⟩,by simp;omega⟩
    ·rcases Zd.1 hx with hx|hx
     ·exact h3 x hx
     ·have:x=iA (Zb.wrap (n+(dO .i64 (Zb.wrap (aA .u64 z 1)) (Zb.wrap (0 - (Zb.wrap (c9 .u64 z 1))))))):=by simpa using hx
      subst this;exact (Rgt.int _ (k8 _)).ok
    ·obtain ⟨k,g1,g2,g3,g4⟩:=h5 l hr hlen hi he
     have hk:k+1<l.length:=by omega
     have hin:=sN hi hr;have hns: ∀i (h:i<l.length),(l.map (·.fInt)).getD i 0=l[i].fInt:=fun i h=>by rw [zY (by simpa using h)];simp
     have hd:(Zw (many - 1)).drop k=k::(Zw (many - 1)).drop (k+1):=by
      rw [Zh (by simp;omega)];simp
     rw [hd,Zx] at g4
     have hds:jy (l.map (·.fInt)) k=fc (zig (Zb.wrap (l[k+1].fInt - l[k].fInt))):=by
      unfold jy;rw [hns _ hk,hns _ (by omega)]
     rw [hds] at g4;rw [g4,GN (nf (k8 _))] at e1;obtain ⟨rfl,rfl⟩:=Prod.mk.inj (Option.some.inj e1);rw [PI (k8 _),g3,hns _ (by omega),GO (hin _ (Z2 hk)).2];refine ⟨k+1,by simp;omega,?_,(hns _ hk).symm,rfl⟩;dsimp only;rw [Z1 hk,g2];congr 2;exact (hin _ (Z2 hk)).1.symm
  ·right
   rw [if_neg (by simp;omega),if_neg (by decide)];exact ⟨_,rfl,hend (.inl (by omega))⟩
 ·have:v=iA (Zb.wrap x0.1):=by simpa using hv
  subst this;exact (Rgt.int _ (k8 _)).ok
 ·have h0:0<l.length:=by omega
  have hin:=sN hi hr;have hns: ∀i (h:i<l.length),(l.map (·.fInt)).getD i 0=l[i].fInt:=fun i h=>by rw [zY (by simpa using h)];simp
  have h64:=(hin _ (Z2 h0)).2
  have hb8:b=be8 (l[0].fInt%18446744073709551616)++(Zw (many - 1)).flatMap (jy (l.map (·.fInt))):=by
   rw [he];unfold ng;rw [hns 0 h0,Zp,hlen]
  have hlen8: ¬ b.length<8:=by rw [hb8];simp [b9]
  dsimp only at hx;rw [if_neg hlen8] at hx;have h1:b.take 8=be8 (l[0].fInt%18446744073709551616):=by rw [hb8];exact Xj (b9 _)
  have h2:b.drop 8=(Zw (many - 1)).flatMap (jy (l.map (·.fInt))):=by rw [hb8];exact List.drop_left' (b9 _)
  rw [h1,h2,ye (by omega) (by omega)] at hx;subst hx;refine ⟨0,rfl,?_,?_,rfl⟩
  ·dsimp only
   rw [Z1 h0,yf h64];simp only [List.take_zero,Zz];congr 1;exact (hin _ (Z2 h0)).1.symm
  ·dsimp only;rw [hns 0 h0,yf h64]
theorem A5 (r:ai) (many w:Nat):(rM r many w).1.length=many∧(∀x∈(rM r many w).1,∃n:Nat,x=(n:Int)∧n<18446744073709551616):=by
  unfold rM;split
  · exact ⟨by simp,fun x hx=>⟨0,(Y3.1 hx).2,by decide⟩⟩
  split
  · exact ⟨by simp,fun x hx=>⟨0,(Y3.1 hx).2,by decide⟩⟩
  · rename_i h _
    refine ⟨by simp,fun x hx=> ?_⟩;obtain ⟨i,_,rfl⟩:=X3.1 hx;refine ⟨_,rfl,?_⟩;have h1:=mn (fun k=>en r.fB (i*w+k)) w;have h2:(2:Nat)^w≤2^64:=Xo (by decide) (by omega);have h3:(2:Nat)^64=18446744073709551616:=by decide
    unfold unp;omega
theorem xH {pl:List Int} {w:Nat} (hw:w≤64) (h: ∀x∈pl,0≤x∧x<2^w):rM ⟨cI pl w,true⟩ pl.length w=(pl,⟨[],true⟩):=by
  have hl:(cI pl w).length=(pl.length*w+7)/8:=fw _ _ _;unfold rM;rw [if_neg (by omega),if_neg (by dsimp only;omega)];dsimp only;congr 1
  · apply List.ext_getElem
    · simp
    · intro i h1 h2
      have:=Fg pl w i [] h2 (h _ (Z2 h2));rw [Xk] at this;simp [this]
  · rw [←hl,List.drop_length]
theorem Fp {b : List Int} {many : Nat} (hb : Byt b) (hl : b.length < 140737488355328) (hm : 1 ≤ many ∧ many ≤ 64) : ∃ x, bR ⟨b, true⟩ 3 (many : Int) = some x ∧ jQ 3 b many x := by
  unfold bR;rw [if_neg (by decide),if_neg (by decide),if_neg (by decide),if_pos (by decide),take_one,Z0];obtain ⟨c,r1,e1,hc,hr1,hr2,hr3⟩:=xf ⟨b,true⟩ hb;rw [e1];dsimp only at*;rw [dF,Z0];obtain ⟨cn,rfl⟩:=Zc hc.1
  refine gg (I:=fun s:List Ap×Int×ai=>Byt s.2.2.fB∧s.2.2.fB.length<140737488355328∧(∀v∈s.1,Rgt v)∧s.1.length≤cn∧s.2.1=(s.1.length:Int)∧ ∀l:List Ap,(∀v∈l,Rgt v)→l.length=many→b=nL l→s.1=(aL l).take s.1.length∧cn=(aL l).length∧s.2.2=⟨((aL l).drop s.1.length).flatMap bp++cI (l.map fun v=>(fd (aL l) v:Int)) (wid ((aL l).length - 1)),true⟩) (μ:=fun s=>cn - s.1.length) (Q:=jQ 3 b many) ?_ ⟨hr1,by dsimp only;omega,by simp,by simp,rfl,fun l hr hlen he=> ?_⟩
  · rintro ⟨W, wn, r⟩ ⟨h1, h2, h3, h4, hwn, h5⟩
    dsimp only at*;subst hwn;unfold mV
    by_cases hlt:W.length<cn
    · left
      rw [if_pos (decide_eq_true (by omega))];obtain ⟨v,r',f1,f2,f3,f4,f5⟩:=wk h1 h2;rw [f1,Z0,aF (by simp;omega),Z0];refine ⟨_,rfl,⟨f3,by dsimp only;omega,fun x hx=> ?_,by simp;omega,?_,fun l hr hlen he=> ?_⟩,by simp;omega⟩
      · rcases Zd.1 hx with hx | hx
        · exact h3 x hx
        · have : x = v := by simpa using hx
          subst this;exact f2
      · dsimp only;rw [bh];simp;omega
      · obtain ⟨g1, g2, g3⟩ := h5 l hr hlen he
        have hk:W.length<(aL l).length:=by omega
        obtain ⟨w1,w2,w3⟩:=fa hr;rw [Zh hk,Zx,Zj] at g3;subst g3;have hv:=wj (hr _ ((w2 _).1 (Z2 hk))) (ok:=true) rfl h1 h2;rw [hv] at f1;obtain ⟨rfl,rfl⟩:=Prod.mk.inj (Option.some.inj f1);refine ⟨?_,g2,by simp⟩;simp only [Z3,Z6];rw [Z1 hk, ←g1]
    · right
      rw [if_neg (by simp;omega)];unfold mU
      have hmx:X6.wrap (Zb.wrap ((if (W.length:Int)<1 then 1 else (W.length:Int)) - 1))=((W.length - 1:Nat):Int):=by
        rw [ak (by split<;>omega),bA];split<;>omega
      have hwid:wid (W.length - 1)≤64:=oP (Zt (show W.length - 1<256 by omega) (by decide));rw [hmx,len_eq (by omega),Z0,xG h1 (by omega),Z0];obtain ⟨u1,u2⟩:=A5 r many (wid (W.length - 1))
      have hex: ∀l:List Ap,(∀v∈l,Rgt v)→l.length=many→b=nL l→W=aL l∧rM r many (wid (W.length - 1))=(l.map (fun v=>(fd (aL l) v:Int)),⟨[],true⟩):=fun l hr hlen he=>by
        obtain ⟨g1,g2,g3⟩:=h5 l hr hlen he;obtain ⟨w1,w2,w3⟩:=fa hr;have e2:W.length=(aL l).length:=by omega
        rw [e2,Z4] at g1;refine ⟨g1,?_⟩;rw [e2,List.drop_length] at g3;simp only [List.flatMap_nil,Zz] at g3;rw [g3,e2, ←hlen]
        have:=xH (pl:=l.map fun v=>(fd (aL l) v:Int)) (w:=wid ((aL l).length - 1)) (by rw [←e2];exact hwid) (fun x hx=>by
          obtain ⟨v,hv,rfl⟩:=X3.1 hx;have hp:=nQ ((w2 v).2 hv);have hw2:=CL ((aL l).length - 1);refine ⟨by omega,?_⟩;have:((fd (aL l) v:Nat):Int)<((2^wid ((aL l).length - 1):Nat):Int):=Int.ofNat_lt.2 (by omega)
          rwa [Xt] at this)
        rw [Zp] at this;exact this
      generalize rM r many (wid (W.length - 1))=U at*;obtain ⟨pl,r2⟩:=U;dsimp only at*
      have hin: ∃x,aq (fun s:(List Ap×Int)=>jL W (pl,r2) s.1 s.2) ([],0)=some x∧jQ 3 b many x:=by
        refine gg (I:=fun s:List Ap×Int=>(∀v∈s.1,Rgt v)∧s.1.length≤many∧s.2=(s.1.length:Int)∧ ∀l:List Ap,(∀v∈l,Rgt v)→l.length=many→b=nL l→s.1=l.take s.1.length) (μ:=fun s=>many - s.1.length) (Q:=jQ 3 b many) ?_ ⟨by simp,by simp,rfl,fun l _ _ _=>by simp⟩;rintro ⟨acc,an⟩ ⟨k1,k2,han,k3⟩;dsimp only at*;subst han;unfold jL cg;dsimp only
        by_cases hlt2:acc.length<many
        · have hi : acc.length < pl.length := by omega
          obtain ⟨n,hn1,hn2⟩:=u2 _ (Z2 hi);have e3:X6.wrap (W.length:Int)=(W.length:Int):=by rw [bA];omega
          rw [if_pos (decide_eq_true (by omega)),ay hi,Z0,e3,hn1]
          by_cases hge:W.length≤n
          · right
            rw [if_pos (decide_eq_true (by omega))];refine ⟨_,rfl,by simp,by simp,fun l hr hlen he=> ?_⟩;exfalso;obtain ⟨_,_,_,_,he⟩:=fh he
            have he':b=nL l:=by
              rcases he with ⟨e,_⟩|⟨_,e⟩
              · subst e;simp at hlen;omega
              · exact e
            obtain ⟨g1,g2⟩:=hex l hr hlen he';obtain ⟨rfl,_⟩:=Prod.mk.inj g2;have hp:=nQ (((fa hr).2.1 _).2 (Z2 (show acc.length<l.length by omega)));simp only [List.getElem_map] at hn1;rw [g1] at hge;omega
          · left
            rw [if_neg (by simp;omega),ay (by omega),Z0,aF (by simp;omega),Z0];refine ⟨_,rfl,⟨fun x hx=> ?_,by simp;omega,?_,fun l hr hlen he=> ?_⟩,by simp;omega⟩
            · rcases Zd.1 hx with hx | hx
              · exact k1 x hx
              · have : x = W[n] := by simpa using hx
                subst this;exact h3 _ (Z2 _)
            · dsimp only;rw [aT (by omega)];simp
            · have q := k3 l hr hlen he
              obtain ⟨g1,g2⟩:=hex l hr hlen he;obtain ⟨rfl,_⟩:=Prod.mk.inj g2;have hk:acc.length<l.length:=by omega
              have hmem:=((fa hr).2.1 _).2 (Z2 hk);simp only [List.getElem_map] at hn1;have hnp:n=fd (aL l) l[acc.length]:=by omega
              subst g1;subst hnp;dsimp only;simp only [Z3,Z6];rw [Z1 hk, ←q,yj hmem]
        · right
          rw [if_neg (by simp;omega)];refine ⟨_,rfl,fun v hv=>(k1 v hv).ok,by dsimp only;omega,fun l hr hlen he=> ?_⟩;obtain ⟨_,_,_,_,he⟩:=fh he
          have he':b=nL l:=by
            rcases he with ⟨e,_⟩|⟨_,e⟩
            · subst e;simp at hlen;omega
            · exact e
          have q:=k3 l hr hlen he';obtain ⟨g1,g2⟩:=hex l hr hlen he';obtain ⟨_,rfl⟩:=Prod.mk.inj g2;have:acc.length=l.length:=by omega
          rw [this,Z4] at q;exact ⟨q,rfl⟩
      obtain ⟨x,hx1,hx2⟩:=hin;rw [hx1];exact ⟨x,rfl,hx2⟩
  · obtain ⟨w1, w2, w3⟩ := fa hr
    have hcons:b=(((aL l).length:Nat):Int)::((aL l).flatMap bp++cI (l.map fun v=>(fd (aL l) v:Int)) (wid ((aL l).length - 1))):=he;subst hcons;rw [uH] at e1;obtain ⟨e2,e3⟩:=Prod.mk.inj e1;refine ⟨by simp,?_,?_⟩
    · have:=(List.cons.inj e2).1;omega
    · rw [←e3];rfl
theorem Fq {b : List Int} {many : Nat} {kind : Int} (hk : kind ≠ 0 ∧ kind ≠ 1 ∧ kind ≠ 2 ∧ kind ≠ 3) (hb : Byt b) (hm : 1 ≤ many ∧ many ≤ 64) : ∃ x, bR ⟨b, true⟩ kind (many : Int) = some x ∧ jQ kind b many x := by
  unfold bR;rw [if_neg (by simpa using hk.1),if_neg (by simpa using hk.2.1),if_neg (by simpa using hk.2.2.1),if_neg (by simpa using hk.2.2.2),zb hb,Z0];dsimp only;generalize hx:(if b.length<8 then ((0:Int),({ fB:=[],fOk:=false }:ai)) else (ej (b.take 8),⟨b.drop 8,true⟩))=x0
  have hx1:Byt x0.2.fB:=by
    rw [←hx];split
    · exact .nil
    · exact hb.drop _
  rw [take_one,Z0];obtain ⟨c,r1,e1,hc,hr1,hr2,hr3⟩:=xf x0.2 hx1;rw [e1];dsimp only;obtain ⟨cn,rfl⟩:=Zc hc.1;rw [dF,Z0,ak (by omega),xG hr1 (by omega),Z0];obtain ⟨u1,u2⟩:=A5 r1 many cn
  have hex: ∀l:List Ap,(∀v∈l,Rgt v)→l.length=many→jz l=true→b=nh (l.map (·.fInt))→x0.1=jM (l.map (·.fInt))%18446744073709551616∧rM r1 many cn=(bL (l.map (·.fInt)),⟨[],true⟩):=fun l hr hlen hi he=>by
    have hin:=sN hi hr;have h': ∀x∈l.map (·.fInt),cT x:=fun x hx=>by obtain ⟨v,hv,rfl⟩:=X3.1 hx;exact (hin v hv).2
    have hu:=oc h';obtain ⟨hw,hw2⟩:=lq hu
    have he2:b=be8 (jM (l.map (·.fInt))%18446744073709551616)++((dH (bL (l.map (·.fInt))):Nat):Int)::cI (bL (l.map (·.fInt))) (dH (bL (l.map (·.fInt)))):=by
      rw [he];unfold nh;simp
    have h8: ¬ b.length<8:=by rw [he2];simp [b9]
    rw [if_neg h8] at hx;have h1:b.take 8=be8 (jM (l.map (·.fInt))%18446744073709551616):=by rw [he2];exact Xj (b9 _)
    have h2:b.drop 8=((dH (bL (l.map (·.fInt))):Nat):Int)::cI (bL (l.map (·.fInt))) (dH (bL (l.map (·.fInt)))):=by rw [he2];exact List.drop_left' (b9 _)
    rw [h1,h2,ye (by omega) (by omega)] at hx;subst hx;dsimp only at e1;rw [uH] at e1;obtain ⟨e3,e4⟩:=Prod.mk.inj e1;have e5:cn=dH (bL (l.map (·.fInt))):=by have:=(List.cons.inj e3).1;omega
    subst e4;refine ⟨rfl,?_⟩
    have:=xH (pl:=bL (l.map (·.fInt))) (w:=dH (bL (l.map (·.fInt)))) hw (fun x hx=>by
      have h3:=hu x hx;have h4:=CL x.toNat;have h5:=hw2 x hx;have h6:(2:Nat)^wid x.toNat≤2^dH (bL (l.map (·.fInt))):=Xo (by decide) h5;refine ⟨h3.1,?_⟩;have:((x.toNat:Nat):Int)<((2^dH (bL (l.map (·.fInt))):Nat):Int):=Int.ofNat_lt.2 (by omega);rw [Xt] at this;have e:((x.toNat:Nat):Int)=x:=by omega
      rw [e] at this
      exact this)
    have hal:(bL (l.map (·.fInt))).length=many:=by simp [bL,hlen]
    rw [hal] at this;rw [e5];exact this
  generalize rM r1 many cn=U at*;obtain ⟨pl,r2⟩:=U;obtain ⟨n0,rn⟩:=x0;dsimp only at*;refine gg (I:=fun s:List Ap×Int=>(∀v∈s.1,Rgt v)∧s.1.length≤many∧s.2=(s.1.length:Int)∧ ∀l:List Ap,(∀v∈l,Rgt v)→l.length=many→jz l=true→b=nh (l.map (·.fInt))→s.1=l.take s.1.length) (μ:=fun s=>many - s.1.length) (Q:=jQ kind b many) ?_ ⟨by simp,by simp,rfl,fun l _ _ _ _=>by simp⟩;rintro ⟨acc,an⟩ ⟨k1,k2,han,k3⟩;dsimp only at*;subst han;unfold mW cg;dsimp only
  by_cases hlt2:acc.length<many
  · have hi : acc.length < pl.length := by omega
    left;unfold eo;rw [if_pos (decide_eq_true (by omega)),ay hi,Z0,Z0,aF (by simp;omega),Z0];refine ⟨_,rfl,⟨fun x hx=> ?_,by simp;omega,?_,fun l hr hlen hi2 he=> ?_⟩,by simp;omega⟩
    · rcases Zd.1 hx with hx | hx
      · exact k1 x hx
      · have : x = iA (Zb.wrap (X6.wrap (n0 + pl[acc.length]))) := by simpa using hx
        subst this;exact .int _ (k8 _)
    · dsimp only;rw [aT (by omega)];simp
    · have q := k3 l hr hlen hi2 he
      obtain ⟨g1,g2⟩:=hex l hr hlen hi2 he;obtain ⟨rfl,_⟩:=Prod.mk.inj g2;have hin:=sN hi2 hr;have hk:acc.length<l.length:=by omega
      have h1:=hin _ (Z2 hk);dsimp only;simp only [Z3,Z6];rw [Z1 hk, ←q];congr 1
      have e9:Zb.wrap (X6.wrap (n0+(bL (l.map (·.fInt)))[acc.length]))=l[acc.length].fInt:=by
        have:(bL (l.map (·.fInt)))[acc.length]=l[acc.length].fInt - jM (l.map (·.fInt)):=by simp [bL]
        rw [this,g1,bA,i8];have:=h1.2;unfold cT at this;omega
      rw [e9];congr 1;exact h1.1.symm
  · right
    rw [if_neg (by simp;omega)];refine ⟨_,rfl,fun v hv=>(k1 v hv).ok,by dsimp only;omega,fun l hr hlen he=> ?_⟩;obtain ⟨hk5,_,_,hi2,he⟩:=fh he;have hk4:kind=4:=by omega
    subst hk4
    have he':b=nh (l.map (·.fInt)):=by
      rcases he with ⟨e,_⟩|⟨_,e⟩
      · subst e;simp at hlen;omega
      · exact e
    have q:=k3 l hr hlen (hi2 (.inr rfl)) he';obtain ⟨g1,g2⟩:=hex l hr hlen (hi2 (.inr rfl)) he';obtain ⟨_,rfl⟩:=Prod.mk.inj g2;have:acc.length=l.length:=by omega
    rw [this,Z4] at q;exact ⟨q,rfl⟩
theorem A6 {b:List Int} {many:Nat} (kind:Int) (hb:Byt b) (hl:b.length<140737488355328) (hm:1≤many∧many≤64): ∃x,bR ⟨b,true⟩ kind (many:Int)=some x∧jQ kind b many x:=by
  by_cases h0:kind=0
  · subst h0;exact DN hb hl hm
  by_cases h1:kind=1
  · subst h1;exact Fm hb hl hm
  by_cases h2:kind=2
  · subst h2;exact DO hb hl hm
  by_cases h3:kind=3
  · subst h3;exact Fp hb hl hm
  · exact Fq ⟨h0,h1,h2,h3⟩ hb hm
open Option renaming bind_some→Z0,getD_some→Xe,bind_assoc→Y0
open List renaming take_succ_eq_append_getElem→Z1,getElem_mem→Z2,length_append→Z3,take_length→Z4,getElem?_eq_getElem→Z5,length_singleton→Z6,length_cons→Z7,replicate→Z9,eq_nil_of_length_eq_zero→Za,mem_append→Zd,mem_of_mem_take→Zf,take_append_drop→Zg,drop_eq_getElem_cons→Zh,length_pos_iff→Zi,append_assoc→Zj,pairwise_cons→Zk,length_take→Zl,pairwise_append→Zo,length_map→Zp,mem_cons→Zq,getD_eq_getElem?_getD→Zu,range→Zw,flatMap_cons→Zx,foldl_cons→Zy,nil_append→Zz,mem_map→X3,mem_singleton→X5,mem_of_getLast?→X7,pairwise_iff_getElem→X8,getElem?_eq_some_iff→X9,flatMap_append→Xa,cons_append→Xc,drop_zero→Xf,drop_left→Xg,getElem?_drop→Xh,take_of_length_le→Xi,take_left'→Xj,append_nil→Xk,foldl_append→Xl,length_range→Xm,length_replicate→Xn,dropLast_concat_getLast→Xq,getElem?_append_right→Xv,getLast?_eq_none_iff→Xx,getLast?_eq_getElem?→Xy,map_append→Xz,getElem?_append_left→Y1,mem_replicate→Y3,eq_of_mem_replicate→Y5,drop_drop→Y7,flatMap_singleton→Y9,map_cons→Yc,singleton_append→Yd,getElem?_eq_none→Ye,range_succ→Yg,map_nil→Yh
open Nat renaming le_refl→Zn,lt_of_lt_of_le→Zt,mul_le_mul→Zv,strongRecOn→Xb,testBit_xor→Xd,pow_le_pow_right→Xo,eq_of_testBit_eq→Xp,two_pow_add_eq_or_of_lt→Xr,mod_two_eq_zero_or_one→Xu,testBit_succ→Y8,xor_comm→Yj
open Bool renaming false_eq_true→Z8,not_true→Xw,not_false→Y6,not_eq_true→Ya,true_and→Yb
open Int renaming eq_ofNat_of_zero_le→Zc,tmod_eq_emod_of_nonneg→Zr,tdiv_eq_ediv_of_nonneg→Zs,fdiv_eq_ediv_of_nonneg→X4,natCast_pow→Xt,toNat_natCast→Y2,emod_eq_of_lt→Y4,le_of_lt→Yi
open BitVec renaming ofInt→Ze,toNat_ofInt→Zm
open Prod renaming ext→Yk
open IntKind renaming i64→Zb,u64→X6,u32→Xs,u8→Yf
open Classical in
noncomputable def dec (kind:Int) (b:List Int) (many:Int):List Ap×Int:=
 if kind<0∨4<kind then ([],62) else if many<0∨64<many then ([],61) else
 if h: ∃l:List Ap,(∀v∈l,Rgt v)∧(l.length:Int)=many∧enc kind l=(b,0) then (h.choose,0) else ([],60)
theorem CY {a b:List Int} (ha:a.length≤4611686018427387903):fZ a b=some (decide (a=b)):=by
 unfold fZ
 by_cases h:a.length=b.length
 ·rw [if_neg (by simp; omega)]
  have:=uD (f:=fun s:Int=>fR a b s) (a.zip b) (fun p=>p.1==p.2) false true (fun i hi hp=> ?_) (fun i hi hp=> ?_) ?_
  ·rw [this]
   have e:(a.zip b).all (fun p=>p.1==p.2)=decide (a=b):=by
    clear this ha
    induction a generalizing b with
    |nil=>cases b with
     |nil=>rfl
     |cons _ _=>simp at h
    | cons x a ih => cases b with
     |nil=>simp at h
     |cons y b=>
      rw [List.zip_cons_cons,List.all_cons,ih (by simpa using h)]
      by_cases e:x=y
      ·simp [e]
      ·simp [e]
   rw [e];cases decide (a=b)<;>rfl
  ·simp only [List.length_zip] at hi
   simp only [List.getElem_zip,beq_iff_eq] at hp;unfold fR;rw [if_pos (decide_eq_true (by omega)),ay (by omega),Z0,ay (by omega),Z0,if_neg (by simpa using hp),aT (by omega)]
  ·simp only [List.length_zip] at hi
   simp only [List.getElem_zip,beq_eq_false_iff_ne] at hp;unfold fR;rw [if_pos (decide_eq_true (by omega)),ay (by omega),Z0,ay (by omega),Z0,if_pos (by simpa using hp)];rfl
  ·unfold fR oJ
   rw [if_neg (by simp;omega)];rfl
 ·rw [if_pos (by simp;omega)]
  have:a≠b:=fun e=>h (by rw [e]);simp [this]
theorem Bm {kind:Int} {l:List Ap}:(enc kind l).2=0→l.all right=true∧l.length≤64:=fun h=>by
 have:enc kind l=((enc kind l).1,0):=Yk rfl h;obtain ⟨_,h1,h2,_⟩:=fh this;exact ⟨h2,h1⟩
theorem qQ (l:List Int) (w:Nat):(cI l w).length=(l.length*w+7)/8:=fw _ _ _
theorem IM {kind:Int} {l:List Ap} (h: ∀v∈l,Rgt v) (hl:l.length≤64):(qs kind l).length≤100000:=by
 obtain ⟨w1,w2,w3⟩:=fa h;unfold qs;split
 ·obtain ⟨h1,h2,_⟩:=oa (l:=l)
  have:=n9 (bS l) (fun r=>r.fMany::bp r.fValue) 67 fun x hx=>by
   have:=(d5 (h _ (h1 x hx).2.2)).2;simp;omega
  unfold xe;omega
 split
 ·have:=n9 (Zw ((l.map (·.fInt)).length - 1)) (jy (l.map (·.fInt))) 10 fun x _=>lp (nf (k8 _))
  unfold ng;simp only [Z3,b9,Xm,Zp] at*;omega
 split
 ·have h1:=i7 (l:=aL l) fun v hv=>h v ((w2 v).1 hv)
  have hwid:wid ((aL l).length - 1)≤64:=oP (Zt (show (aL l).length - 1<64 by omega) (by decide));have:=Zv hl hwid;unfold nL;simp only [Z7,Z3,qQ,Zp];omega
 split
 ·by_cases hi: ∀x∈l.map (·.fInt),cT x
  ·have hu:=oc hi
   have:=Zv hl (lq hu).1;have hal:(bL (l.map (·.fInt))).length=l.length:=by simp [bL]
   unfold nh;simp only [Z3,b9,Z6,qQ,hal];omega
  ·exfalso
   apply hi;intro x hx;obtain ⟨v,hv,rfl⟩:=X3.1 hx;exact (h v hv).ok.int
 ·have:=i7 h
  unfold oQ;omega
theorem Em (kind:Int) {l:List Ap} (h: ∀v∈l,VOK v):(enc kind l).1.length≤100000:=by
 unfold enc
 repeat' split
 all_goals first|exact Nat.zero_le _|skip
 rename_i h2 h3 _ _;exact IM (ra h (by simpa using h3)) (by omega)
theorem GP {kind:Int} {b:List Int} {many:Nat} {g:List Ap} {ok:Bool} (hk:0≤kind∧kind≤4) (hm:many≤64) (hg: ∀v∈g,VOK v) (hx: ∀l:List Ap,(∀v∈l,Rgt v)→l.length=many→enc kind l=(b,0)→g=l∧ok=true):
  (if (!ok)=true∨(enc kind g).2≠0∨g.length≠many∨(enc kind g).1≠b then ([],60) else (g,0))=dec kind b (many:Int):=by
 unfold dec;rw [if_neg (show ¬ (kind<0∨4<kind) by omega),if_neg (show ¬ ((many:Int)<0∨64<(many:Int)) by omega)]
 by_cases h: ∃l:List Ap,(∀v∈l,Rgt v)∧(l.length:Int)=(many:Int)∧enc kind l=(b,0)
 ·rw [dif_pos h]
  obtain ⟨c1,c2,c3⟩:=h.choose_spec;obtain ⟨e1,e2⟩:=hx _ c1 (by omega) c3;rw [←e1] at c2 c3;rw [if_neg,e1];rintro (h1|h1|h1|h1)
  ·rw [e2] at h1;cases h1
  ·rw [c3] at h1;exact h1 rfl
  ·omega
  ·rw [c3] at h1;exact h1 rfl
 ·rw [dif_neg h,if_pos]
  apply Classical.byContradiction;intro hn;apply h;have n2:(enc kind g).2=0:=Classical.byContradiction fun h=>hn (.inr (.inl h));have n3:g.length=many:=Classical.byContradiction fun h=>hn (.inr (.inr (.inl h)));have n4:(enc kind g).1=b:=Classical.byContradiction fun h=>hn (.inr (.inr (.inr h)));exact ⟨g,ra hg (Bm n2).1,by omega,Yk n4 n2⟩
theorem wo {kind many:Int} {b:List Int} (h:kind<0∨4<kind):dec kind b many=([],62):=by unfold dec;rw [if_pos h]
theorem wq {kind many:Int} {b:List Int} (hk: ¬ (kind<0∨4<kind)) (h:many<0∨64<many):dec kind b many=([],61):=by unfold dec;rw [if_neg hk,if_pos h]
theorem GQ {b:List Int} (kind many:Int) (hb:Byt b) (hl:b.length≤1048576):kV kind b many=some (dec kind b many):=by
 have jt1:kC kind b many true=some ([],62):=rfl;have jt2:kB kind b many true=some ([],61):=rfl;unfold kV
 by_cases h0:kind<0
 ·rw [if_pos (by simpa using h0),jt1,wo (.inl h0)]
 by_cases h4:4<kind
 ·rw [if_neg (by simpa using h0),decide_eq_true h4,jt1,wo (.inr h4)]
 have hk: ¬ (kind<0∨4<kind):=by omega
 rw [if_neg (by simpa using h0),decide_eq_false h4];unfold kC;rw [if_neg (by decide)]
 by_cases m0:many<0
 ·rw [if_pos (by simpa using m0),jt2,wq hk (.inl m0)]
 by_cases m64:64<many
 ·rw [if_neg (by simpa using m0),decide_eq_true m64,jt2,wq hk (.inr m64)]
 rw [if_neg (by simpa using m0),decide_eq_false m64];unfold kB;rw [if_neg (by decide)];obtain ⟨n,rfl⟩:=Zc (show 0≤many by omega);have j4: ∀g x,iU g x=some (if x=true then ([],60) else (g,0)):=fun g x=>by cases x<;>rfl
 have key: ∀(g:List Ap) (r:ai),(∀v∈g,VOK v)→g.length≤1048576→kA kind b (n:Int) g r=some (if (!r.fOk)=true∨(enc kind g).2≠0∨g.length≠n∨(enc kind g).1≠b then ([],60) else (g,0)):=by
  intro g r hg hgl;unfold kA;rw [sM kind hg hgl,Z0]
  by_cases e1:(!r.fOk)=true
  ·rw [if_pos e1,j4,if_pos rfl,if_pos (.inl e1)]
  by_cases e2:(enc kind g).2=0
  ·by_cases e3:g.length=n
   ·rw [if_neg e1,if_neg (by simpa using e2),if_neg (by simpa using by omega),CY (by have:=Em kind hg;omega),Z0,j4]
    by_cases e4:(enc kind g).1=b
    ·rw [if_neg (by simpa using e4),if_neg]
     rintro (h|h|h|h)
     ·exact e1 h
     ·exact h e2
     ·exact h e3
     ·exact h e4
    ·rw [if_pos (by simpa using e4),if_pos (.inr (.inr (.inr e4)))]
   ·rw [if_neg e1,if_neg (by simpa using e2),if_pos (by simp;omega),j4,if_pos rfl,if_pos (.inr (.inr (.inl e3)))]
  ·rw [if_neg e1,if_pos (by simpa using e2),j4,if_pos rfl,if_pos (.inr (.inl e2))]
 by_cases n0:n=0
 ·subst n0
  rw [if_neg (by decide),key _ _ (by simp) (by simp),GP (by omega) (by omega) (by simp) fun l _ h2 _=>⟨(Za h2).symm,rfl⟩]
 ·obtain ⟨x,hx1,hx2,hx3,hx4⟩:=A6 (b:=b) (many:=n) kind hb (by omega) (by omega)
  rw [if_pos (by simp;omega),hx1,Z0,key _ _ hx2 hx3,GP (by omega) (by omega) hx2 hx4]
theorem IN {kind:Int} {l:List Ap} (h: ∀v∈l,Rgt v) (hl:l.length≤64):Byt (qs kind l):=by
 obtain ⟨w1,w2,w3⟩:=fa h
 have fl: ∀{α:Type} (xs:List α) (f:α→List Int),(∀x∈xs,Byt (f x))→Byt (xs.flatMap f):=fun xs f hf c hc=>by
  obtain ⟨x,hx,hc⟩:=List.mem_flatMap.1 hc;exact hf x hx c hc
 unfold qs;split
 ·obtain ⟨h1,h2,_⟩:=oa (l:=l)
  exact fl _ _ fun x hx=> .cons (by have:=h1 x hx;omega) (rK (h _ (h1 x hx).2.2))
 split
 ·exact Byt.app (wc _) (fl _ _ fun x _=>GJ _)
 split
 ·exact .cons (by omega) (.app (fl _ _ fun v hv=>rK (h v ((w2 v).1 hv))) (y2 _ _))
 split
 ·have hi: ∀x∈l.map (·.fInt),cT x:=fun x hx=>by
   obtain ⟨v,hv,rfl⟩:=X3.1 hx;exact (h v hv).ok.int
  have:=(lq (oc hi)).1;exact .app (.app (wc _) (.cons (by omega) .nil)) (y2 _ _)
 ·exact fl _ _ fun v hv=>rK (h v hv)
theorem xg (kind:Int) {l:List Ap} (h: ∀v∈l,VOK v):Byt (enc kind l).1:=by
 unfold enc
 repeat' split
 all_goals first|exact .nil|skip
 rename_i h2 h3 _ _;exact IN (ra h (by simpa using h3)) (by omega)
theorem tZ {kind:Int} {l:List Ap} {b:List Int} (h: ∀v∈l,VOK v) (he:enc kind l=(b,0)): ∀v∈l,Rgt v:=ra h (fh he).2.2.1
theorem Kx {kind:Int} {l l':List Ap} {b:List Int} (h: ∀v∈l,Rgt v) (h': ∀v∈l',Rgt v) (hl:l'.length=l.length) (he:enc kind l=(b,0)) (he':enc kind l'=(b,0)):l'=l:=by
 by_cases h0:l.length=0
 ·rw [Za h0,Za (hl.trans h0)]
 have hb:Byt b:=by have:=xg kind fun v hv=>(h v hv).ok;rw [he] at this;exact this
 have hbl:b.length≤100000:=by have:=Em kind fun v hv=>(h v hv).ok;rw [he] at this;exact this
 obtain ⟨x,_,_,_,hx⟩:=A6 (b:=b) (many:=l.length) kind hb (by omega) ⟨by omega,(fh he).2.1⟩;rw [←(hx l h rfl he).1, ←(hx l' h' hl he').1]
theorem Ky {kind:Int} {l:List Ap} {b:List Int} (h: ∀v∈l,VOK v) (he:enc kind l=(b,0)):dec kind b (l.length:Int)=(l,0):=by
 have hR:=tZ h he;obtain ⟨k1,k2,_⟩:=fh he;unfold dec;rw [if_neg (show ¬ (kind<0∨4<kind) by omega),if_neg (show ¬ ((l.length:Int)<0∨64<(l.length:Int)) by omega)];have hx: ∃l':List Ap,(∀v∈l',Rgt v)∧(l'.length:Int)=(l.length:Int)∧enc kind l'=(b,0):=⟨l,hR,rfl,he⟩
 rw [dif_pos hx];obtain ⟨c1,c2,c3⟩:=hx.choose_spec;rw [Kx hR c1 (by omega) he c3]
theorem GT (kind:Int) (b:List Int) (many:Int):(∃l:List Ap,dec kind b many=(l,0)∧(∀v∈l,Rgt v)∧(l.length:Int)=many∧enc kind l=(b,0))∨(∃e,dec kind b many=([],e)∧e≠0):=by
 unfold dec;split
 ·right;exact ⟨62,rfl,by decide⟩
 split
 ·right;exact ⟨61,rfl,by decide⟩
 split
 ·rename_i h
  left;exact ⟨_,rfl,h.choose_spec⟩
 ·right;exact ⟨60,rfl,by decide⟩
def zd (l:List Ap) (s:Int×Int) (k:Nat):Int×Int:=if (enc (k:Int) l).2=0∧(s.2<0∨((enc (k:Int) l).1.length:Int)<s.2) then ((k:Int),((enc (k:Int) l).1.length:Int)) else s
def ib (l:List Ap) (n:Nat):Int×Int:=(Zw n).foldl (zd l) (0,-1)
def Aa (l:List Ap):Int:=(ib l 5).1
theorem uI (l:List Ap) (n:Nat):ib l (n+1)=zd l (ib l n) n:=by simp [ib,Yg]
theorem Fs (l:List Ap) (n:Nat):((ib l n).2<0∧(ib l n).1=0∧ ∀k:Nat,k<n→(enc (k:Int) l).2≠0)∨(0≤(ib l n).2∧(∃k:Nat,k<n∧(ib l n).1=(k:Int))∧(enc (ib l n).1 l).2=0∧(ib l n).2=((enc (ib l n).1 l).1.length:Int)∧ ∀k:Nat,k<n→(enc (k:Int) l).2=0→(ib l n).2≤((enc (k:Int) l).1.length:Int)):=by
 induction n with
 |zero=>left;exact ⟨show ((-1:Int))<0 by decide,rfl,fun k hk=>by omega⟩
 | succ n ih =>
  rw [uI];generalize ib l n=s at*;unfold zd
  by_cases h:(enc (n:Int) l).2=0∧(s.2<0∨((enc (n:Int) l).1.length:Int)<s.2)
  ·rw [if_pos h]
   right;refine ⟨by dsimp only;omega,⟨n,by omega,rfl⟩,h.1,rfl,fun k hk he=> ?_⟩;dsimp only;rcases ih with ⟨i1,_,i2⟩|⟨i1,_,_,i4,i5⟩
   ·by_cases e:k=n
    ·subst e;omega
    ·exact absurd he (i2 k (by omega))
   ·by_cases e:k=n
    ·subst e;omega
    ·have:=i5 k (by omega) he
     omega
  ·rw [if_neg h]
   rcases ih with ⟨i1,i0,i2⟩|⟨i1,⟨k0,i20,i21⟩,i3,i4,i5⟩
   ·left
    refine ⟨i1,i0,fun k hk he=> ?_⟩
    by_cases e:k=n
    ·subst e;exact h ⟨he,.inl i1⟩
    ·exact i2 k (by omega) he
   ·right
    refine ⟨i1,⟨k0,by omega,i21⟩,i3,i4,fun k hk he=> ?_⟩
    by_cases e:k=n
    ·subst e
     rcases Int.lt_or_le ((enc (k:Int) l).1.length:Int) s.2 with h2|h2
     ·exact absurd ⟨he,.inr h2⟩ h
     ·exact h2
    ·exact i5 k (by omega) he
theorem Kz {l:List Ap} (h: ∀v∈l,VOK v) (hl:l.length≤1048576):pL l=some (Aa l):=by
 unfold pL;refine aU (fun i=>((ib l i).1,(ib l i).2,(i:Int))) 5 rfl (fun i hi=> ?_) ?_
 ·dsimp only
  rw [uI];generalize ib l i=s;unfold tT ma pf zd;rw [if_pos (decide_eq_true (by omega)),sM _ h hl,Z0,aT (by omega)]
  by_cases e:(enc (i:Int) l).2=0
  ·rw [if_pos (by simpa using e)]
   by_cases e2:s.2<0
   ·rw [if_pos (decide_eq_true e2),if_pos rfl,if_pos ⟨e,.inl e2⟩]
   ·rw [if_neg (by simpa using e2)]
    by_cases e3:((enc (i:Int) l).1.length:Int)<s.2
    ·rw [if_pos (decide_eq_true e3),if_pos ⟨e,.inr e3⟩]
    ·rw [if_neg (by simpa using e3),if_neg (fun h=>by rcases h.2 with h|h<;>contradiction)]
  ·rw [if_neg (by simpa using e),if_neg (by decide),if_neg (fun h=>e h.1)]
 ·rfl
theorem DP {l:List Ap} (h: ∀v∈l,VOK v) (hl:l.length≤1048576):xb l=some (Aa l):=by
 unfold xb;refine aU (fun i=>((ib l i).1,(ib l i).2,(i:Int))) 5 rfl (fun i hi=> ?_) ?_
 ·dsimp only
  rw [uI];generalize ib l i=s;unfold yW qH uz zd;rw [if_pos (decide_eq_true (by omega)),qt _ h hl,Z0,aT (by omega)]
  by_cases e:(enc (i:Int) l).2=0
  ·rw [if_pos (by simpa using e)]
   by_cases e2:s.2<0
   ·rw [if_pos (decide_eq_true e2),if_pos rfl,if_pos ⟨e,.inl e2⟩]
   ·rw [if_neg (by simpa using e2)]
    by_cases e3:((enc (i:Int) l).1.length:Int)<s.2
    ·rw [if_pos (decide_eq_true e3),if_pos ⟨e,.inr e3⟩]
    ·rw [if_neg (by simpa using e3),if_neg (fun h=>by rcases h.2 with h|h<;>contradiction)]
  ·rw [if_neg (by simpa using e),if_neg (by decide),if_neg (fun h=>e h.1)]
 ·rfl
theorem KA {l:List Ap}:(enc 0 l).2≠0→ ∀k:Int,0≤k∧k≤4→(enc k l).2≠0:=by
 intro h k hk;unfold enc at*;rw [if_neg (show ¬ ((0:Int)<0∨4<(0:Int)) by omega)] at h;rw [if_neg (show ¬ (k<0∨4<k) by omega)];split
 ·decide
 split
 ·decide
 rename_i h1 h2;rw [if_neg h1,if_neg h2,if_neg (fun h=>by omega)] at h;exfalso;apply h;split<;>rfl
theorem Ss {l:List Ap}:(enc (Aa l) l).2=(enc 0 l).2∧(enc (Aa l) l).1.length≤(enc 0 l).1.length:=by
 unfold Aa;rcases Fs l 5 with ⟨_,q1,_⟩|⟨_,⟨k,q0,q01⟩,q1,q2,q3⟩
 ·rw [q1];exact ⟨rfl,Zn _⟩
 ·have e:(enc 0 l).2=0:=Classical.byContradiction fun hn=>KA hn (ib l 5).1 (by omega) q1
  have:=q3 0 (by omega) e;rw [show ((0:Nat):Int)=0 from rfl] at this;exact ⟨by rw [q1,e],by omega⟩
def U32 (x:Int):Prop:=0≤x∧x<4294967296
theorem CZ (x:Int):U32 (Xs.wrap x):=by rw [ln];unfold U32;omega
theorem Ab (x y:Int):U32 (dO .u32 x y):=CZ _
theorem PJ (x:Int): ∃n:Nat,c9 .u32 x 15=(n:Int)∧n<16:=by
 unfold c9;rw [ln,BitVec.toNat_and];have h2:(Ze Xs.bits 15).toNat=15:=by decide
 rw [h2];have:(Ze Xs.bits x).toNat&&&15≤15:=Nat.and_le_right;exact ⟨_,by rw [Y4 (by omega) (by omega)],by omega⟩
theorem LU {t:List Int} (h:t.length=16) (ht: ∀x∈t,U32 x) (x:Int): ∃(j:Nat) (y:Int),ix t (c9 .u32 x 15)=some j∧t[j]? =some y∧U32 y:=by
 obtain ⟨n,h1,h2⟩:=PJ x;have hn:n<t.length:=by omega
 exact ⟨n,t[n],by rw [h1];exact nJ hn,Z5 hn,ht _ (Z2 hn)⟩
theorem GU {b t:List Int} (hl:b.length<4611686018427387904) (h:t.length=16) (ht: ∀x∈t,U32 x): ∃n,lO b t=some n∧U32 n:=by
 unfold lO;refine gg (fun s=>U32 s.1∧ ∃i:Nat,s.2=(i:Int)∧i≤b.length) (fun s=>((b.length:Int) - s.2).toNat) U32 ?_ ⟨⟨by decide,by decide⟩,0,rfl,by omega⟩;rintro ⟨x,i'⟩ ⟨hx,i,hi,hi'⟩;dsimp only at hi;subst hi;dsimp only;unfold oD
 by_cases hlt:i<b.length
 ·left
  rw [if_pos (by simpa using hlt),ay hlt,Z0];obtain ⟨j,y,h1,h2,h3⟩:=LU h ht (dO .u32 x (Xs.wrap b[i]));rw [h1,Z0,h2,Z0];obtain ⟨j',z,k1,k2,k3⟩:=LU h ht (dO .u32 y (aA .u32 (dO .u32 x (Xs.wrap b[i])) 4));rw [k1,Z0,k2,Z0,aT (by omega)];exact ⟨_,rfl,⟨Ab _ _,i+1,rfl,by omega⟩,by dsimp only;omega⟩
 ·right
  rw [if_neg (by simpa using hlt)];exact ⟨_,rfl,Ab _ _⟩
theorem LV {b:List Int} (hl:b.length<4611686018427387904): ∃n,gR b=some n∧U32 n:=by
 unfold gR;refine gg (fun s=>(∃i:Nat,s.1=(i:Int)∧i≤16)∧s.2.length=16∧ ∀x∈s.2,U32 x) (fun s=>(16 - s.1).toNat) U32 ?_ ⟨⟨0,rfl,by omega⟩,by simp,fun x hx=>by rw [Y5 hx];exact ⟨by decide,by decide⟩⟩;rintro ⟨i',t⟩ ⟨⟨i,hi,hi'⟩,ht,hu⟩;dsimp only at hi ht hu;subst hi;dsimp only;unfold oE
 by_cases hlt:i<16
 ·left
  rw [if_pos (by simpa using by omega)]
  have: ∃r,aq (fun s:(Int×Int)=>lP (i:Int) t s.1 s.2) (Xs.wrap (i:Int),0)=some r∧ ∃v,U32 v∧r= .inl (((i+1:Nat):Int),t.set i v):=by
   refine gg (fun s=>U32 s.1∧ ∃i:Nat,s.2=(i:Int)∧i≤4) (fun s=>(4 - s.2).toNat) _ ?_ ⟨CZ _,0,rfl,by omega⟩;rintro ⟨x,q'⟩ ⟨hx,q,hq,hq'⟩;dsimp only at hq;subst hq;dsimp only;unfold lP
   by_cases hql:q<4
   ·left
    rw [if_pos (by simpa using by omega),aT (by omega)];exact ⟨_,rfl,⟨Ab _ _,q+1,rfl,by omega⟩,by dsimp only;omega⟩
   ·right
    rw [if_neg (by simpa using by omega)];unfold rp rl;have hit:i<t.length:=by omega
    rw [nJ hit,Z0,Z5 hit,Z0,aT (by omega)];exact ⟨_,rfl,x,hx,rfl⟩
  obtain ⟨r,h1,v,hv,rfl⟩:=this;refine ⟨_,h1,⟨⟨i+1,rfl,by omega⟩,by simpa using ht,fun x hx=> ?_⟩,by dsimp only;omega⟩;rcases List.mem_or_eq_of_mem_set hx with h|h
  ·exact hu x h
  ·rw [h];exact hv
 ·right
  rw [if_neg (by simpa using by omega)];obtain ⟨n,h1,h2⟩:=GU hl ht hu;exact ⟨n,by rw [h1];rfl,h2⟩
noncomputable def lw (b:List Int):Int:=(gR b).getD 0
theorem wt {b:List Int} (hl:b.length<4611686018427387904):gR b=some (lw b)∧U32 (lw b):=by
 obtain ⟨n,h1,h2⟩:=LV hl;unfold lw;rw [h1];exact ⟨rfl,h2⟩
def be4 (n:Int):List Int:=[n/2^24%256,n/2^16%256,n/2^8%256,n%256]
theorem Ad (n:Int):Byt (be4 n):=by
 unfold be4;exact .cons (by omega) (.cons (by omega) (.cons (by omega) (.cons (by omega) .nil)))
theorem dN (n:Int):(be4 n).length=4:=rfl
theorem ze {x:Int} {k:Nat} (hk:k≤32):aA .u32 x (k:Int)=x/2^k:=by
 unfold aA;rw [X4 _ (Yi (Int.pow_pos (by decide)))];congr 2;simp [IntKind.bits];omega
theorem Ft {x:Int} {k:Nat} (hk:k≤64):aA .i64 x (k:Int)=x/2^k:=by
 unfold aA;rw [X4 _ (Yi (Int.pow_pos (by decide)))];congr 2;simp [IntKind.bits];omega
noncomputable def mp (b:List Int):List Int:=b++be4 (lw b)
theorem A7 {b:List Int} (hl:b.length≤1000000000000):jX b=some (mp b):=by
 unfold jX;rw [(wt (b:=b) (by omega)).1,Z0,bh,bh,bh,bh];have e1:=ze (x:=lw b) (k:=24) (by omega);have e2:=ze (x:=lw b) (k:=16) (by omega);have e3:=ze (x:=lw b) (k:=8) (by omega);rw [show ((24:Nat):Int)=24 from rfl] at e1;rw [show ((16:Nat):Int)=16 from rfl] at e2;rw [show ((8:Nat):Int)=8 from rfl] at e3;rw [e1,e2,e3,aF (by simp;omega),Z0]
 rfl
theorem GV {v:Ap} (h:Rgt v):qa v=some (bp v):=by
 unfold qa;rw [tW (l:=[v]) (fun x hx=>by rw [X5.1 hx];exact h) (by simp),Z0];simp only [uF,Z6,Zx,List.flatMap_nil,Xk];rw [sJ,Z0]
def oR:List Ap→Ap
 |[]=>kK
 |v::l=>l.foldl (fun m x=>if ltV x m then x else m) v
def oS:List Ap→Ap
 |[]=>kK
 |v::l=>l.foldl (fun m x=>if ltV m x then x else m) v
theorem uJ (a b:Ap):0<j9 a b↔ltV b a=true:=by
 unfold j9;split
 ·rename_i h;simp [rN h]
 ·split
  ·rename_i h;simp [h]
  ·rename_i h;simp at h;simp [h]
theorem wu {f:Ap→Ap→Ap} (hf: ∀m x,f m x=m∨f m x=x): ∀(l:List Ap) (v:Ap),l.foldl f v∈v::l
 |[],v=>by simp
 | x :: l, v => by
  have:=wu hf l (f v x);rw [Zy];rcases hf v x with h|h
  ·rw [h] at this ⊢
   rcases Zq.1 this with h'|h'
   ·rw [h'];simp
   ·simp [h']
  ·rw [h] at this ⊢
   simp [this]
theorem uK {l:List Ap} (h:l≠[]):oR l∈l:=by
 cases l with
 |nil=>exact absurd rfl h
 |cons v l=>exact wu (fun m x=>by split<;>simp) l v
theorem uL {l:List Ap} (h:l≠[]):oS l∈l:=by
 cases l with
 |nil=>exact absurd rfl h
 |cons v l=>exact wu (fun m x=>by split<;>simp) l v
theorem Fu {l:List Ap} (h:l≠[]) (hl:l.length≤1048576):fP l cB=some (oR l):=by
 cases l with
 |nil=>exact absurd rfl h
 |cons v r=>
 unfold fP;rw [if_neg (by simp;omega)];unfold mu;rw [dF,Z0];refine aU (fun i=>(((i+1:Nat):Int),(r.take i).foldl (fun m x=>if ltV x m then x else m) v)) r.length (by simp) (fun i hi=> ?_) ?_
 ·dsimp only
  unfold jj;have hi':i+1<(v::r).length:=by simp;omega
  simp only [Z7] at hl;rw [if_pos (by simpa using by omega),ay hi',Z0,eF,Z0];rw [iB hi];unfold ji;have e:(v::r)[i+1]=r[i]:=rfl;rw [e,aT (by omega)]
  by_cases hc:ltV r[i] ((r.take i).foldl (fun m x=>if ltV x m then x else m) v)=true
  ·rw [if_pos (decide_eq_true ((kL _ _).2 hc)),Z0,if_pos hc]
  ·rw [if_neg (by simpa using fun h=>hc ((kL _ _).1 h)),if_neg hc]
 ·unfold jj mt
  dsimp only;rw [if_neg (by simp),Z4]
  rfl
theorem Fv {l:List Ap} (h:l≠[]) (hl:l.length≤1048576):fQ l cB=some (oS l):=by
 cases l with
 |nil=>exact absurd rfl h
 |cons v r=>
 unfold fQ;rw [if_neg (by simp;omega)];unfold my;rw [dF,Z0];refine aU (fun i=>(((i+1:Nat):Int),(r.take i).foldl (fun m x=>if ltV m x then x else m) v)) r.length (by simp) (fun i hi=> ?_) ?_
 ·dsimp only
  unfold jl;have hi':i+1<(v::r).length:=by simp;omega
  simp only [Z7] at hl;rw [if_pos (by simpa using by omega),ay hi',Z0,eF,Z0];rw [iB hi];unfold jk;have e:(v::r)[i+1]=r[i]:=rfl;rw [e,aT (by omega)]
  by_cases hc:ltV ((r.take i).foldl (fun m x=>if ltV m x then x else m) v) r[i]=true
  ·rw [if_pos (decide_eq_true ((uJ _ _).2 hc)),Z0,if_pos hc]
  ·rw [if_neg (by simpa using fun h=>hc ((uJ _ _).1 h)),if_neg hc]
 ·unfold jl mw
  dsimp only;rw [if_neg (by simp),Z4]
  rfl
def fe (l:List Ap):Nat:=(l.filter fun v=>v.fKind==0).length
def Fw (kind:Int) (l:List Ap):bI:=⟨kind,(l.length:Int),oR l,oS l,(fe l:Int),0⟩
theorem uM (i:bI): ∀(l:List Ap) (n:Nat),n+l.length≤1048576→fy (fun (s:bI) (x:Ap)=>eX s x) { i with fNulls:=(n:Int) } l=some ({ i with fNulls:=((n+fe l:Nat):Int) },true)
 |[],n,_=>by simp [fy,fe]
 | v :: l, n, h => by
  simp only [Z7] at h;simp only [fy]
  by_cases hv:(v.fKind==0)=true
  ·have e:eX { i with fNulls:=(n:Int) } v=some ({ i with fNulls:=((n+1:Nat):Int) },true):=by
    unfold eX;rw [if_pos hv,aT (by omega)]
   rw [e,Z0,if_pos rfl,uM i l (n+1) (by omega)];simp only [fe,List.filter_cons,hv,if_true,Z7];congr 4;omega
  ·have e:eX { i with fNulls:=(n:Int) } v=some ({ i with fNulls:=(n:Int) },true):=by
    unfold eX;rw [if_neg hv]
   rw [e,Z0,if_pos rfl,uM i l n (by omega)];simp only [fe,List.filter_cons,hv,Z8,if_false]
theorem rQ (l:List Ap):fe l≤l.length:=List.length_filter_le _ _
theorem En {l:List Ap} (kind:Int) (h:l≠[]) (hl:l.length≤1048576):kx kind l=some (Fw kind l):=by
 unfold kx jd;rw [Fu h hl,Z0,Fv h hl,Z0,Z0];rw [show (⟨kind,(l.length:Int),oR l,oS l,0,0⟩:bI)={ (⟨kind,(l.length:Int),oR l,oS l,0,0⟩:bI) with fNulls:=((0:Nat):Int) } from rfl,uM _ l 0 (by omega),Z0,if_pos rfl,Nat.zero_add]
 rfl
theorem GW {kind:Int} {l:List Ap} (h: ∀v∈l,Rgt v) (hl:l.length≤64):(qs kind l).length≤60000:=by
 obtain ⟨w1,w2,w3⟩:=fa h;unfold qs;split
 ·obtain ⟨h1,h2,_⟩:=oa (l:=l)
  have:=n9 (bS l) (fun r=>r.fMany::bp r.fValue) 67 fun x hx=>by
   have:=(d5 (h _ (h1 x hx).2.2)).2;simp;omega
  unfold xe;omega
 split
 ·have:=n9 (Zw ((l.map (·.fInt)).length - 1)) (jy (l.map (·.fInt))) 10 fun x _=>lp (nf (k8 _))
  unfold ng;simp only [Z3,b9,Xm,Zp] at*;omega
 split
 ·have h1:=i7 (l:=aL l) fun v hv=>h v ((w2 v).1 hv)
  have hwid:wid ((aL l).length - 1)≤64:=oP (Zt (show (aL l).length - 1<64 by omega) (by decide));have:=Zv hl hwid;unfold nL;simp only [Z7,Z3,qQ,Zp];omega
 split
 ·by_cases hi: ∀x∈l.map (·.fInt),cT x
  ·have hu:=oc hi
   have:=Zv hl (lq hu).1;have hal:(bL (l.map (·.fInt))).length=l.length:=by simp [bL]
   unfold nh;simp only [Z3,b9,Z6,qQ,hal];omega
  ·exfalso
   apply hi;intro x hx;obtain ⟨v,hv,rfl⟩:=X3.1 hx;exact (h v hv).ok.int
 ·have:=i7 h
  unfold oQ;omega
theorem uN {kind:Int} {l:List Ap} {b:List Int} (h: ∀v∈l,VOK v) (he:enc kind l=(b,0)):b.length≤60000:=by
 obtain ⟨_,h2,_,_,h4⟩:=fh he;rcases h4 with ⟨_,rfl⟩|⟨_,rfl⟩
 ·simp
 ·exact GW (tZ h he) h2
def be2 (n:Nat):List Int:=[((n/256:Nat):Int),((n%256:Nat):Int)]
def fJ (k m z:Int) (v w:Ap) (d:List Int):List Int:=k::m::z::(bp v++(bp w++(be2 d.length++d)))
def ke (kind:Int) (l:List Ap):Int:=if kind= -1 then Aa l else kind
def ic (k:Int) (l:List Ap):List Int:=fJ k (l.length:Int) (fe l:Int) (oR l) (oS l) (enc k l).1
noncomputable def wr (kind:Int) (l:List Ap):List Int×Int:=
 if l=[] then ([],70) else if (enc (ke kind l) l).2≠0 then ([],(enc (ke kind l) l).2) else (mp (ic (ke kind l) l),0)
theorem A8 {k m z:Int} {v w:Ap} {d:List Int} (hk:0≤k∧k≤4) (hm:1≤m∧m≤64) (hz:0≤z∧z≤m) (hv:Rgt v) (hw:Rgt w) (hd:Byt d) (hl:d.length<65536):Byt (fJ k m z v w d):=by
 unfold fJ be2;refine .cons (by omega) (.cons (by omega) (.cons (by omega) (.app (rK hv) (.app (rK hw) (.app (.cons (by omega) (.cons (by omega) .nil)) hd)))))
theorem qh {k m z:Int} {v w:Ap} {d:List Int}:(fJ k m z v w d).length=5+(bp v).length+(bp w).length+d.length:=by
 unfold fJ be2;simp;omega
theorem IP {l:List Ap} (kind:Int) (h: ∀v∈l,VOK v) (hl:l.length≤1048576):mM kind l=some (wr kind l):=by
 have key: ∀k,l≠[]→mb l k=some (if (enc k l).2≠0 then ([],(enc k l).2) else (mp (ic k l),0)):=by
  intro k hne;unfold mb;rw [sM k h hl,Z0]
  by_cases he:(enc k l).2=0
  ·have he':enc k l=((enc k l).1,0):=Yk rfl he
   obtain ⟨hk,h64,_⟩:=fh he';have hR:=tZ h he';have hmin:=hR _ (uK hne);have hmax:=hR _ (uL hne);have hdl:=uN h he';have hdb:=xg k h;have hn:=rQ l;have h0:0<l.length:=Zi.2 hne;have l1:=(d5 hmin).2;have l2:=(d5 hmax).2;rw [if_neg (by simpa using he),if_neg (by simpa using he),En k hne hl,Z0];have e8:=Ft (x:=((enc k l).1.length:Int)) (k:=8) (by omega);rw [show ((8:Nat):Int)=8 from rfl] at e8;simp only [Fw];rw [GV hmin,Z0,aF (by simp;omega),Z0,GV hmax,Z0,aF (by simp;omega),Z0,aF (by simp;omega),Z0,aF (by simp;omega),Z0]
   have e:([Yf.wrap k,Yf.wrap (l.length:Int),Yf.wrap (fe l:Int)]++bp (oR l)++bp (oS l)++[Yf.wrap (aA .i64 ((enc k l).1.length:Int) 8),Yf.wrap ((enc k l).1.length:Int)]++(enc k l).1)=ic k l:=by
    unfold ic fJ be2;rw [bh,bh,bh,bh,bh,e8];have a1:k%256=k:=by omega
    have a2:(l.length:Int)%256=(l.length:Int):=by omega
    have a3:(fe l:Int)%256=(fe l:Int):=by omega
    have a4:((enc k l).1.length:Int)/2^8%256=(((enc k l).1.length/256:Nat):Int):=by omega
    have a5:((enc k l).1.length:Int)%256=(((enc k l).1.length%256:Nat):Int):=by omega
    rw [a1,a2,a3,a4,a5];simp
   have s2:(ic k l).length≤1000000000000:=by unfold ic;rw [qh];omega
   rw [e,A7 s2,Z0]
  ·rw [if_pos (by simpa using he),if_pos he]
 unfold mM wr
 by_cases hne:l=[]
 ·subst hne;rfl
 ·have h0:0<l.length:=Zi.2 hne
  rw [if_neg (by simp;omega),if_neg hne];unfold ke
  by_cases hk:kind= -1
  ·rw [if_pos (by simpa using hk),if_pos hk,Kz h hl,Z0,key _ hne]
  ·rw [if_neg (by simpa using hk),if_neg hk,key _ hne]
theorem yl {b:List Int} (hb:Byt b) (hl:b.length<140737488355328):lj b=some (match cf b with|some (v,n)=>(v,b.drop n,true)|none=>(kK,[],false)):=by
 unfold lj
 have step: ∀k,1≤k→k≤b.length→k≤66→me b (k:Int)=match cf (b.take k) with|some (v,n)=>(if n=k then some (.inr (v,b.drop k,true)) else some (.inl ((k+1:Nat):Int)))|none=>some (.inl ((k+1:Nat):Int)):=by
  intro k h1 h2 h3;have hs:=ef (xs:=b) (lo:=0) (hi:=k) (by omega) h2;rw [show ((0:Nat):Int)=0 from rfl] at hs;unfold me md;rw [if_pos (by simpa using by omega),if_pos (by simp;omega),hs,Z0,aF (by simp;omega),Z0,Xf,Yd,sK (hb.take _),Z0,gB h2,aT (by omega)];have hlen:(b.take k).length=k:=by simp;omega
  cases hp:cf (b.take k) with
  |none=>rfl
  |some x=>
   obtain ⟨v,n⟩:=x;simp only [hlen]
   by_cases e:n=k
   ·rw [if_pos e,if_pos e];rfl
   ·rw [if_neg e,if_neg e];rfl
 cases hp:cf b with
 | some x =>
  obtain ⟨v,n⟩:=x;have hn:=rL hb hp;refine aU (fun i=>((i+1:Nat):Int)) (n - 1) rfl (fun i hi=> ?_) ?_
  ·rw [step (i+1) (by omega) (by omega) (by omega)]
   cases hq:cf (b.take (i+1)) with
   |none=>rfl
   |some y=>
    obtain ⟨v',n'⟩:=y;obtain ⟨h1,h2⟩:=qO hb hq;rw [hp] at h1;simp only [Option.some.injEq,Prod.mk.injEq] at h1;omega
  ·have e:n - 1+1=n:=by omega
   rw [e,step n (by omega) (by omega) (by omega),vg hb hp (Zn _)];simp
 | none =>
  refine aU (fun i=>((i+1:Nat):Int)) (min b.length 66) rfl (fun i hi=> ?_) ?_
  ·rw [step (i+1) (by omega) (by omega) (by omega)]
   cases hq:cf (b.take (i+1)) with
   |none=>rfl
   |some y=>
    obtain ⟨v',n'⟩:=y;obtain ⟨h1,h2⟩:=qO hb hq;rw [hp] at h1;cases h1
  ·have e0:md b ((min b.length 66+1:Nat):Int) false=some (.inr (kK,[],false)):=rfl
   unfold me;split
   ·have:decide (((min b.length 66+1:Nat):Int)≤66)=false:=by
     rename_i h;simp at h ⊢;omega
    rw [this,e0]
   ·exact e0
theorem orI {a b:Nat} (ha:a<65536) (hb:b<65536):bOr .i64 (a:Int) (b:Int)=((a|||b:Nat):Int):=by
 unfold bOr
 have h1:(Ze Zb.bits (a:Int)).toNat=a:=by
  show (Ze 64 (a:Int)).toNat=a;rw [Zm];omega
 have h2:(Ze Zb.bits (b:Int)).toNat=b:=by
  show (Ze 64 (b:Int)).toNat=b;rw [Zm];omega
 rw [BitVec.toNat_or,h1,h2];have:a|||b<2^16:=Nat.or_lt_two_pow (by simpa using ha) (by simpa using hb)
 have e:(2:Nat)^16=65536:=by decide
 rw [ak (by omega)]
theorem GX {x y:Int} (hx:0≤x∧x<256) (hy:0≤y∧y<256):bOr .i64 (eh .i64 (Zb.wrap x) 8) (Zb.wrap y)=((x.toNat*256+y.toNat:Nat):Int):=by
 rw [tX hx,tX hy];obtain ⟨a,rfl⟩:=Zc hx.1;obtain ⟨b,rfl⟩:=Zc hy.1
 have e:eh .i64 (a:Int) 8=((2^8*a:Nat):Int):=by
  unfold eh;have:(2:Int)^(min (8:Int).toNat Zb.bits)=256:=by decide
  rw [this,ak (by omega)];omega
 rw [e,orI (by omega) (by omega), ←Xr (by omega)];simp only [Y2];omega
structure Blk (b:List Int) (k m z:Int) (v w:Ap) (d r:List Int):Prop where
 eq:b=fJ k m z v w d++r
 hk:0≤k∧k≤4
 hm:1≤m∧m≤64
 hz:0≤z∧z≤m
 hv:Rgt v
 hw:Rgt w
 hd:d.length<65536
 hr:4≤r.length
def BJ (k m z:Int) (v w:Ap) (d:List Int):bI:=⟨k,m,v,w,z,((fJ k m z v w d).length+4:Nat)⟩
theorem Blk.parts {b:List Int} {k m z k' m' z':Int} {v w:Ap} {d r:List Int} (h:Blk (k::m::z::b) k' m' z' v w d r):k=k'∧m=m'∧z=z'∧cf b=some (v,(bp v).length)∧cf (b.drop (bp v).length)=some (w,(bp w).length)∧(b.drop (bp v).length).drop (bp w).length=be2 d.length++(d++r):=by
 have:=h.eq;unfold fJ at this;simp only [Xc,List.cons.injEq,Zj] at this;obtain ⟨h1,h2,h3,h4⟩:=this;refine ⟨h1,h2,h3,?_,?_,?_⟩
 ·rw [h4,qf h.hv]
 ·rw [h4,Xg,qf h.hw]
 ·rw [h4,Xg,Xg]
theorem Blk.one {b:List Int} {k m z k' m' z':Int} {v w v' w':Ap} {d r d' r':List Int} (h:Blk b k m z v w d r) (h':Blk b k' m' z' v' w' d' r'):k=k'∧m=m'∧z=z'∧v=v'∧w=w'∧d=d'∧r=r':=by
 have e:=h.eq;unfold fJ at e;simp only [Xc] at e;rw [e] at h h';obtain ⟨a1,a2,a3,a4,a5,a6⟩:=h.parts;obtain ⟨b1,b2,b3,b4,b5,b6⟩:=h'.parts;rw [a4] at b4;simp only [Option.some.injEq,Prod.mk.injEq] at b4;obtain ⟨rfl,_⟩:=b4;rw [a5] at b5;simp only [Option.some.injEq,Prod.mk.injEq] at b5;obtain ⟨rfl,_⟩:=b5;rw [a6] at b6;unfold be2 at b6;simp only [Xc,Zz,List.cons.injEq] at b6;have hlen:d.length=d'.length:=by omega
 obtain ⟨c1,c2⟩:=List.append_inj b6.2.2 hlen;exact ⟨b1,b2,b3,rfl,rfl,c1,c2⟩
abbrev C0:bI:=⟨0,0,Ap.zero,Ap.zero,0,0⟩
theorem KB {b:List Int} (hb:Byt b) (hl:b.length≤1000000000000):
  (∃k m z v w d r,Blk b k m z v w d r∧jt b=some (BJ k m z v w d,d,true))∨(jt b=some (C0,[],false)∧ ∀k m z v w d r,¬ Blk b k m z v w d r):=by
 have fc: ∀{b:List Int},b.length<3→ ∀k m z v w d r,¬ Blk b k m z v w d r:=by
  intro b hs k m z v w d r h;have:=h.eq;rw [this] at hs;simp [qh] at hs;omega
 have bad: ∀b,ga b true=some (C0,[],false):=fun b=>rfl
 match b,hb,hl with
 |[],_,_=>exact .inr ⟨rfl,fc (by simp)⟩
 |[_],_,_=>exact .inr ⟨rfl,fc (by simp)⟩
 |[_,_],_,_=>exact .inr ⟨rfl,fc (by simp)⟩
 | k :: m :: z :: t, hb, hl =>
  have b0:=hb.head;have b1:=hb.tail.head;have b2:=hb.tail.tail.head;have bt:Byt t:=hb.tail.tail.tail;simp only [Z7] at hl;have i0:idx (k::m::z::t) 0=some k:=dF _ _;have i1:idx (k::m::z::t) 1=some m:=AW _ _ _;have i2:idx (k::m::z::t) 2=some z:=ay (xs:=k::m::z::t) (i:=2) (by simp);have e3:sub (k::m::z::t) 3 ((k::m::z::t).length:Int)=some t:=gB (xs:=k::m::z::t) (k:=3) (by simp)
  have hr0:jt (k::m::z::t)=if 4<k∨m=0∨64<m∨m<z then some (C0,[],false) else ga (k::m::z::t) false:=by
   unfold jt;rw [if_neg (by simp;omega),i0,Z0,i1,Z0,Z0,i2,Z0,Z0]
   by_cases c1:4<k
   ·rw [if_pos (by simpa using c1),if_pos (.inl c1)];rfl
   rw [if_neg (by simpa using c1)]
   by_cases c2:m=0
   ·rw [if_pos (by simpa using c2),if_pos (.inr (.inl c2))];rfl
   rw [if_neg (by simpa using c2)]
   by_cases c3:64<m
   ·rw [if_pos (by simpa using c3),if_pos (.inr (.inr (.inl c3)))];rfl
   rw [if_neg (by simpa using c3)]
   by_cases c4:m<z
   ·rw [if_pos (.inr (.inr (.inr c4))),decide_eq_true c4];rfl
   rw [if_neg (by omega),decide_eq_false c4]
  rw [hr0]
  by_cases c:4<k∨m=0∨64<m∨m<z
  ·rw [if_pos c]
   refine .inr ⟨rfl,fun k' m' z' v w d r h=> ?_⟩;obtain ⟨rfl,rfl,rfl,_⟩:=h.parts;have:=h.hk;have:=h.hm;have:=h.hz;omega
  rw [if_neg c];unfold ga;rw [if_neg (by decide),i0,Z0,i1,Z0,i2,Z0,e3,Z0,yl bt (by omega),Z0];cases hp:cf t with
  |none=>
   have hf: ∃x,lj ([]:List Int)=some x:=⟨_,yl (b:=[]) .nil (by simp)⟩
   obtain ⟨x,hx⟩:=hf;simp only;rw [hx,Z0];refine .inr ⟨rfl,fun k' m' z' v w d r h=> ?_⟩;have:=h.parts.2.2.2.1;rw [hp] at this;cases this
  | some q =>
   obtain ⟨v,n1⟩:=q;have hbd1:=rL bt hp;simp only;rw [yl (bt.drop _) (by simp;omega),Z0];cases hp2:cf (t.drop n1) with
   |none=>
    refine .inr ⟨rfl,fun k' m' z' v' w d r h=> ?_⟩;obtain ⟨_,_,_,h1,h2,_⟩:=h.parts;rw [hp] at h1;simp only [Option.some.injEq,Prod.mk.injEq] at h1;rw [←h1.2,hp2] at h2;cases h2
   | some q2 =>
    obtain ⟨w,n2⟩:=q2;have hbd2:=rL (bt.drop _) hp2;simp only [Xw,Z8,if_false];obtain ⟨hRv,t1,ht1,hn1⟩:=ml bt hp;obtain ⟨hRw,t2,ht2,hn2⟩:=ml (bt.drop _) hp2;have htt:(t.drop n1).drop n2=t2:=by rw [ht2,hn2,Xg]
    have hbt2:Byt t2:=by rw [←htt];exact (bt.drop _).drop _
    have hd1:t.drop n1=t1:=by rw [ht1,hn1,Xg]
    have hteq:t=bp v++(bp w++t2):=by rw [ht1, ←ht2,hd1]
    have hno:t2.length<2→ ∀k' m' z' v' w' d r,¬ Blk (k::m::z::t) k' m' z' v' w' d r:=by
     intro h2 k' m' z' v' w' d r h;obtain ⟨_,_,_,p1,p2,p3⟩:=h.parts;rw [hp] at p1;simp only [Option.some.injEq,Prod.mk.injEq] at p1;rw [←p1.2,hp2] at p2;simp only [Option.some.injEq,Prod.mk.injEq] at p2;rw [←p1.2, ←p2.2,htt] at p3;rw [p3] at h2;simp [be2] at h2;omega
    unfold nB;simp only [htt]
    match t2,hteq,htt,hbt2,hno,ht2 with
    |[],_,_,_,hno,_=>exact .inr ⟨by rw [if_pos (by decide)],hno (by simp)⟩
    |[_],_,_,_,hno,_=>exact .inr ⟨by rw [if_pos (by simp)],hno (by simp)⟩
    | x :: y :: rest, hteq, htt, hbt2, hno, ht2 =>
     have bx:=hbt2.head;have by_:=hbt2.tail.head;obtain ⟨n,hn⟩: ∃n,n=x.toNat*256+y.toNat:=⟨_,rfl⟩
     have e2:sub (x::y::rest) 2 ((x::y::rest).length:Int)=some rest:=gB (xs:=x::y::rest) (k:=2) (by simp);have hlr:rest.length≤t.length:=by rw [hteq];simp;omega
     rw [if_neg (by simp;omega),dF,Z0,AW,Z0,e2,Z0,GX bx by_, ←hn,ak (by omega)];have hsmall:n<65536:=by omega
     by_cases hrl:rest.length<n+4
     ·rw [if_pos (by simpa using by omega)]
      refine .inr ⟨rfl,fun k' m' z' v' w' d r h=> ?_⟩;obtain ⟨_,_,_,p1,p2,p3⟩:=h.parts;rw [hp] at p1;simp only [Option.some.injEq,Prod.mk.injEq] at p1;rw [←p1.2,hp2] at p2;simp only [Option.some.injEq,Prod.mk.injEq] at p2;rw [←p1.2, ←p2.2,htt] at p3;unfold be2 at p3;simp only [Xc,Zz,List.cons.injEq] at p3;have h4:=h.hr;have h5:rest.length=d.length+r.length:=by rw [p3.2.2];simp
      omega
     ·have e4:=ef (xs:=rest) (lo:=0) (hi:=n) (by omega) (by omega)
      rw [show ((0:Nat):Int)=0 from rfl,Xf] at e4;rw [if_neg (by simpa using by omega),e4,Z0];have hdl:(rest.take n).length=n:=by simp;omega
      have hB:Blk (k::m::z::t) k m z v w (rest.take n) (rest.drop n):=by
       refine ⟨?_,by omega,by omega,by omega,hRv,hRw,by omega,by simp;omega⟩;rw [hteq];unfold fJ be2;rw [hdl];have q1:((n/256:Nat):Int)=x:=by omega
       have q2:((n%256:Nat):Int)=y:=by omega
       rw [q1,q2];simp
      refine .inl ⟨k,m,z,v,w,rest.take n,rest.drop n,hB,?_⟩
      have hlen:(k::m::z::t).length=3+(bp v).length+(bp w).length+2+rest.length:=by
       rw [hteq];simp;omega
      rw [hlen];unfold BJ;rw [qh,hdl,ak (show -9223372036854775808≤k∧_ by omega),ak (show -9223372036854775808≤m∧_ by omega),ak (show -9223372036854775808≤z∧_ by omega)]
      have q3:Zb.wrap (((3+(bp v).length+(bp w).length+2+rest.length:Nat):Int) - (rest.length:Int))=((5+(bp v).length+(bp w).length:Nat):Int):=by
       rw [ak (by simp only [Z7] at hlen;omega)];omega
      have q4:Zb.wrap (((5+(bp v).length+(bp w).length:Nat):Int)+(n:Int))=((5+(bp v).length+(bp w).length+n:Nat):Int):=by
       rw [ak (by simp only [Z7] at hlen;omega)];omega
      have q5:Zb.wrap (((5+(bp v).length+(bp w).length+n:Nat):Int)+4)=((5+(bp v).length+(bp w).length+n+4:Nat):Int):=by
       rw [ak (by simp only [Z7] at hlen;omega)];omega
      rw [q3,q4,q5]
theorem IQ {b:List Int} (hb:Byt b) (hl:b.length≤1000000000000) {k m z:Int} {v w:Ap} {d r:List Int} (h:Blk b k m z v w d r):jt b=some (BJ k m z v w d,d,true):=by
 rcases KB hb hl with ⟨k',m',z',v',w',d',r',h1,h2⟩|⟨_,h2⟩
 ·obtain ⟨rfl,rfl,rfl,rfl,rfl,rfl,_⟩:=h.one h1
  exact h2
 ·exact absurd h (h2 _ _ _ _ _ _ _)
noncomputable def Fy (k m z:Int) (v w:Ap) (d r:List Int):List Ap×Int×Int:=
 if r.take 4=be4 (lw (fJ k m z v w d)) then
  if (dec k d m).2≠0 then ([],0,70)
  else if (fe (dec k d m).1:Int)=z∧oR (dec k d m).1=v∧oS (dec k d m).1=w then ((dec k d m).1,((fJ k m z v w d).length+4:Nat),0) else ([],0,70)
 else ([],0,71)
theorem IR {b:List Int} (hb:Byt b) (hl:b.length≤1000000000000) {k m z:Int} {v w:Ap} {d r:List Int} (h:Blk b k m z v w d r):kD b=some (Fy k m z v w d r):=by
 unfold kD;rw [IQ hb hl h,Z0];have hbe:=h.eq;have hr:=h.hr;have hd:=h.hd;have hbody:Byt (fJ k m z v w d):=by rw [hbe] at hb;exact hb.left
 have hdb:Byt d:=by
  have:=hbody;unfold fJ at this;exact this.tail.tail.tail.right.right.right
 have hbl:b.length=(fJ k m z v w d).length+r.length:=by rw [hbe,Z3]
 obtain ⟨n,hn⟩: ∃n,n=(fJ k m z v w d).length:=⟨_,rfl⟩
 have t1:b.take n=fJ k m z v w d:=by rw [hbe,hn,List.take_left]
 have t2:b.take (n+4)=fJ k m z v w d++r.take 4:=by
  rw [hbe,hn,List.take_append,Xi (Nat.le_add_right _ _),Nat.add_sub_cancel_left]
 have s1:=ef (xs:=b) (lo:=0) (hi:=n) (by omega) (by omega);have s2:=ef (xs:=b) (lo:=0) (hi:=n+4) (by omega) (by omega);rw [show ((0:Nat):Int)=0 from rfl,Xf] at s1 s2;have hw:Zb.wrap (((n+4:Nat):Int) - 4)=(n:Int):=by rw [ak (by omega)];omega
 unfold BJ;simp only [←hn,Xw,Z8,if_false];rw [hw,s1,Z0];unfold jN;rw [t1,aF (by simp;omega),Z0,Zz,Z0,A7 (by omega),Z0,s2,Z0,t2,CY (by unfold mp;simp [dN];omega),Z0];unfold Fy mp
 by_cases c1:r.take 4=be4 (lw (fJ k m z v w d))
 ·rw [if_pos c1,c1,decide_eq_true rfl]
  simp only [Xw,Z8,if_false];rw [GQ _ _ hdb (by omega),Z0]
  by_cases c2:(dec k d m).2=0
  ·rw [if_neg (by simpa using c2),if_neg (by simpa using c2)]
   rcases GT k d m with ⟨l,e,g1,g2,g3⟩|⟨e,g1,g2⟩
   ·rw [e]
    simp only;have hm:=h.hm;have hne:l≠[]:=fun e=>by rw [e] at g2;simp at g2;omega
    rw [En k hne (by omega),Z0];simp only [Fw]
    by_cases a1:(fe l:Int)=z<;>by_cases a2:oR l=v<;>by_cases a3:oS l=w<;>simp [jm,a1,a2,a3,hn]
   ·rw [g1] at c2;exact absurd c2 g2
  ·rw [if_pos (by simpa using c2),if_pos c2]
 ·have c1': ¬ (fJ k m z v w d++be4 (lw (fJ k m z v w d))=fJ k m z v w d++r.take 4):=fun h=>c1 (List.append_cancel_left h).symm
  rw [if_neg c1,decide_eq_false c1']
  rfl
theorem C1 {l:List Ap} {kind:Int} (h: ∀v∈l,VOK v) (hw:(wr kind l).2=0): ∃k,l≠[]∧(∀v∈l,Rgt v)∧enc k l=((enc k l).1,0)∧k=ke kind l∧wr kind l=(mp (ic k l),0)∧ ∀t,Blk (mp (ic k l)++t) k (l.length:Int) (fe l:Int) (oR l) (oS l) (enc k l).1 (be4 (lw (ic k l))++t):=by
 unfold wr at hw
 by_cases hne:l=[]
 ·rw [if_pos hne] at hw;cases hw
 rw [if_neg hne] at hw
 by_cases he:(enc (ke kind l) l).2=0
 ·have he':enc (ke kind l) l=((enc (ke kind l) l).1,0):=Yk rfl he
  obtain ⟨hk,h64,_⟩:=fh he';have hR:=tZ h he';have hn:=rQ l;have h0:0<l.length:=Zi.2 hne;have hdl:=uN h he';refine ⟨ke kind l,hne,hR,he',rfl,by unfold wr;rw [if_neg hne,if_neg (by simpa using he)],fun t=>⟨by unfold mp ic;simp,hk,by omega,by omega,hR _ (uK hne),hR _ (uL hne),by omega,by simp [dN]⟩⟩
 ·rw [if_pos (by simpa using he)] at hw;exact absurd hw he
theorem GY {l:List Ap} {kind:Int} (h: ∀v∈l,VOK v) (hw:(wr kind l).2=0):Byt (wr kind l).1∧(wr kind l).1.length≤100000:=by
 obtain ⟨k,hne,hR,he,_,hw,hB⟩:=C1 h hw;obtain ⟨hk,h64,_⟩:=fh he;have hn:=rQ l;have h0:0<l.length:=Zi.2 hne;have hdl:=uN h he;have hmin:=hR _ (uK hne);have hmax:=hR _ (uL hne);have l1:=(d5 hmin).2;have l2:=(d5 hmax).2;rw [hw];unfold mp;refine ⟨.app (A8 hk ⟨by omega,by omega⟩ ⟨by omega,by omega⟩ hmin hmax (xg k h) (by omega)) (Ad _),?_⟩;simp only [Z3,dN];unfold ic;rw [qh];omega
theorem KC {l:List Ap} {kind:Int} (h: ∀v∈l,VOK v) (hw:(wr kind l).2=0) {t:List Int} (ht:Byt t) (hl:t.length≤900000000000):kD ((wr kind l).1++t)=some (l,((wr kind l).1.length:Int),0):=by
 obtain ⟨hby,hle⟩:=GY h hw;obtain ⟨k,hne,hR,he,_,hw,hB⟩:=C1 h hw;rw [hw] at hby hle ⊢;simp only at hby hle ⊢;rw [IR (hby.app ht) (by simp only [Z3];omega) (hB t)];have hd:=Ky h he;unfold Fy;rw [hd,if_pos (by rw [Xj (dN _)];rfl),if_neg (by simp),if_pos ⟨rfl,rfl,rfl⟩];have:(mp (ic k l)).length=(ic k l).length+4:=by unfold mp;simp [dN]
 rw [this];rfl
open Option renaming bind_some→Z0,getD_some→Xe,bind_assoc→Y0
open List renaming take_succ_eq_append_getElem→Z1,getElem_mem→Z2,length_append→Z3,take_length→Z4,getElem?_eq_getElem→Z5,length_singleton→Z6,length_cons→Z7,replicate→Z9,eq_nil_of_length_eq_zero→Za,mem_append→Zd,mem_of_mem_take→Zf,take_append_drop→Zg,drop_eq_getElem_cons→Zh,length_pos_iff→Zi,append_assoc→Zj,pairwise_cons→Zk,length_take→Zl,pairwise_append→Zo,length_map→Zp,mem_cons→Zq,getD_eq_getElem?_getD→Zu,range→Zw,flatMap_cons→Zx,foldl_cons→Zy,nil_append→Zz,mem_map→X3,mem_singleton→X5,mem_of_getLast?→X7,pairwise_iff_getElem→X8,getElem?_eq_some_iff→X9,flatMap_append→Xa,cons_append→Xc,drop_zero→Xf,drop_left→Xg,getElem?_drop→Xh,take_of_length_le→Xi,take_left'→Xj,append_nil→Xk,foldl_append→Xl,length_range→Xm,length_replicate→Xn,dropLast_concat_getLast→Xq,getElem?_append_right→Xv,getLast?_eq_none_iff→Xx,getLast?_eq_getElem?→Xy,map_append→Xz,getElem?_append_left→Y1,mem_replicate→Y3,eq_of_mem_replicate→Y5,drop_drop→Y7,flatMap_singleton→Y9,map_cons→Yc,singleton_append→Yd,getElem?_eq_none→Ye,range_succ→Yg,map_nil→Yh
open Nat renaming le_refl→Zn,lt_of_lt_of_le→Zt,mul_le_mul→Zv,strongRecOn→Xb,testBit_xor→Xd,pow_le_pow_right→Xo,eq_of_testBit_eq→Xp,two_pow_add_eq_or_of_lt→Xr,mod_two_eq_zero_or_one→Xu,testBit_succ→Y8,xor_comm→Yj
open Bool renaming false_eq_true→Z8,not_true→Xw,not_false→Y6,not_eq_true→Ya,true_and→Yb
open Int renaming eq_ofNat_of_zero_le→Zc,tmod_eq_emod_of_nonneg→Zr,tdiv_eq_ediv_of_nonneg→Zs,fdiv_eq_ediv_of_nonneg→X4,natCast_pow→Xt,toNat_natCast→Y2,emod_eq_of_lt→Y4,le_of_lt→Yi
open BitVec renaming ofInt→Ze,toNat_ofInt→Zm
open Prod renaming ext→Yk
open IntKind renaming i64→Zb,u64→X6,u32→Xs,u8→Yf
end Go.Proofs.YthbonoagbeilkaaGreat.Hay
/- The checksum, bit by bit and by half bytes (plain numbers). -/
namespace Go.Proofs.YthbonoagbeilkaaGreat.Hay
open Option renaming bind_some→Z0,getD_some→Xe,bind_assoc→Y0
open List renaming take_succ_eq_append_getElem→Z1,getElem_mem→Z2,length_append→Z3,take_length→Z4,getElem?_eq_getElem→Z5,length_singleton→Z6,length_cons→Z7,replicate→Z9,eq_nil_of_length_eq_zero→Za,mem_append→Zd,mem_of_mem_take→Zf,take_append_drop→Zg,drop_eq_getElem_cons→Zh,length_pos_iff→Zi,append_assoc→Zj,pairwise_cons→Zk,length_take→Zl,pairwise_append→Zo,length_map→Zp,mem_cons→Zq,getD_eq_getElem?_getD→Zu,range→Zw,flatMap_cons→Zx,foldl_cons→Zy,nil_append→Zz,mem_map→X3,mem_singleton→X5,mem_of_getLast?→X7,pairwise_iff_getElem→X8,getElem?_eq_some_iff→X9,flatMap_append→Xa,cons_append→Xc,drop_zero→Xf,drop_left→Xg,getElem?_drop→Xh,take_of_length_le→Xi,take_left'→Xj,append_nil→Xk,foldl_append→Xl,length_range→Xm,length_replicate→Xn,dropLast_concat_getLast→Xq,getElem?_append_right→Xv,getLast?_eq_none_iff→Xx,getLast?_eq_getElem?→Xy,map_append→Xz,getElem?_append_left→Y1,mem_replicate→Y3,eq_of_mem_replicate→Y5,drop_drop→Y7,flatMap_singleton→Y9,map_cons→Yc,singleton_append→Yd,getElem?_eq_none→Ye,range_succ→Yg,map_nil→Yh
open Nat renaming le_refl→Zn,lt_of_lt_of_le→Zt,mul_le_mul→Zv,strongRecOn→Xb,testBit_xor→Xd,pow_le_pow_right→Xo,eq_of_testBit_eq→Xp,two_pow_add_eq_or_of_lt→Xr,mod_two_eq_zero_or_one→Xu,testBit_succ→Y8,xor_comm→Yj
open Bool renaming false_eq_true→Z8,not_true→Xw,not_false→Y6,not_eq_true→Ya,true_and→Yb
open Int renaming eq_ofNat_of_zero_le→Zc,tmod_eq_emod_of_nonneg→Zr,tdiv_eq_ediv_of_nonneg→Zs,fdiv_eq_ediv_of_nonneg→X4,natCast_pow→Xt,toNat_natCast→Y2,emod_eq_of_lt→Y4,le_of_lt→Yi
open BitVec renaming ofInt→Ze,toNat_ofInt→Zm
open Prod renaming ext→Yk
open IntKind renaming i64→Zb,u64→X6,u32→Xs,u8→Yf
def zf:Nat:=3988292384
def gk (x:Nat):Nat:=(x/2)^^^(if x.testBit 0 then zf else 0)
theorem IS (a b:Nat):(a^^^b)/2=a/2^^^b/2:=by
 apply Xp;intro i;rw [Xd, ←Y8, ←Y8, ←Y8,Xd]
theorem sO (a b:Nat):gk (a^^^b)=gk a^^^gk b:=by
 unfold gk;rw [IS,Xd];apply Xp;intro i;cases a.testBit 0<;>cases b.testBit 0<;>simp [Xd]<;>cases (a/2).testBit i<;>cases (b/2).testBit i<;>simp
theorem qR (x:Nat):gk (2*x)=x:=by
 unfold gk;simp
def gu (x:Nat):Nat:=gk (gk (gk (gk x)))
theorem wv (x:Nat):gu x=gu (x%16)^^^(x/16):=by
 have h:x=(2*(2*(2*(2*(x/16)))))^^^(x%16):=by
  have e2:2*(2*(2*(2*(x/16))))=2^4*(x/2^4):=by
   have e:(2:Nat)^4=16:=rfl;rw [e];omega
  rw [e2,show x%16=x%2^4 from rfl];apply Xp;intro i;rw [Xd,Nat.testBit_two_pow_mul,Nat.testBit_div_two_pow,Nat.testBit_mod_two_pow]
  by_cases hi:i<4
  ·have: ¬ 4≤i:=by omega
   simp [hi,this]
  ·have h4:4≤i:=by omega
   have h5:i - 4+4=i:=by omega
   simp [hi,h4,h5]
 conv=>lhs;rw [h]
 unfold gu;rw [sO,sO,sO,sO,qR,qR,qR,qR,Yj]
def ww (x:Nat):Nat:=gu (gu x)
theorem Jw {a b:Nat} (ha:a<4294967296) (hb:b<4294967296):c9 .u32 (a:Int) (b:Int)=((a&&&b:Nat):Int):=by
 unfold c9;rw [ln]
 have h1:(Ze Xs.bits (a:Int)).toNat=a:=by
  show (Ze 32 (a:Int)).toNat=a;rw [Zm];omega
 have h2:(Ze Xs.bits (b:Int)).toNat=b:=by
  show (Ze 32 (b:Int)).toNat=b;rw [Zm];omega
 rw [BitVec.toNat_and,h1,h2];have:a&&&b≤a:=Nat.and_le_left;omega
theorem sP {a b:Nat} (ha:a<4294967296) (hb:b<4294967296):dO .u32 (a:Int) (b:Int)=((a^^^b:Nat):Int):=by
 unfold dO;rw [ln]
 have h1:(Ze Xs.bits (a:Int)).toNat=a:=by
  show (Ze 32 (a:Int)).toNat=a;rw [Zm];omega
 have h2:(Ze Xs.bits (b:Int)).toNat=b:=by
  show (Ze 32 (b:Int)).toNat=b;rw [Zm];omega
 rw [BitVec.toNat_xor,h1,h2];have:a^^^b<2^32:=Nat.xor_lt_two_pow (by simpa using ha) (by simpa using hb);have e:(2:Nat)^32=4294967296:=by decide
 omega
theorem zg {a b:Nat} (ha:a<4294967296) (hb:b<4294967296):a^^^b<4294967296:=by
 have:a^^^b<2^32:=Nat.xor_lt_two_pow (by simpa using ha) (by simpa using hb);simpa using this
theorem px {x:Nat} (h:x<4294967296):gk x<4294967296:=by
 unfold gk;exact zg (by omega) (by split<;>decide)
theorem od {x:Nat} (h:x<4294967296):gu x<4294967296:=px (px (px (px h)))
theorem IT (x:Nat):x&&&1=(x.testBit 0).toNat:=by
 rw [Nat.and_one_is_mod,Nat.testBit_zero];rcases Xu x with h|h<;>simp [h]
theorem DQ {x:Nat} (hx:x<4294967296):dO .u32 (aA .u32 (x:Int) 1) (Xs.wrap (3988292384*c9 .u32 (x:Int) 1))=((gk x:Nat):Int):=by
 have e1:=ze (x:=(x:Int)) (k:=1) (by omega);rw [show ((1:Nat):Int)=1 from rfl] at e1;have e2:=Jw (a:=x) (b:=1) hx (by omega);rw [show ((1:Nat):Int)=1 from rfl] at e2;rw [e1,e2,IT,ln];have e3:(x:Int)/2^1=((x/2:Nat):Int):=by omega
 have e4:3988292384*(((x.testBit 0).toNat:Nat):Int)%4294967296=((if x.testBit 0 then zf else 0:Nat):Int):=by
  cases x.testBit 0<;>simp [zf]
 rw [e3,e4,sP (by omega) (by split<;>decide)]
 rfl
def qu (n:Nat):List Int:=(Zw 16).map fun j=>if j<n then ((gu j:Nat):Int) else 0
theorem rR (n:Nat):(qu n).length=16:=by simp [qu]
theorem xi {n j:Nat} (h:j<16):(qu n)[j]? =some (if j<n then ((gu j:Nat):Int) else 0):=by
 unfold qu;rw [List.getElem?_map,List.getElem?_range h];rfl
theorem IU {n:Nat} (h:n<16):(qu n).set n ((gu n:Nat):Int)=qu (n+1):=by
 apply List.ext_getElem?
 intro j;rw [List.getElem?_set]
 by_cases hj:j<16
 ·rw [xi hj,xi hj]
  by_cases e:n=j
  ·subst e;rw [if_pos rfl,if_pos (by rw [rR];exact h),if_pos (by omega)]
  ·rw [if_neg e]
   by_cases h1:j<n
   ·rw [if_pos h1,if_pos (by omega)]
   ·rw [if_neg h1,if_neg (by omega)]
 ·have h1:(qu n)[j]? =none:=Ye (by rw [rR];omega)
  have h2:(qu (n+1))[j]? =none:=Ye (by rw [rR];omega);rw [h1,h2,if_neg (by omega)]
def lH (l:List Int):Nat:=l.foldl (fun c x=>ww (c^^^x.toNat)) 4294967295
def C2 (l:List Int):Nat:=4294967295^^^lH l
theorem uO {l:List Int} (h:Byt l):lH l<4294967296:=by
 unfold lH
 have: ∀(l:List Int) (c:Nat),Byt l→c<4294967296→l.foldl (fun c x=>ww (c^^^x.toNat)) c<4294967296:=by
  intro l
  induction l with
  |nil=>intro c _ h;exact h
  |cons x l ih=>
   intro c hb hc;have:=hb.head;exact ih _ hb.tail (od (od (zg hc (by omega))))
 exact this l _ h (by decide)
theorem GZ {n:Nat} (h:n<4294967296):c9 .u32 (n:Int) 15=((n%16:Nat):Int):=by
 have:=Jw (a:=n) (b:=15) h (by omega);rw [show ((15:Nat):Int)=15 from rfl] at this;rw [this,show (15:Nat)=2^4 - 1 from rfl,Nat.and_two_pow_sub_one_eq_mod]
theorem LW {n:Nat}:aA .u32 (n:Int) 4=((n/16:Nat):Int):=by
 have:=ze (x:=(n:Int)) (k:=4) (by omega);rw [show ((4:Nat):Int)=4 from rfl] at this;rw [this];omega
theorem G0 (n:Nat) (h:n<4294967296):ix (qu 16) (c9 .u32 (n:Int) 15)=some (n%16)∧(qu 16)[n%16]? =some ((gu (n%16):Nat):Int):=by
 rw [GZ h];refine ⟨nJ (by rw [rR];omega),?_⟩;rw [xi (by omega),if_pos (by omega)]
theorem C3 {b:List Int} (hb:Byt b) (hl:b.length<4611686018427387904):gR b=some ((C2 b:Nat):Int):=by
 have hj1:lO b (qu 16)=some ((C2 b:Nat):Int):=by
  unfold lO;refine aU (fun i=>(((lH (b.take i):Nat):Int),(i:Int))) b.length rfl (fun i hi=> ?_) ?_
  ·dsimp only
   unfold oD;have hc:=uO (hb.take i);have hx:=hb _ (Z2 hi);obtain ⟨x,hx'⟩:=Zc hx.1;have e0:Xs.wrap b[i]=(x:Int):=by rw [ln];omega
   obtain ⟨c,hcc⟩: ∃c,c=lH (b.take i)^^^x:=⟨_,rfl⟩
   have hclt:c<4294967296:=by rw [hcc];exact zg hc (by omega)
   have hnext:lH (b.take (i+1))=ww c:=by
    rw [Z1 hi];unfold lH at hcc ⊢;rw [Xl,hcc];simp [hx']
   obtain ⟨t1,t2⟩:=G0 c hclt;have h4:=od (x:=c%16) (by omega)
   have e1:dO .u32 ((gu (c%16):Nat):Int) ((c/16:Nat):Int)=((gu c:Nat):Int):=by
    rw [sP h4 (by omega), ←wv]
   obtain ⟨u1,u2⟩:=G0 (gu c) (od hclt);have h5:=od (x:=gu c%16) (by omega)
   have e2:dO .u32 ((gu (gu c%16):Nat):Int) ((gu c/16:Nat):Int)=((ww c:Nat):Int):=by
    rw [sP h5 (by have:=od hclt;omega), ←wv];rfl
   rw [if_pos (by simpa using hi),ay hi,Z0,e0,sP hc (by omega), ←hcc,t1,Z0,t2,Z0,LW,e1,u1,Z0,u2,Z0,LW,e2,aT (by omega),hnext]
  ·dsimp only
   unfold oD vK;rw [if_neg (by simp),Z4]
   have e:zy .u32 ((lH b:Nat):Int)=((C2 b:Nat):Int):=by
    have:=sP (a:=4294967295) (b:=lH b) (by omega) (uO hb);unfold C2;rw [←this];rfl
   rw [e];rfl
 unfold gR;refine aU (fun i=>((i:Int),qu i)) 16 (by decide) (fun i hi=> ?_) ?_
 ·dsimp only
  unfold oE;rw [if_pos (by simpa using by omega)];have e0:Xs.wrap (i:Int)=((i:Nat):Int):=by rw [ln];omega
  rw [e0];refine aU (fun q=>(((Nat.repeat gk q i:Nat):Int),(q:Int))) 4 rfl (fun q hq=> ?_) ?_
  ·dsimp only
   unfold lP
   have hlt: ∀q,Nat.repeat gk q i<4294967296:=by
    intro q
    induction q with
    |zero=>show i<_;omega
    |succ q ih=>exact px ih
   rw [if_pos (by simpa using by omega),DQ (hlt q),aT (by omega)]
   rfl
  ·dsimp only
   unfold lP rp rl;rw [if_neg (by decide),nJ (by rw [rR];exact hi),Z0,xi hi,Z0,aT (by omega)];have:Nat.repeat gk 4 i=gu i:=rfl;rw [this,IU hi]
   rfl
 ·dsimp only
  unfold oE;rw [if_neg (by decide),hj1]
  rfl
open Option renaming bind_some→Z0,getD_some→Xe,bind_assoc→Y0
open List renaming take_succ_eq_append_getElem→Z1,getElem_mem→Z2,length_append→Z3,take_length→Z4,getElem?_eq_getElem→Z5,length_singleton→Z6,length_cons→Z7,replicate→Z9,eq_nil_of_length_eq_zero→Za,mem_append→Zd,mem_of_mem_take→Zf,take_append_drop→Zg,drop_eq_getElem_cons→Zh,length_pos_iff→Zi,append_assoc→Zj,pairwise_cons→Zk,length_take→Zl,pairwise_append→Zo,length_map→Zp,mem_cons→Zq,getD_eq_getElem?_getD→Zu,range→Zw,flatMap_cons→Zx,foldl_cons→Zy,nil_append→Zz,mem_map→X3,mem_singleton→X5,mem_of_getLast?→X7,pairwise_iff_getElem→X8,getElem?_eq_some_iff→X9,flatMap_append→Xa,cons_append→Xc,drop_zero→Xf,drop_left→Xg,getElem?_drop→Xh,take_of_length_le→Xi,take_left'→Xj,append_nil→Xk,foldl_append→Xl,length_range→Xm,length_replicate→Xn,dropLast_concat_getLast→Xq,getElem?_append_right→Xv,getLast?_eq_none_iff→Xx,getLast?_eq_getElem?→Xy,map_append→Xz,getElem?_append_left→Y1,mem_replicate→Y3,eq_of_mem_replicate→Y5,drop_drop→Y7,flatMap_singleton→Y9,map_cons→Yc,singleton_append→Yd,getElem?_eq_none→Ye,range_succ→Yg,map_nil→Yh
open Nat renaming le_refl→Zn,lt_of_lt_of_le→Zt,mul_le_mul→Zv,strongRecOn→Xb,testBit_xor→Xd,pow_le_pow_right→Xo,eq_of_testBit_eq→Xp,two_pow_add_eq_or_of_lt→Xr,mod_two_eq_zero_or_one→Xu,testBit_succ→Y8,xor_comm→Yj
open Bool renaming false_eq_true→Z8,not_true→Xw,not_false→Y6,not_eq_true→Ya,true_and→Yb
open Int renaming eq_ofNat_of_zero_le→Zc,tmod_eq_emod_of_nonneg→Zr,tdiv_eq_ediv_of_nonneg→Zs,fdiv_eq_ediv_of_nonneg→X4,natCast_pow→Xt,toNat_natCast→Y2,emod_eq_of_lt→Y4,le_of_lt→Yi
open BitVec renaming ofInt→Ze,toNat_ofInt→Zm
open Prod renaming ext→Yk
open IntKind renaming i64→Zb,u64→X6,u32→Xs,u8→Yf
theorem KD {b:List Int} (hb:Byt b) (hl:b.length<4611686018427387904):lw b=((C2 b:Nat):Int):=by
 unfold lw;rw [C3 hb hl];rfl
theorem Eo {b:List Int} (hb:Byt b) (hl:b.length<4611686018427387904):vT b=some (lw b):=by
 rw [KD hb hl];unfold vT;refine aU (fun i=>(((lH (b.take i):Nat):Int),(i:Int))) b.length rfl (fun i hi=> ?_) ?_
 ·dsimp only
  unfold vS;have hc:=uO (hb.take i);have hx:=hb _ (Z2 hi);obtain ⟨x,hx'⟩:=Zc hx.1;have e0:Xs.wrap b[i]=(x:Int):=by rw [ln];omega
  obtain ⟨c,hcc⟩: ∃c,c=lH (b.take i)^^^x:=⟨_,rfl⟩
  have hclt:c<4294967296:=by rw [hcc];exact zg hc (by omega)
  have hnext:lH (b.take (i+1))=ww c:=by
   rw [Z1 hi];unfold lH at hcc ⊢;rw [Xl,hcc];simp [hx']
  rw [if_pos (by simpa using hi),ay hi,Z0,e0,sP hc (by omega), ←hcc];refine aU (fun q=>(((Nat.repeat gk q c:Nat):Int),(q:Int))) 8 rfl (fun q hq=> ?_) ?_
  ·dsimp only
   have hlt: ∀q,Nat.repeat gk q c<4294967296:=by
    intro q
    induction q with
    |zero=>exact hclt
    |succ q ih=>exact px ih
   have hq0:=hlt q;obtain ⟨y,hy⟩: ∃y,y=Nat.repeat gk q c:=⟨_,rfl⟩
   have hs:Nat.repeat gk (q+1) c=gk y:=by rw [hy];rfl
   rw [←hy] at hq0 ⊢;unfold vR vQ;have e1:((y:Int)).tmod 2=((y%2:Nat):Int):=by rw [Zr (by omega)];omega
   have e2:((y:Int)).tdiv 2=((y/2:Nat):Int):=by rw [Zs (by omega)];omega
   have e3:Xs.wrap ((y/2:Nat):Int)=((y/2:Nat):Int):=by rw [ln];omega
   rw [if_pos (by simpa using by omega),e1,e2,e3,aT (by omega),hs];unfold gk;rw [Nat.testBit_zero];rcases Xu y with h|h
   ·rw [h,Yj];simp
   ·rw [h]
    have e4:dO .u32 ((y/2:Nat):Int) 3988292384=((y/2^^^zf:Nat):Int):=sP (a:=y/2) (b:=zf) (by omega) (by decide);rw [e4];rfl
  ·dsimp only
   unfold vR AT;rw [if_neg (by decide),aT (by omega),hnext]
   rfl
 ·dsimp only
  unfold vS AS;rw [if_neg (by simp),Z4];have e:=sP (a:=lH b) (b:=4294967295) (uO hb) (by omega);rw [show ((4294967295:Nat):Int)=4294967295 from rfl] at e;rw [e,Yj]
  rfl
def dK (n:Int):Nat→Int
 |0=>n
 |k+1=>dK n k/256
theorem Ae {n:Int} (h:0≤n∧n<18446744073709551616): ∀k,0≤dK n k∧dK n k<18446744073709551616
 |0=>h
 |k+1=>by have:=Ae h k;unfold dK;omega
theorem qS {n:Int} (h:0≤n∧n<4294967296):lQ n 4=some (be4 n):=by
 unfold lQ
 have inner: ∀(acc:List Int) (i:Nat),acc.length≤1000→i<10→oH n acc (i:Int)=some (.inl (acc++[dK n i%256],(i:Int) - 1)):=by
  intro acc i hal hi;unfold oH;rw [if_pos (by simp)];refine aU (fun q=>(dK n q,(q:Int))) i rfl (fun q hq=> ?_) ?_
  ·dsimp only
   unfold rE;have hb:=Ae (n:=n) (by omega) q
   have e:X6.wrap ((dK n q).tdiv 256)=dK n (q+1):=by
    rw [bA,Zs hb.1];have:dK n (q+1)=dK n q/256:=rfl;omega
   rw [if_pos (by simpa using hq),e,aT (by omega)]
  ·dsimp only
   unfold rE vW vV;have hb:=Ae (n:=n) (by omega) i
   have e:Yf.wrap ((dK n i).tmod 256)=dK n i%256:=by
    rw [bh,Zr hb.1];omega
   rw [if_neg (by simp),e,aF (by simp;omega),Z0,ak (by omega)]
   rfl
 have h3:=inner [] 3 (by simp) (by omega);have h2:=inner ([]++[dK n 3%256]) 2 (by simp) (by omega);have h1:=inner ([]++[dK n 3%256]++[dK n 2%256]) 1 (by simp) (by omega);have h0:=inner ([]++[dK n 3%256]++[dK n 2%256]++[dK n 1%256]) 0 (by simp) (by omega);rw [show Zb.wrap (4 - 1)=((3:Nat):Int) from rfl];rw [bK (s':=([]++[dK n 3%256],((2:Nat):Int))) (by dsimp only;rw [h3];rfl)];rw [bK (s':=([]++[dK n 3%256]++[dK n 2%256],((1:Nat):Int))) (by dsimp only;rw [h2];rfl)];rw [bK (s':=([]++[dK n 3%256]++[dK n 2%256]++[dK n 1%256],((0:Nat):Int))) (by dsimp only;rw [h1];rfl)]
 rw [bK (s':=([]++[dK n 3%256]++[dK n 2%256]++[dK n 1%256]++[dK n 0%256],-1)) (by dsimp only;rw [h0];rfl)];refine aY ?_;dsimp only;unfold oH vU;rw [if_neg (by decide)];have e3:dK n 3=n/2^24:=by unfold dK dK dK dK;omega
 have e2:dK n 2=n/2^16:=by unfold dK dK dK;omega
 have e1:dK n 1=n/2^8:=by unfold dK dK;omega
 rw [e3,e2,e1]
 rfl
def G1 (kind:Int) (l:List Ap):dm:=⟨kind,(l.length:Int),oR l,oS l,(fe l:Int),0⟩
theorem Fz {l:List Ap} {i:Nat} (h:i<l.length):fe (l.take (i+1))=fe (l.take i)+if (l[i].fKind==0)=true then 1 else 0:=by
 unfold fe;rw [Z1 h,List.filter_append,Z3];congr 1
 by_cases hv:(l[i].fKind==0)=true
 ·rw [if_pos hv];simp at hv;simp [hv]
 ·rw [if_neg hv];simp at hv;simp [hv]
theorem IV {l:List Ap} (kind:Int) (h:l≠[]) (hl:l.length≤1048576):uA kind l=some (G1 kind l):=by
 cases hlr:l with
 |nil=>exact absurd hlr h
 |cons v r=>
 rw [←hlr];have i0:idx l 0=some v:=by rw [hlr];exact dF _ _
 unfold uA;rw [i0,Z0,Z0];refine aU (fun i=>((i:Int),(⟨kind,(l.length:Int),(l.take i).foldl (fun m x=>if ltV x m then x else m) v,(l.take i).foldl (fun m x=>if ltV m x then x else m) v,(fe (l.take i):Int),0⟩:dm))) l.length rfl (fun i hi=> ?_) ?_
 ·dsimp only
  obtain ⟨a,ha⟩: ∃a,a=(l.take i).foldl (fun m x=>if ltV x m then x else m) v:=⟨_,rfl⟩
  obtain ⟨b,hb⟩: ∃b,b=(l.take i).foldl (fun m x=>if ltV m x then x else m) v:=⟨_,rfl⟩
  have hn:=rQ (l.take i);simp only [Zl] at hn;rw [iB hi,iB hi,Fz hi, ←ha, ←hb]
  have j3: ∀x y,pN l (i:Int) ⟨kind,(l.length:Int),x,y,(fe (l.take i):Int),0⟩=some (.inl (((i+1:Nat):Int),⟨kind,(l.length:Int),x,y,((fe (l.take i)+if (l[i].fKind==0)=true then 1 else 0:Nat):Int),0⟩)):=by
   intro x y;unfold pN tn;rw [ay hi,Z0,aT (by omega)]
   by_cases hv:(l[i].fKind==0)=true
   ·rw [if_pos hv,if_pos hv]
    dsimp only;rw [aT (by omega)]
   ·rw [if_neg hv,if_neg hv];rfl
  have j2: ∀x,pO l (i:Int) ⟨kind,(l.length:Int),x,b,(fe (l.take i):Int),0⟩=some (.inl (((i+1:Nat):Int),⟨kind,(l.length:Int),x,if ltV b l[i] then l[i] else b,((fe (l.take i)+if (l[i].fKind==0)=true then 1 else 0:Nat):Int),0⟩)):=by
   intro x;unfold pO;rw [ay hi,Z0,pp,Z0]
   by_cases hc:ltV b l[i]=true
   ·rw [if_pos (decide_eq_true ((uJ _ _).2 hc)),Z0,if_pos hc];exact j3 _ _
   ·rw [if_neg (by simpa using fun h=>hc ((uJ _ _).1 h)),if_neg hc];exact j3 _ _
  unfold to;rw [if_pos (by simpa using hi),ay hi,Z0,pp,Z0]
  by_cases hc:ltV l[i] a=true
  ·rw [if_pos (decide_eq_true ((kL _ _).2 hc)),Z0,if_pos hc];exact j2 _
  ·rw [if_neg (by simpa using fun h=>hc ((kL _ _).1 h)),if_neg hc];exact j2 _
 ·dsimp only
  unfold to xF;rw [if_neg (by simp),Z4]
  have e1:l.foldl (fun m x=>if ltV x m then x else m) v=oR l:=by
   rw [hlr];simp only [oR,Zy]
   have:ltV v v=false:=by
    cases hvv:ltV v v with
    |false=>rfl
    |true=>have:=rN hvv;rw [hvv] at this;cases this
   rw [this];rfl
  have e2:l.foldl (fun m x=>if ltV m x then x else m) v=oS l:=by
   rw [hlr];simp only [oS,Zy]
   have:ltV v v=false:=by
    cases hvv:ltV v v with
    |false=>rfl
    |true=>have:=rN hvv;rw [hvv] at this;cases this
   rw [this];rfl
  rw [e1,e2]
  rfl
theorem G2 {l:List Ap} (kind:Int) (h: ∀v∈l,VOK v) (hl:l.length≤1048576):uB kind l=some (wr kind l):=by
 have key: ∀k,l≠[]→pP l k=some (if (enc k l).2≠0 then ([],(enc k l).2) else (mp (ic k l),0)):=by
  intro k hne;unfold pP;rw [qt k h hl,Z0]
  by_cases he:(enc k l).2=0
  ·rw [if_neg (by simpa using he),if_neg (by simpa using he)]
   have he':enc k l=((enc k l).1,0):=Yk rfl he;obtain ⟨hk,h64,_⟩:=fh he';have hR:=tZ h he';have hdl:=uN h he';have hn:=rQ l;have h0:0<l.length:=Zi.2 hne;have hmin:=hR _ (uK hne);have hmax:=hR _ (uL hne);have l1:=(d5 hmin).2;have l2:=(d5 hmax).2;rw [IV k hne hl,Z0];simp only [G1];rw [oO hmin,Z0,aF (by simp;omega),Z0,oO hmax,Z0,aF (by simp;omega),Z0,aF (by simp;omega),Z0,aF (by simp;omega),Z0];have a1:Yf.wrap k=k:=by rw [bh];omega
   have a2:Yf.wrap (l.length:Int)=(l.length:Int):=by rw [bh];omega
   have a3:Yf.wrap (fe l:Int)=(fe l:Int):=by rw [bh];omega
   have a4:Yf.wrap (Zb.wrap (((enc k l).1.length:Int).tdiv 256))=(((enc k l).1.length/256:Nat):Int):=by
    rw [Zs (by omega),ak (by omega),bh];omega
   have a5:Yf.wrap (((enc k l).1.length:Int).tmod 256)=(((enc k l).1.length%256:Nat):Int):=by
    rw [Zr (by omega),bh];omega
   have e:(([Yf.wrap k,Yf.wrap (l.length:Int),Yf.wrap (fe l:Int)]++bp (oR l)++bp (oS l)++[Yf.wrap (Zb.wrap (((enc k l).1.length:Int).tdiv 256)),Yf.wrap (((enc k l).1.length:Int).tmod 256)])++(enc k l).1)=ic k l:=by
    unfold ic fJ be2;rw [a1,a2,a3,a4,a5];simp
   have hbb:Byt (ic k l):=A8 hk ⟨by omega,by omega⟩ ⟨by omega,by omega⟩ hmin hmax (xg k h) (by omega);have s2:(ic k l).length≤1000000000:=by unfold ic;rw [qh];omega
   have hu:=(wt (b:=ic k l) (by omega)).2;unfold U32 at hu;rw [e,Eo hbb (by omega),Z0,bA,Y4 hu.1 (by omega),qS hu,Z0,aF (by rw [dN];omega),Z0]
   rfl
  ·rw [if_pos (by simpa using he),if_pos he]
 unfold uB wr
 by_cases hne:l=[]
 ·subst hne;rfl
 ·have h0:0<l.length:=Zi.2 hne
  rw [if_neg (by simp;omega),if_neg hne];unfold ke
  by_cases hk:kind= -1
  ·rw [if_pos (by simpa using hk),if_pos hk,DP h hl,Z0,key _ hne]
  ·rw [if_neg (by simpa using hk),if_neg hk,key _ hne]
theorem IW {n:Int} (h:U32 n):ej (be4 n)=n:=by
 unfold U32 at h;unfold be4 ej;simp only [Zy,List.foldl_nil];omega
set_option linter.unusedVariables false
set_option linter.unusedSimpArgs false
section
variable {α:Type}
theorem LX {xs:List α} {i:Nat} (h:i<xs.length):ix xs (i:Int)=some i:=by
  unfold ix;rw [if_pos (by omega)];simp
theorem uP {xs A B:List α} {x:α} {i:Int} (e:xs=A++x::B) (hi:i=(A.length:Int)):ix xs i=some A.length:=by
  subst e hi;unfold ix;rw [if_pos (by simp;omega)];simp
theorem oT {xs A B:List α} {x:α} (e:xs=A++x::B):xs[A.length]? =some x:=by subst e;simp
theorem zh {xs A B:List α} {x:α} (y:α) (e:xs=A++x::B):xs.set A.length y=A++y::B:=by subst e;simp
theorem Jx {β:Type} {xs A B:List α} {x:α} {i:Int} {k:Nat→α→Option β} (e:xs=A++x::B) (hi:i=(A.length:Int)):((ix xs i).bind fun j=>(xs[j]?).bind fun x=>k j x)=k A.length x:=by
  rw [uP e hi,Z0,oT e,Z0]
def swp (xs:List α) (i j:Int):Option (List α):=
  (ix xs i).bind fun a=>(xs[a]?).bind fun x=>(ix xs j).bind fun b=>(xs[b]?).bind fun y=>(ix xs j).bind fun c=>(xs[c]?).bind fun _=>
  (ix (xs.set c x) i).bind fun d=>((xs.set c x)[d]?).bind fun _=>some ((xs.set c x).set d y)
theorem G3 {A B C xs:List α} {x y:α} {i j:Int} (e:xs=A++x::(B++y::C)) (hi:i=(A.length:Int)) (hj:j=(A.length:Int)+1+B.length):swp xs i j=some (A++y::(B++x::C)):=by
  have e2:xs=(A++x::B)++y::C:=by rw [e];simp
  have hj:j=((A++x::B).length:Int):=by rw [hj];simp;omega
  unfold swp;rw [uP e hi,Z0,oT e,Z0,uP e2 hj,Z0,oT e2,Z0,Z0,oT e2,Z0];have e3:=zh x e2;rw [e3];have e4:(A++x::B)++x::C=A++x::(B++x::C):=by simp
  rw [uP e4 hi,Z0,oT e4,Z0,zh y e4]
theorem G4 {A B C xs:List α} {x y:α} {i j:Int} (e:xs=A++x::(B++y::C)) (hi:i=(A.length:Int)) (hj:j=(A.length:Int)+1+B.length):swp xs j i=some (A++y::(B++x::C)):=by
  have e2:xs=(A++x::B)++y::C:=by rw [e];simp
  have hj:j=((A++x::B).length:Int):=by rw [hj];simp;omega
  unfold swp;rw [uP e2 hj,Z0,oT e2,Z0,uP e hi,Z0,oT e,Z0,Z0,oT e,Z0];have e3:=zh y e;rw [e3];have e4:A++y::(B++y::C)=(A++y::B)++y::C:=by simp
  have hj2:j=((A++y::B).length:Int):=by rw [hj];simp
  have e5:(A++x::B).length=(A++y::B).length:=by simp
  rw [uP e4 hj2,Z0,oT e4,Z0,zh x e4];simp
theorem Af {n:Nat} {S:List α} (h:S.length=n+1): ∃S' s,S=S'++[s]∧S'.length=n:=by
  have hn:S≠[]:=by intro e;rw [e] at h;cases h
  refine ⟨S.dropLast,S.getLast hn,(Xq hn).symm,by simp [h]⟩
theorem Stb.perm {lt:α→α→Bool} (h:Swo lt) {l l':List α} (hs:Stb lt l l'):l'.Perm l:=by
  classical
  rw [List.perm_iff_count];intro a;rw [←List.count_filter (p:=eqv lt a) (kj h a),hs.flt a,List.count_filter (kj h a)]
theorem Stb.len {lt:α→α→Bool} (h:Swo lt) {l l':List α} (hs:Stb lt l l'):l'.length=l.length:=(hs.perm h).length_eq
theorem Stb.app {lt:α→α→Bool} {l l' m m':List α} (h1:Stb lt l l') (h2:Stb lt (l'++m) m'):Stb lt (l++m) m':=
  h2.trans fun a=>by simp [h1.flt]
end
def Cmp {α:Type} (lt:α→α→Bool) (p:α→α→Option Int):Prop:= ∀x y,∃c,p x y=some c∧decide (c<0)=lt x y
section
variable {lt:aa→aa→Bool} {p:aa→aa→Option Int}
theorem LY (h : Swo lt) (hp : Cmp lt p) (L R : List aa) (v : aa) (a x6 : Int) (ha : a = (L.length : Int)) (hx : -9223372036854775808 ≤ x6 + 1 ∧ x6 + 1 ≤ 9223372036854775807) :
    ∀(n:Nat) (S1 S2:List aa) (j:Int) (xs:List aa),S1.length=n→j=(L.length:Int)+S1.length→xs=L++S1++v::(S2++R)→Srt lt (S1++S2)→(∀s∈S2,lt v s=true)→j<4611686018427387904→
    ∃T,aq (fun s:(Int×List aa)=>aX a p x6 s.1 s.2) (j,xs)=some (.inl (x6+1,L++T++R))∧Stb lt (S1++S2++[v]) T:=by
  intro n
  induction n with
  | zero =>
    intro S1 S2 j xs hn hj hxs hs hv hb;obtain rfl:=Za hn;refine ⟨v::S2,?_,?_⟩
    · apply aY
      simp only [aX];rw [if_neg (by simp;simp at hj;omega)];simp only [aW,cw,ak hx];simp [hxs]
    · simpa using Stb.ins h (S1:=[]) hs hv (by simp)
  | succ n ih =>
    intro S1 S2 j xs hn hj hxs hs hv hb;obtain ⟨S1',s,rfl,hn'⟩:=Af hn;rw [Z3,Z6] at hj;have e1:xs=(L++S1')++s::([]++v::(S2++R)):=by rw [hxs];simp
    have e2:xs=(L++(S1'++[s]))++v::(S2++R):=hxs;have hj1:j - 1=((L++S1').length:Int):=by rw [Z3];omega
    have hj2:j=((L++(S1'++[s])).length:Int):=by simp;omega
    have hw:Zb.wrap (j - 1)=j - 1:=ak (by omega);obtain ⟨c,hc,hd⟩:=hp v s
    have hb2:aX a p x6 j xs=aW x6 j xs (lt v s):=by
      simp only [aX];rw [if_pos (by simp;omega),Jx e2 hj2,hw,Jx e1 hj1,hc,Z0,hd]
    cases hl:lt v s with
    | true =>
      have hst:aX a p x6 j xs=some (.inl (j - 1,(L++S1')++v::([]++s::(S2++R)))):=by
        have h1:(swp xs (j - 1) j)=_:=G3 e1 hj1 (by rw [←hj1];simp)
        have h2:aW x6 j xs true=(swp xs (j - 1) j).bind fun r=>some (.inl (j - 1,r)):=by
          simp only [aW,swp,Y0,Z0,hw,if_true]
        rw [hb2,hl,h2,h1,Z0]
      obtain ⟨T,h1,h2⟩:=ih S1' (s::S2) (j - 1) _ hn' (by omega) rfl (by simpa using hs) (by
        intro x hx;rcases Zq.1 hx with rfl|hx
        · exact hl
        · exact hv x hx) (by omega)
      refine ⟨T,?_,by simpa using h2⟩;rw [bK hst];simpa using h1
    | false =>
      refine ⟨S1'++[s]++v::S2,?_,?_⟩
      · apply aY
        show aX a p x6 j xs=_;rw [hb2,hl];simp only [aW,cw,ak hx];simp [hxs]
      · refine Stb.ins h hs hv (Ch h ?_ hl)
        unfold Srt at hs ⊢;rw [Zo] at hs;exact hs.1
theorem KE (h:Swo lt) (hp:Cmp lt p) (L R:List aa) (a b:Int) (ha:a=(L.length:Int)) (hb:b<4611686018427387904):
    ∀(Y S0 S:List aa) (j:Int) (xs:List aa),Stb lt S0 S→j=(L.length:Int)+S.length→b=(L.length:Int)+S.length+Y.length→xs=L++S++(Y++R)→
    ∃T,aq (fun s:(Int×List aa)=>bg a b p s.1 s.2) (j,xs)=some (L++T++R)∧Stb lt (S0++Y) T:=by
  intro Y
  induction Y with
  | nil =>
    intro S0 S j xs hs hj hb' hxs;refine ⟨S,?_,by simpa using hs⟩;apply aY;simp only [bg];rw [if_neg (by simp;simp at hb';omega)];simp [hxs]
  | cons v Y ih =>
    intro S0 S j xs hs hj hb' hxs;rw [Z7] at hb';obtain ⟨T,h1,h2⟩:=LY h hp L (Y++R) v a j ha (by omega) S.length S [] j xs rfl hj (by rw [hxs];simp) (by simpa using hs.srt) (by simp) (by omega)
    have hst:bg a b p j xs=some (.inl (j+1,L++T++(Y++R))):=by
      simp only [bg];rw [if_pos (by simp;omega)];exact h1
    rw [Xk] at h2;have hlT:=h2.len h;rw [Z3,Z6] at hlT;obtain ⟨T',h3,h4⟩:=ih (S0++[v]) T (j+1) _ (hs.app h2) (by omega) (by omega) rfl;refine ⟨T',?_,by simpa using h4⟩;rw [bK hst,h3]
theorem G5 (h:Swo lt) (hp:Cmp lt p) (L X R:List aa) {a b:Int} {xs:List aa} (ha:a=(L.length:Int)) (hb:b=(L.length:Int)+X.length) (hn:b<4611686018427387904) (hxs:xs=L++X++R):
    ∃T,ce xs a b p=some (L++T++R)∧Stb lt X T:=by
  unfold ce;rw [ak (by omega)];cases X with
  | nil =>
    refine ⟨[],?_,⟨List.Pairwise.nil,fun _=>rfl⟩⟩;apply aY;simp only [bg];rw [if_neg (by simp;simp at hb;omega)];simp [hxs]
  | cons v X =>
    rw [Z7] at hb;obtain ⟨T,h1,h2⟩:=KE h hp L R a b ha hn X [v] [v] (a+1) xs ⟨by simp [Srt],fun _=>rfl⟩ (by simp;omega) (by simp;omega) (by rw [hxs];simp);exact ⟨T,h1,by simpa using h2⟩
end
set_option linter.unusedVariables false
set_option linter.unusedSimpArgs false
section
variable {lt:aa→aa→Bool} {p:aa→aa→Option Int}
theorem IX (p1 p2 p3:Int): ∀(U2 V2 A V1 B U1 C:List aa) (i:Int) (xs:List aa),V2.length=U2.length→V1.length=U1.length→i=(V1.length:Int)→p1=(A.length:Int)→
  p2=(A.length:Int)+V1.length+U2.length+B.length→p3=i+U2.length→xs=A++V1++U2++B++U1++V2++C→p2+p3<4611686018427387904→
  aq (fun s:(Int×List aa)=>bB p1 p2 p3 s.1 s.2) (i,xs)=some (A++(V1++V2)++B++(U1++U2)++C):=by
 intro U2
 induction U2 with
 |nil=>
  intro V2 A V1 B U1 C i xs h1 h2 h3 h4 h5 h6 hxs hb;obtain rfl:=Za (h1.trans rfl);apply aY;simp only [bB];rw [if_neg (by simp;simp at h6;omega)];simp [hxs]
 | cons u U2 ih =>
  intro V2 A V1 B U1 C i xs h1 h2 h3 h4 h5 h6 hxs hb;cases V2 with
  |nil=>cases h1
  | cons v V2 =>
   rw [Z7,Z7] at h1;rw [Z7] at h5 h6;have e1:xs=(A++V1)++u::((U2++B++U1)++v::(V2++C)):=by rw [hxs];simp
   have hi:p1+i=((A++V1).length:Int):=by rw [Z3];omega
   have hj:p2+i=((A++V1).length:Int)+1+(U2++B++U1).length:=by simp only [Z3];omega
   have hst:bB p1 p2 p3 i xs=some (.inl (i+1,(A++V1)++v::((U2++B++U1)++u::(V2++C)))):=by
    have h1:=G4 e1 hi hj
    have h2:bB p1 p2 p3 i xs=(swp xs (p2+i) (p1+i)).bind fun r=>some (.inl (i+1,r)):=by
     simp only [bB,swp,Y0,Z0];rw [if_pos (by simp;omega),ak (by omega),ak (by omega),ak (by omega)]
    rw [h2,h1,Z0]
   rw [bK hst,ih V2 A (V1++[v]) B (U1++[u]) C (i+1) _ (by omega) (by simp;omega) (by simp;omega) h4 (by simp;omega) (by omega) (by simp) hb];simp
theorem C4 {A U B V C xs:List aa} {p1 p2 p3:Int} (h1:V.length=U.length) (h2:p1=(A.length:Int)) (h3:p2=(A.length:Int)+U.length+B.length) (h4:p3=(U.length:Int)) (hxs:xs=A++U++B++V++C) (hb:p2+p3<4611686018427387904):
  cc xs p1 p2 p3 p=some (A++V++B++U++C):=by
 unfold cc;have:=IX p1 p2 p3 U V A [] B [] C 0 xs h1 rfl rfl h2 (by simp;omega) (by omega) (by simpa using hxs) hb;simpa using this
theorem IY (m:Int): ∀(n:Nat) (X Y A C:List aa) (i j:Int) (xs:List aa),X.length+Y.length=n→0<X.length→0<Y.length→i=(X.length:Int)→j=(Y.length:Int)→m=(A.length:Int)+X.length→
  xs=A++X++Y++C→m+j<2305843009213693952→i<2305843009213693952→
  aq (fun s:(Int×Int×List aa)=>bv m p s.1 s.2.1 s.2.2) (i,j,xs)=some (A++Y++X++C):=by
 intro n
 induction n using Xb with
 | _ n ih =>
  intro X Y A C i j xs hn hX hY hi hj hm hxs hb hb2
  by_cases hij:i=j
  ·apply aY
   simp only [bv];rw [if_neg (by simp [hij])];simp only [dW];rw [ak (by omega),C4 (A:=A) (U:=X) (B:=[]) (V:=Y) (C:=C) (by omega) (by omega) (by simp;omega) hi (by simp [hxs]) (by omega)];simp
  ·by_cases hlt:j<i
   ·have hX2:X=X.take Y.length++X.drop Y.length:=(Zg _ _).symm
    have hst:bv m p i j xs=some (.inl (i - j,j,(A++Y)++X.drop Y.length++X.take Y.length++C)):=by
     simp only [bv]
     rw [if_pos (by simp [hij]),if_pos (by simp [hlt]),ak (by omega),C4 (A:=A) (U:=X.take Y.length) (B:=X.drop Y.length) (V:=Y) (C:=C) (by simp;omega) (by omega) (by simp;omega) (by simp;omega)
      (by rw [hxs];simp) (by omega),Z0,ak (by omega)]
    rw [bK hst,ih (n - Y.length) (by omega) (X.drop Y.length) (X.take Y.length) (A++Y) C (i - j) j _ (by simp;omega) (by simp;omega) (by simp;omega) (by simp;omega) (by simp;omega) (by simp;omega) rfl (by omega) (by omega)];simp
   ·have hY2:Y=Y.take (Y.length - X.length)++Y.drop (Y.length - X.length):=(Zg _ _).symm
    have hst:bv m p i j xs=some (.inl (i,j - i,A++Y.drop (Y.length - X.length)++Y.take (Y.length - X.length)++(X++C))):=by
     simp only [bv]
     rw [if_pos (by simp [hij]),if_neg (by simp;omega),ak (n:=m - i) (by omega),ak (n:=m+j) (by omega),ak (n:=m+j - i) (by omega),
      C4 (A:=A) (U:=X) (B:=Y.take (Y.length - X.length)) (V:=Y.drop (Y.length - X.length)) (C:=C) (by simp;omega) (by omega) (by simp;omega) (by omega)
      (by rw [hxs];simp) (by omega),Z0,ak (by omega)]
     simp
    rw [bK hst,ih (n - X.length) (by omega) (Y.drop (Y.length - X.length)) (Y.take (Y.length - X.length)) A (X++C) i (j - i) _ (by simp;omega) (by simp;omega) (by simp;omega) (by simp;omega) (by simp;omega) (by simp;omega) rfl (by omega) (by omega)];simp
theorem LZ {A X Y C xs:List aa} {a m b:Int} (hX:0<X.length) (hY:0<Y.length) (ha:a=(A.length:Int)) (hm:m=a+X.length) (hb:b=m+Y.length) (hxs:xs=A++X++Y++C) (hn:b<2305843009213693952):
  cy xs a m b p=some (A++Y++X++C):=by
 unfold cy;rw [ak (by omega),ak (by omega)];exact IY m _ X Y A C _ _ xs rfl hX hY (by omega) (by omega) (by omega) hxs (by omega) (by omega)
theorem IZ (e:Int) (he:e<4611686018427387904) (x:aa) (Q:List aa): ∀(Bs pre:List aa) (k:Int) (xs:List aa),k=(pre.length:Int)→e - 1=k+Bs.length→xs=pre++x::(Bs++Q)→
  aq (fun s:(Int×List aa)=>bD e s.1 s.2) (k,xs)=some (pre++Bs++x::Q):=by
 intro Bs
 induction Bs with
 |nil=>
  intro pre k xs hk h1 hxs;apply aY;simp only [bD];rw [ak (by omega),if_neg (by simp;simp at h1;omega)];simp [dI,hxs]
 | cons b Bs ih =>
  intro pre k xs hk h1 hxs;rw [Z7] at h1;have e1:xs=pre++x::([]++b::(Bs++Q)):=by rw [hxs];simp
  have hst:bD e k xs=some (.inl (k+1,pre++b::([]++x::(Bs++Q)))):=by
   have h2:=G4 e1 hk (j:=k+1) (by simp;omega)
   have h3:bD e k xs=(swp xs (k+1) k).bind fun r=>some (.inl (k+1,r)):=by
    simp only [bD,swp,Y0,Z0];rw [ak (n:=e - 1) (by omega),if_pos (by simp;omega),ak (by omega)]
   rw [h3,h2,Z0]
  rw [bK hst,ih (pre++[b]) (k+1) _ (by simp;omega) (by omega) (by simp)];simp
theorem I0 (e:Int) (y:aa) (pre:List aa) (he:e=(pre.length:Int)): ∀(n:Nat) (As Q:List aa) (k:Int) (xs:List aa),As.length=n→k=e+As.length→xs=pre++As++y::Q→k<4611686018427387904→
  aq (fun s:(Int×List aa)=>bE e s.1 s.2) (k,xs)=some (pre++y::(As++Q)):=by
 intro n
 induction n with
 |zero=>
  intro As Q k xs hn hk hxs hb;obtain rfl:=Za hn;apply aY;simp only [bE];rw [if_neg (by simp;simp at hk;omega)];simp [dJ,hxs]
 | succ n ih =>
  intro As Q k xs hn hk hxs hb;obtain ⟨As',s,rfl,hn'⟩:=Af hn;rw [Z3,Z6] at hk;have e1:xs=(pre++As')++s::([]++y::Q):=by rw [hxs];simp
  have hst:bE e k xs=some (.inl (k - 1,(pre++As')++y::([]++s::Q))):=by
   have h2:=G3 e1 (i:=k - 1) (j:=k) (by simp;omega) (by simp;omega)
   have h3:bE e k xs=(swp xs (k - 1) k).bind fun r=>some (.inl (k - 1,r)):=by
    simp only [bE,swp,Y0,Z0];rw [if_pos (by simp;omega),ak (by omega)]
   rw [h3,h2,Z0]
  rw [bK hst,ih As' (s::Q) (k - 1) _ hn' (by omega) (by simp) (by omega)];simp
end
theorem Ag {β:Type} {F:Int×Int→Option ((Int×Int)⊕β)} (g:Nat→Bool) (lo0 hi0:Nat) (K:Nat→Option β)
  (hgo: ∀lo hi:Nat,lo0≤lo→lo<hi→hi≤hi0→F (lo,hi)=some (.inl (if g ((lo+hi)/2) then (((lo+hi)/2+1:Nat),hi) else (lo,((lo+hi)/2:Nat)))))
  (hend: ∀s:Nat,lo0≤s→s≤hi0→F (s,s)=(K s).map Sum.inr) (h:lo0≤hi0):
  ∃s:Nat,lo0≤s∧s≤hi0∧(s=lo0∨g (s - 1)=true)∧(s=hi0∨g s=false)∧aq F ((lo0:Int),(hi0:Int))=K s:=by
 have key: ∀(n lo hi:Nat),hi - lo=n→lo0≤lo→lo≤hi→hi≤hi0→(lo=lo0∨g (lo - 1)=true)→(hi=hi0∨g hi=false)→
   ∃s:Nat,lo0≤s∧s≤hi0∧(s=lo0∨g (s - 1)=true)∧(s=hi0∨g s=false)∧aq F ((lo:Int),(hi:Int))=K s:=by
  intro n
  induction n using Xb with
  | _ n ih =>
   intro lo hi hn h1 h2 h3 h4 h5
   by_cases hlt:lo<hi
   ·have hst:=hgo lo hi h1 hlt h3
    cases hg:g ((lo+hi)/2) with
    |true=>
     rw [hg,if_pos rfl] at hst;rw [bK hst];exact ih (hi - ((lo+hi)/2+1)) (by omega) _ _ rfl (by omega) (by omega) h3 (Or.inr (by simpa using hg)) h5
    |false=>
     rw [hg,if_neg (by simp)] at hst;rw [bK hst];exact ih ((lo+hi)/2 - lo) (by omega) _ _ rfl h1 (by omega) (by omega) h4 (Or.inr hg)
   ·obtain rfl:lo=hi:=by omega
    refine ⟨lo,h1,h3,h4,h5,?_⟩;rw [o4,hend lo h1 h3];cases K lo<;>rfl
 exact key _ lo0 hi0 rfl (Zn _) h (Zn _) (Or.inl rfl) (Or.inl rfl)
theorem wy {x:Int} (h:0≤x∧x<9223372036854775808):Zb.wrap (aA .u64 (X6.wrap (Zb.wrap x)) 1)=x/2:=by
 rw [ak (n:=x) (by omega),bA,Y4 (by omega) (by omega)];have:aA .u64 x ((1:Nat):Int)=x/2^1:=pT (by decide);rw [show (1:Int)=((1:Nat):Int) from rfl,this,ak (by omega)]
 rfl
section
variable {α:Type}
theorem t6 {β:Type} {xs:List α} {x:α} {i:Int} {h:Nat} {k:Nat→α→Option β} (e:xs[h]? =some x) (hi:i=(h:Int)):((ix xs i).bind fun j=>(xs[j]?).bind fun x=>k j x)=k h x:=by
 obtain ⟨hl,hx⟩:=X9.1 e;rw [hi,LX hl,Z0,e,Z0]
theorem xsA {L A B R:List α} {k:Nat} (h:k<A.length):(L++A++B++R)[L.length+k]? =A[k]? :=by
 rw [Zj,Zj,Xv (by omega),show L.length+k - L.length=k by omega,Y1 h]
theorem xsB {L A B R:List α} {k:Nat} (h:k<B.length):(L++A++B++R)[L.length+A.length+k]? =B[k]? :=by
 rw [Zj,Xv (by simp),show L.length+A.length+k - (L++A).length=k by simp,Y1 h]
theorem A9 {A:List α} {k:Nat} (h:k<A.length) {x:α} (e:A[k]? =some x): ∃A',A.take (k+1)=A'++[x]:=by
 obtain ⟨hl,hx⟩:=X9.1 e;exact ⟨A.take k,by rw [List.take_add_one,e];rfl⟩
theorem zi {A:List α} {k:Nat} {x:α} (e:A[k]? =some x): ∃A',A.drop k=x::A':=by
 obtain ⟨hl,hx⟩:=X9.1 e;exact ⟨A.drop (k+1),by rw [Zh hl,hx]⟩
theorem L2 {lt:α→α→Bool} (h:Swo lt) {A1 A2 B1 B2:List α} (hA:Srt lt (A1++A2)) (hB:Srt lt (B1++B2))
  (h1:B1=[]∨A2=[]∨ ∃B' b a A',B1=B'++[b]∧A2=a::A'∧lt b a=true)
  (h2:A1=[]∨B2=[]∨ ∃A' a b B',A1=A'++[a]∧B2=b::B'∧lt b a=false):
  (∀b∈B1,∀a∈A2,lt b a=true)∧(∀a∈A1,∀b∈B2,lt b a=false):=by
 unfold Srt at hA hB;rw [Zo] at hA hB;constructor
 ·rcases h1 with rfl|rfl|⟨B',bl,af,A',rfl,rfl,hl⟩
  ·simp
  ·simp
  ·intro b hb a ha
   cases hba:lt b a with
   |true=>rfl
   | false =>
    exfalso
    have hb1:lt bl b=false:=by
     rcases Zd.1 hb with hb|hb
     ·exact (Zo.1 hB.1).2.2 b hb bl (by simp)
     ·simp at hb;subst hb;exact h.irr _
    have ha1:lt a af=false:=by
     rcases Zq.1 ha with rfl|ha
     ·exact h.irr _
     ·exact (Zk.1 hA.2.1).1 a ha
    have:=h.inc bl a af (h.inc bl b a hb1 hba) ha1;rw [hl] at this;cases this
 ·rcases h2 with rfl|rfl|⟨A',al,bf,B',rfl,rfl,hl⟩
  ·simp
  ·simp
  ·intro a ha b hb
   have hb1:lt b bf=false:=by
    rcases Zq.1 hb with rfl|hb
    ·exact h.irr _
    ·exact (Zk.1 hB.2.1).1 b hb
   have ha1:lt al a=false:=by
    rcases Zd.1 ha with ha|ha
    ·exact (Zo.1 hA.1).2.2 a ha al (by simp)
    ·simp at ha;subst ha;exact h.irr _
   exact h.inc b bf a hb1 (h.inc bf al a hl ha1)
theorem Srt.take {lt:α→α→Bool} {A:List α} (h:Srt lt A) (k:Nat):Srt lt (A.take k):=List.Pairwise.sublist (List.take_sublist k A) h
theorem Srt.drop {lt:α→α→Bool} {A:List α} (h:Srt lt A) (k:Nat):Srt lt (A.drop k):=List.Pairwise.sublist (List.drop_sublist k A) h
end
set_option linter.unusedVariables false
set_option linter.unusedSimpArgs false
section
variable {lt:aa→aa→Bool} {p:aa→aa→Option Int}
def FA (lt : aa → aa → Bool) (p : aa → aa → Option Int) (self_ : List aa → Int → Int → Int → (aa → aa → Option Int) → Option (List aa)) (N : Nat) : Prop :=
  ∀ (L A B R : List aa) (a m b : Int) (xs : List aa), 0 < A.length → 0 < B.length → a = (L.length : Int) → m = (L.length : Int) + A.length → b = (L.length : Int) + A.length + B.length → xs = L ++ A ++ B ++ R →
    A.length+B.length≤N→xs.length<1152921504606846976→Srt lt A→Srt lt B→ ∃T,self_ xs a m b p=some (L++T++R)∧Stb lt (A++B) T
def gx (lt:aa→aa→Bool) (xs:List aa) (i j:Nat):Bool:=match xs[i]?,xs[j]? with
  |some x,some y=>lt x y
  |_,_=>false
theorem zj {xs:List aa} {i j:Nat} {x y:aa} (h1:xs[i]? =some x) (h2:xs[j]? =some y):gx lt xs i j=lt x y:=by simp [gx,h1,h2]
theorem wz (h:Swo lt) {L A B R xs:List aa} (hxs:xs=L++A++B++R) (hA:Srt lt A) (hB:Srt lt B) (k1 k2:Nat) (h1:k1≤A.length) (h2:k2≤B.length)
    (c1:k2=0∨k1=A.length∨(0<k2∧k1<A.length∧gx lt xs (L.length+A.length+(k2 - 1)) (L.length+k1)=true))
    (c2:k1=0∨k2=B.length∨(0<k1∧k2<B.length∧gx lt xs (L.length+A.length+k2) (L.length+(k1 - 1))=false)):
    (∀b∈B.take k2,∀a∈A.drop k1,lt b a=true)∧(∀a∈A.take k1,∀b∈B.drop k2,lt b a=false):=by
  have hA':Srt lt (A.take k1++A.drop k1):=by rw [Zg];exact hA
  have hB':Srt lt (B.take k2++B.drop k2):=by rw [Zg];exact hB
  refine L2 h hA' hB' ?_ ?_
  · rcases c1 with rfl | rfl | ⟨hk, hk1, hg⟩
    · simp
    · simp
    · right; right
      have eb:B[k2 - 1]? =some B[k2 - 1]:=Z5 (by omega);have ea:A[k1]? =some A[k1]:=Z5 hk1;obtain ⟨B',hB'⟩:=A9 (by omega) eb;obtain ⟨A',hA'⟩:=zi ea;rw [show k2 - 1+1=k2 by omega] at hB';refine ⟨B',_,_,A',hB',hA',?_⟩;rw [←hg,hxs,zj ((xsB (by omega)).trans eb) ?_];exact (xsA hk1).trans ea
  · rcases c2 with rfl | rfl | ⟨hk, hk2, hg⟩
    · simp
    · simp
    · right; right
      have ea:A[k1 - 1]? =some A[k1 - 1]:=Z5 (by omega);have eb:B[k2]? =some B[k2]:=Z5 hk2;obtain ⟨A',hA'⟩:=A9 (by omega) ea;obtain ⟨B',hB'⟩:=zi eb;rw [show k1 - 1+1=k1 by omega] at hA';refine ⟨A',_,_,B',hA',hB',?_⟩;rw [←hg,hxs,zj ((xsB hk2).trans eb) ?_];exact (xsA (by omega)).trans ea
theorem KF (h : Swo lt) (hp : Cmp lt p) {L B R xs : List aa} {x : aa} {a m b : Int} (hB0 : 0 < B.length) (ha : a = (L.length : Int)) (hm : m = (L.length : Int) + 1) (hb : b = (L.length : Int) + 1 + B.length)
    (hxs:xs=L++[x]++B++R) (hn:xs.length<1152921504606846976) (hB:Srt lt B):
    ∃T,aq (fun s:(Int×Int)=>bT xs a p s.1 s.2) (m,b)=some (L++T++R)∧Stb lt ([x]++B) T:=by
  have hlen:xs.length=L.length+1+B.length+R.length:=by rw [hxs];simp;omega
  have ex:xs[L.length]? =some x:=by rw [hxs];simp
  have hm':m=((L.length+1:Nat):Int):=by omega
  have hb':b=((L.length+1+B.length:Nat):Int):=by omega
  obtain ⟨s,h1,h2,h3,h4,h5⟩:=Ag (F:=fun s:(Int×Int)=>bT xs a p s.1 s.2) (fun c=>gx lt xs c L.length) (L.length+1) (L.length+1+B.length)
    (fun s=>cO xs a (s:Int)) (fun lo hi h1 h2 h3=>by
      have hc:(lo+hi)/2<xs.length:=by omega
      have ec:xs[(lo+hi)/2]? =some xs[(lo+hi)/2]:=Z5 hc;obtain ⟨c,hc1,hc2⟩:=hp xs[(lo+hi)/2] x;simp only [bT];rw [if_pos (by simp;omega),wy (by omega),t6 ec (by omega),t6 ex ha,hc1,Z0,hc2,zj ec ex,ak (by omega)]
      split<;>rfl)
    (fun s h1 h2=>by
      simp only [bT]
      rw [if_neg (by simp)]) (by omega)
  obtain ⟨k,rfl⟩: ∃k,s=L.length+1+k:=⟨s - (L.length+1),by omega⟩
  have hcut := wz h (A := [x]) hxs (by simp [Srt]) hB 0 k (by simp) (by omega)
    (by rcases h3 with h3 | h3
        · left;omega
        · by_cases hk : k = 0
          · left;exact hk
          · right; right; refine ⟨by omega, by simp, ?_⟩
            rw [←h3];congr 1;simp;omega)
    (Or.inl rfl)
  have hcut2: ∀b∈B.drop k,lt b x=false:=by
    have := wz h (A := [x]) hxs (by simp [Srt]) hB 1 k (by simp) (by omega) (Or.inr (Or.inl rfl))
      (by rcases h4 with h4 | h4
          · right;left;omega
          · by_cases hk : k = B.length
            · right;left;exact hk
            · right; right; refine ⟨by omega, by omega, ?_⟩
              rw [←h4];congr 1)
    intro b hb;exact this.2 x (by simp) b hb
  refine ⟨B.take k++x::B.drop k,?_,?_⟩
  · rw [hm', hb', h5]
    unfold cO;rw [IZ _ (by omega) x (B.drop k++R) (B.take k) L a xs ha (by simp;omega) (by rw [hxs, ←Zj (B.take k),Zg];simp)];simp
  · have hB' : Srt lt (B.take k ++ B.drop k) := by rw [Zg]; exact hB
    have:=Stb.cat h (A1:=[]) (A2:=[x]) (B1:=B.take k) (B2:=B.drop k) (R1:=B.take k) (R2:=x::B.drop k) (Stb.refl (hB.take k))
      (Stb.refl (by
        unfold Srt;rw [Yd,Zk]
        exact ⟨hcut2,hB.drop k⟩)) (by simp [Srt]) hB' (fun b hb a ha=>hcut.1 b hb a ha) (by simp)
    simpa using this
theorem I1 (h : Swo lt) (hp : Cmp lt p) {L A R xs : List aa} {y : aa} {a m : Int} (hA0 : 0 < A.length) (ha : a = (L.length : Int)) (hm : m = (L.length : Int) + A.length)
    (hxs:xs=L++A++[y]++R) (hn:xs.length<1152921504606846976) (hA:Srt lt A):
    ∃T,aq (fun s:(Int×Int)=>bU xs m p s.1 s.2) (a,m)=some (L++T++R)∧Stb lt (A++[y]) T:=by
  have hlen:xs.length=L.length+A.length+1+R.length:=by rw [hxs];simp;omega
  have ey:xs[L.length+A.length]? =some y:=by
    rw [hxs];simp
  have hm':m=((L.length+A.length:Nat):Int):=by omega
  obtain ⟨s,h1,h2,h3,h4,h5⟩:=Ag (F:=fun s:(Int×Int)=>bU xs m p s.1 s.2) (fun c=> !gx lt xs (L.length+A.length) c) L.length (L.length+A.length)
    (fun s=>cP xs m (s:Int)) (fun lo hi h1 h2 h3=>by
      have hc:(lo+hi)/2<xs.length:=by omega
      have ec:xs[(lo+hi)/2]? =some xs[(lo+hi)/2]:=Z5 hc;obtain ⟨c,hc1,hc2⟩:=hp y xs[(lo+hi)/2];simp only [bU];rw [if_pos (by simp;omega),wy (by omega),t6 ey hm',t6 ec (by omega),hc1,Z0,hc2,zj ey ec,ak (by omega)]
      split<;>rfl)
    (fun s h1 h2=>by
      simp only [bU]
      rw [if_neg (by simp)]) (by omega)
  obtain ⟨k,rfl⟩: ∃k,s=L.length+k:=⟨s - L.length,by omega⟩
  have hk:k≤A.length:=by omega
  have hcut1: ∀a∈A.drop k,lt y a=true:=by
    have := wz h hxs hA (by simp [Srt] : Srt lt [y]) k 1 hk (by simp)
      (by rcases h4 with h4 | h4
          · right;left;omega
          · by_cases hk' : k = A.length
            · right;left;exact hk'
            · right; right; refine ⟨by omega, by omega, ?_⟩
              simpa using h4)
      (Or.inr (Or.inl rfl))
    intro a ha;exact this.1 y (by simp) a ha
  have hcut2: ∀a∈A.take k,lt y a=false:=by
    have := wz h hxs hA (by simp [Srt] : Srt lt [y]) k 0 hk (by simp) (Or.inl rfl)
      (by rcases h3 with h3 | h3
          · left;omega
          · by_cases hk' : k = 0
            · left;exact hk'
            · right; right; refine ⟨by omega, by simp, ?_⟩
              rw [show L.length+(k - 1)=L.length+k - 1 by omega]
              simpa using h3)
    intro a ha;exact this.2 a ha y (by simp)
  refine ⟨A.take k++y::A.drop k,?_,?_⟩
  · rw [ha, hm']
    rw [←hm', ←ha] at h5 ⊢;rw [h5];unfold cP;rw [I0 _ y (L++A.take k) (by simp;omega) _ (A.drop k) R m xs rfl (by simp;omega) (by rw [hxs];simp) (by omega)];simp
  · have hA' : Srt lt (A.take k ++ A.drop k) := by rw [Zg]; exact hA
    have:=Stb.cat h (A1:=A.take k) (A2:=A.drop k) (B1:=[y]) (B2:=[]) (R1:=A.take k++[y]) (R2:=A.drop k) (Stb.refl (by
        unfold Srt;rw [Zo];refine ⟨hA.take k,by simp,fun a ha b hb=> ?_⟩;rw [X5] at hb;subst hb
        exact hcut2 a ha)) (by simpa using Stb.refl (hA.drop k)) hA' (by simp [Srt]) (fun b hb a ha=>by
          rw [X5] at hb;subst hb
          exact hcut1 a ha) (by simp)
    simpa using this
theorem PK {self_:List aa→Int→Int→Int→(aa→aa→Option Int)→Option (List aa)} {xs:List aa} {a m b s mid e:Int}
    (hmid:mid=(a+b)/2) (he:e=mid+m - s) (h0:0≤a) (h1:0≤m) (h2:0≤b) (h3:0≤s) (ha:a<1152921504606846976) (hb:b<1152921504606846976) (hm:m<1152921504606846976) (hs:s<1152921504606846976):
    cm xs a m b p self_ s=(if s<m∧m<e then cy xs s m e p else some xs).bind fun r=>
      (if a<s∧s<mid then self_ r a s mid p else some r).bind fun r2=>(if mid<e∧e<b then self_ r2 mid e b p else some r2):=by
  have hM:Zb.wrap (aA .u64 (X6.wrap (Zb.wrap (a+b))) 1)=mid:=by rw [wy (by omega),hmid]
  have hN:Zb.wrap (mid+m)=mid+m:=ak (by omega);have hE:Zb.wrap (mid+m - s)=e:=by rw [ak (by omega),he]
  have h11: ∀r2,cj a m b p self_ s r2=(if mid<e∧e<b then self_ r2 mid e b p else some r2):=by
    intro r2;simp only [cj,cH,hM,hN,hE]
    by_cases c1:mid<e<;>by_cases c2:e<b<;>simp [c1,c2]
  have h9: ∀r,cl a m b p self_ s r=(if a<s∧s<mid then self_ r a s mid p else some r).bind fun r2=>(if mid<e∧e<b then self_ r2 mid e b p else some r2):=by
    intro r;simp only [cl,cQ,hM,h11]
    by_cases c1:a<s<;>by_cases c2:s<mid<;>simp [c1,c2]
  simp only [cm,cR,hM,hN,hE,h9]
  by_cases c1:s<m<;>by_cases c2:m<e<;>simp [c1,c2]
end
end Go.Proofs.YthbonoagbeilkaaGreat.Hay
